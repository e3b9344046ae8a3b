/- The library's slices.Values over texts: the iterator. The li -/
import Derived.Test.YtfcbghmbbjolcaaGreatDoorJUsed
import Derived.Lib.AppendZerosOnto
import Derived.Maps.OwnIn
set_option maxHeartbeats 4000000
set_option maxRecDepth 100000
namespace Go.Proofs.YtfcbghmbbjolcaaGreatDoor
open Go Go.RowKit Go.Shelf Um Fm Mt
attribute [local go_sem] Oper.semAt_some
theorem G7 (a:Option Addr) (n c:Nat) (w:World) :
  Calls Tryz.prog 120 #[.slice a n c] w λe w'=>e=.returned (.func (.func 180) #[] #[.pointer (some ⟨w.heap.size,0,none⟩)])/\w'=w.alloc (.cells #[.slice a n c] 23):=by
 go_enter Tryz.func120,Tryz.ntmps120
 go_wp2
 go_ret
 exact⟨rfl,rfl⟩
def Jz (h:Nat->Obj->Bool) (S:Nat) (J:List ByteArray->World->Prop) (l:List ByteArray) (W:World) (i:Value) (wr:World):Prop:=
 ∃k:Nat,k<=l.length/\i=.int .i64 k/\J (l.take k) wr/\Kb h S W wr
abbrev Jo (s:ByteArray):Array Value:=#[.string s]
theorem uK (F:Fence) (hd:F.depth=none) (h5:F.fn 180) (hro:F.round=none) (h:Nat->Obj->Bool) (m:Nat) (w:World) (l:List ByteArray) (A:Option Addr) (c Bp:Nat)
  (hr:Rd (wo h w) A (l.map Value.string)) (hl:l.length<=8796093021952) (hb:(wo h w).cell? ⟨Bp,0,none⟩=some (.slice A l.length c)) :
  SeqStopsK F m Tryz.prog 180 #[.pointer (some ⟨Bp,0,none⟩)] Jo (Kb h w.heap.size) (λys=>ys=l) (λpre=>pre <+: l) l.length w:=by
 intro y J Jx W hW hJ hJx hY h0
 have hdd:∀k:Nat,(F.depth.isSome=true->1<=k):=λk h=>by rw[hd]at h;cases h
 have hkb:=Kb.of_below (hd:=h) hW (Nat.le_refl _)
 have hb2:=(aV.1 (hkb.cells _ _ hb)).1
 have hl':(l.length:Int)<=8796093021952:=by omega
 refine callsIn_of_wp Tryz.func180 rfl h5 ?_ hro
 simp only[Tryz.ntmps180,List.size_toArray,List.length_cons,List.length_nil,Nat.reduceAdd,Nat.reduceSub,Array.replicate_succ,Array.replicate_zero,List.push_toArray,List.append_toArray,List.nil_append,List.cons_append]
 gi_wp2
 gi_loopw [7] (Jz h w.heap.size J l W) (λi _=>l.length-(intOf i).toNat)
 case atStart=>exact⟨0,by omega,rfl,by simpa using h0,Kb.refl _ _ _⟩
 case round =>
  obtain⟨k,hk,rfl,hj,hkw⟩:=hrel
  by_cases hlt:k<l.length
  ·obtain⟨s,hs⟩:∃x,l[k]?=some x:=⟨_,List.getElem?_eq_getElem hlt⟩
   obtain⟨g,o,rfl,c0⟩:=hr.at_ (j:=k) (u:=.string s) (by simp[hs])
   have e0:=(aV.1 ((hkb.trans hkw).cells _ _ c0)).1
   have hyY:=YieldAt.anyDepth' hd (m-1) (hY (l.take k) s wr hj (by rw[List.length_take];omega))
   have Hts:=Lib.hid (ah hs)
   have Hpre:Hid (l.take (k+1) <+: l):=List.take_prefix _ _
   obtain⟨fn,tmps,assign,body,hy',hR⟩:=hyY
   have Hkw:=Lib.hid hkw
   clear hY hJ hJx hr hb hb2 hkb hkw hs c0 hj h0
   gi_wp2_with ((try refine⟨hdd _,?_⟩);refine hR.mono ?_;clear hR;rintro e W2 (⟨rfl,hJ2,hkb2⟩|⟨rfl,hx2⟩))
   ·gi_wp2
    go_roundw
    case rel=>exact⟨k+1,by omega,by go_num,by rw[Hts.out];exact hJ2,Hkw.out.trans hkb2⟩
    case measure=>simp[intOf];omega
   ·gi_wp2
    ((try simp only[Exit.inBlock,Exit.then]);refine bodyPost_ret (results_none rfl _ _ _) rfl ?_)
    exact⟨⟨_,rfl⟩,.inr ⟨l.take (k+1),Hpre.out,by rw[Hts.out];exact hx2⟩⟩
  ·have hk2:l.take k=l:=List.take_of_length_le (by omega)
   rw[hk2]at hj
   clear hY hJ hJx hr hb hb2 hkb
   gi_wp2
   go_end0
   exact⟨⟨_,rfl⟩,.inl ⟨l,rfl,hj⟩⟩
def JP (w:World) (e:Ending) (w':World):Prop:=∃v,e=.returned v/\w'.ownsRow w.heap.size 9 1 v 0 []/\Below w.heap.size w w'
theorem Jt (n:Nat) (w:World) (hn:n<=3000000):Calls Tryz.prog 181 #[.slice none 0 0,.int .i64 n] w (JP w):=by
 have hn':(n:Int)<=3000000:=by omega
 by_cases h0:0<n
 ·obtain⟨i,hi,hz,hsize,hby⟩:=info_parts bf
  have hrz:∀ty,(Builtin.append_ #[23,3] ty #[.slice none 0 0,.int .i64 n]).run Tryz.prog w=_:=λty =>
   Lib.run_append_grow_zeros w 23 3 ty 9 i (.string ⟨#[]⟩) .i64 .i64 Tryz.underlying23 Tryz.underlying3 hi hz none 0 0 [] (run_firstCells_none w.drew i.size 0 0 0) n h0 (by omega) (by omega) (by omega)
    (by rw[hby];omega) (by rw[Nat.zero_add,hby];exact growslice_fits h0 (by omega))
  simp only[Nat.zero_add]at hrz
  have hG1:n<=grownCap w n 0 9:=grownCap_ge w _ _ _
  have hG2:=grownCap_le_maxLen w n 0 9 (by unfold maxLen;omega)
  obtain⟨G,hG⟩:∃G,grownCap w n 0 9=G:=⟨_,rfl⟩
  rw[hG]at hG1 hG2 hrz
  obtain⟨cs,hcs⟩:∃cs:Array Value,([]:List Value).toArray++Builtin.zeroCells (Value.string ⟨#[]⟩).cells n++Builtin.zeroCells (Value.string ⟨#[]⟩).cells (G-n)=cs:=⟨_,rfl⟩
  have hsz:cs.size=G*1:=by
   rw[←hcs,Array.size_append,Array.size_append,size_zeroCells,size_zeroCells]
   show 0+n*1+(G-n)*1=G*1
   omega
  rw[hcs]at hrz
  have hG3:(G:Int)<=9223372036854775807:=by unfold maxLen at hG2;omega
  have h0':0<(n:Int):=by omega
  have own:(w.drew.alloc (.cells cs 9)).ownsRow w.heap.size 9 1 (.slice (some ⟨w.heap.size,0,none⟩) 0 G) 0 []:=
   ⟨rfl,.inr ⟨w.heap.size,G,cs,rfl,Nat.le_refl _,heap_alloc_new w.drew _,by omega,hG2,hsz,by simp⟩⟩
  have bel:Below w.heap.size w (w.drew.alloc (.cells cs 9)):=((Below.refl _ _).drew).alloc (Nat.le_refl _) _
  have Own:=Lib.hid own
  clear hG hcs hsz hi hz hsize hby own hG2
  go_enter Tryz.func181,Tryz.ntmps181
  go_wp2_with (at_builtin;refine Lib.wpList_append_run _ rfl _ _ _ _ rfl _ _ rfl rfl _ _ (hrz _) ?_)
  go_ret
  exact⟨_,rfl,Own.out,bel⟩
 ·obtain rfl:n=0:=by omega
  go_enter Tryz.func181,Tryz.ntmps181
  go_wp2
  go_ret
  exact⟨_,rfl,World.ownsRow_nil _ _ _ _,Below.refl _ _⟩
abbrev Ek (w:World) (A:Option Addr) (ls:List (List ByteArray)):Prop:=RdL 1 (λcs l=>∃(B:Option Addr) (c:Nat),cs=[.slice B l.length c]/\Rd w B (l.map Value.string)) w A ls
theorem Ek.later {w w':World} {A:Option Addr} {ls:List (List ByteArray)} (h:Ek w A ls) (hb:Below w.heap.size w w'):Ek w' A ls:=
 RdL.mono h hb λ_ _ _ ⟨B,c,h1,h2⟩=>⟨B,c,h1,h2.later hb⟩
def iw (ls:List (List ByteArray)):Nat:=(ls.map List.length).sum
theorem i6 {ls:List (List ByteArray)} {k:Nat} {l:List ByteArray} (h:ls[k]?=some l):iw (ls.take (k+1))=iw (ls.take k)+l.length:=by
 unfold iw;rw[ah h,List.map_append,List.sum_append];simp
theorem yN (ls:List (List ByteArray)):(ls.flatMap id).length=iw ls:=by
 unfold iw;induction ls with
 | nil=>rfl
 | cons a r ih=>simp[List.flatMap_cons]
theorem md (ls:List (List ByteArray)) (k:Nat):iw (ls.take k)<=iw ls:=by
 unfold iw
 conv=>rhs;rw[←List.take_append_drop k ls]
 rw[List.map_append,List.sum_append];omega
def Ka (ls:List (List ByteArray)) (w:World) (s i:Value) (wr:World):Prop:=∃k:Nat,k<=ls.length/\i=.int .i64 k/\s=.int .i64 (iw (ls.take k))/\w=wr
def Kc (ls:List (List ByteArray)) (w0 _w:World) (v i:Value) (wr:World):Prop:=∃(k:Nat) (v':Value),k<=ls.length/\i=.int .i64 k/\v=v'/\wr.ownsRow w0.heap.size 9 1 v' (iw (ls.take k)) (((ls.take k).flatMap id).map Value.string)/\Below w0.heap.size w0 wr
theorem G8 (ls:List (List ByteArray)) (A:Option Addr) (c:Nat) (w:World) (hr:Ek w A ls) (hl:ls.length<=1000) (hs:iw ls<=3000000) :
  Calls Tryz.prog 121 #[.slice A ls.length c] w (oJ (ls.flatMap id) w):=by
 have hl':(ls.length:Int)<=1000:=by omega
 go_enter Tryz.func121,Tryz.ntmps121
 go_wp2
 go_loopw [3,11] (Ka ls w) (λ_ i _=>ls.length-(intOf i).toNat)
 case atStart=>exact⟨0,by omega,rfl,rfl,rfl⟩
 case round =>
  obtain⟨k,hk,rfl,rfl,rfl⟩:=hrel
  have hsk:=md ls k
  by_cases hlt:k<ls.length
  ·obtain⟨l,hx⟩:∃x,ls[k]?=some x:=⟨_,List.getElem?_eq_getElem hlt⟩
   obtain⟨g,o,cs,rfl,-,⟨B,d,rfl,hB⟩,hc⟩:=hr.at_ (by omega) hx
   have e0:w.cell? ⟨g,o+k*1,none⟩=some (.slice B l.length d):=hc 0 _ rfl
   rw[Nat.mul_one]at e0
   have Hs:=Lib.hid (i6 hx)
   have hs1:=md ls (k+1)
   rw[i6 hx]at hs1
   generalize iw (ls.take k)=S at *
   clear hc hx hB hr
   go_wp2
   go_roundw
   case rel=>exact⟨k+1,by omega,by go_num,by rw[Hs.out];go_num,rfl⟩
   case measure=>simp[intOf];omega
  ·have Hk2:Hid (ls.take k=ls):=List.take_of_length_le (by omega)
   have hg:=Jt (iw (ls.take k)) w (by omega)
   generalize iw (ls.take k)=S at *
   go_wp2_with (refine hg.mono ?_;rintro e w1 ⟨v,rfl,own,b1⟩)
   go_loopw [6,27] (Kc ls w w1) (λ_ i _=>ls.length-(intOf i).toNat)
   case atStart=>exact⟨0,v,by omega,rfl,rfl,own,b1⟩
   case round =>
    obtain⟨j,v',hj,rfl,rfl,ownj,bj⟩:=hrel
    have hsj:=md ls j
    by_cases hlt2:j<ls.length
    ·obtain⟨l,hx⟩:∃x,ls[j]?=some x:=⟨_,List.getElem?_eq_getElem hlt2⟩
     obtain⟨g,o,cs,rfl,-,⟨B,d,rfl,hB⟩,hc⟩:=(hr.later bj).at_ (by omega) hx
     have e0:wr.cell? ⟨g,o+j*1,none⟩=some (.slice B l.length d):=hc 0 _ rfl
     rw[Nat.mul_one]at e0
     have Hs:=Lib.hid (i6 hx)
     have Hf:=Lib.hid (ew hx id)
     have hs1:=md ls (j+1)
     rw[i6 hx]at hs1
     have hbs:w.heap.size<=wr.heap.size:=bj.size
     generalize hSj:iw (ls.take j)=Sj at *
     clear hc hx hr hSj hg own b1
     go_wp2_with (at_builtin;refine ak rfl rfl Tryz.underlying23 bf rfl (by omega) rfl ownj rfl hB (by rw[List.length_map];omega) (by intro u hu;obtain⟨x,_,rfl⟩:=List.mem_map.1 hu;rfl) (by omega) (by omega) hbs ?_;intro v5 w5 own5 hb5 _)
     go_roundw
     case rel=>exact⟨j+1,v5,by omega,by go_num,rfl,by rw[Hs.out,Hf.out,List.map_append];exact own5,bj.trans hb5⟩
     case measure=>simp[intOf];omega
    ·have hj2:ls.take j=ls:=List.take_of_length_le (by omega)
     rw[hj2,←yN]at ownj
     obtain⟨A1,d1,rfl,_,_⟩:=own_slice ownj
     clear hr hg own
     go_wp2
     go_ret
     exact⟨_,rfl,ownj,bj⟩
end Go.Proofs.YtfcbghmbbjolcaaGreatDoor
namespace Go.Proofs.YtfcbghmbbjolcaaGreatDoor.Mt
open Go
def fo:List ByteArray->Bool
 | []=>false
 | a::l=>dz l a || fo l
theorem fV:∀{l:List ByteArray},fo l=false↔l.Nodup
 | []=>by simp[fo]
 | a::l=>by rw[fo,Bool.or_eq_false_iff,ij,fV,List.nodup_cons]
theorem fp {a b:Bool} (h:a=false↔b=false):a=b:=by cases a<;>cases b<;>simp_all
theorem Aj (l:List ByteArray) (s:ByteArray):fo (l++[s])=(fo l || dz l s):=by
 apply fp
 rw[Bool.or_eq_false_iff,fV,fV,ij,List.nodup_append]
 constructor
 ·rintro⟨h1,_,h3⟩
  exact⟨h1,λhs=>h3 s hs s (by simp) rfl⟩
 ·rintro⟨h1,h2⟩
  exact⟨h1,by simp,λa ha b hb e=>by simp at hb;subst hb;subst e;exact h2 ha⟩
def g8 (known l:List ByteArray):Bool:=l.any λs => !dz known s
theorem tW {known l:List ByteArray}:g8 known l=false↔∀s∈l,s∈known:=by
 unfold g8
 rw[List.any_eq_false]
 constructor
 ·intro h s hs
  have:=h s hs
  rw[←bm]
  simpa using this
 ·intro h s hs
  have:=bm.2 (h s hs)
  simp[this]
def Ah (right:Bool) (vars keys used known:List ByteArray):Int:=
 if right then (if fo vars || fo keys then 9 else if g8 known (vars++keys++used) then 15 else 0) else 2
theorem Ag {r:Bool} {v k u n:List ByteArray}:Ah r v k u n=0↔r=true/\v.Nodup/\k.Nodup/\∀s∈v++k++u,s∈n:=by
 unfold Ah
 cases r
 ·simp
 ·simp only[if_true]
  cases h1:(fo v || fo k)
  ·rw[Bool.or_eq_false_iff,fV,fV]at h1
   cases h2:g8 n (v++k++u)
   ·rw[tW]at h2
    simp only[Bool.false_eq_true,if_false,true_and]
    exact⟨λ_=>⟨h1.1,h1.2,h2⟩,λ_=>trivial⟩
   ·simp only[Bool.false_eq_true,if_false,if_true,true_and]
    constructor
    ·intro h;cases h
    ·rintro⟨_,_,h⟩
     rw[tW.2 h]at h2;cases h2
  ·simp only[if_true,true_and]
   constructor
   ·intro h;cases h
   ·rintro⟨h3,h4,_⟩
    rw[fV.2 h3,fV.2 h4]at h1;cases h1
end Go.Proofs.YtfcbghmbbjolcaaGreatDoor.Mt
namespace Go.Proofs.YtfcbghmbbjolcaaGreatDoor.Mt
open Go Mp
def D9 (m:List (ByteArray × Int)) (s:ByteArray):List (ByteArray × Int):=eA m s (aK m s+1)
def bB (m:List (ByteArray × Int)) (l:List ByteArray):List (ByteArray × Int):=l.foldl D9 m
theorem vV (m:List (ByteArray × Int)) (l:List ByteArray) (s:ByteArray):bB m (l++[s])=D9 (bB m l) s:=by simp[bB]
def dh (m:List (ByteArray × Int)):List ByteArray->Bool
 | []=>false
 | s::l=>decide (1<aK m s+1) || dh (D9 m s) l
theorem gx:∀(l:List ByteArray) (m:List (ByteArray × Int)) (s:ByteArray),dh m (l++[s])=(dh m l || decide (1<aK (bB m l) s+1))
 | [],m,s=>by show (decide (1<aK m s+1) || false)=(false || _);rw[Bool.or_false,Bool.false_or];rfl
 | a::l,m,s=>by
  rw[List.cons_append,dh,gx l,dh,Bool.or_assoc]
  rfl
def jY:List ByteArray->ByteArray->Int
 | [],_=>0
 | a::l,s=>(if a=s then 1 else 0)+jY l s
theorem gT:∀(l:List ByteArray) (s:ByteArray),0<=jY l s
 | [],_=>by simp[jY]
 | a::l,s=>by have:=gT l s;rw[jY];split<;>omega
theorem ya:∀(l:List ByteArray) (s:ByteArray),jY l s<=l.length
 | [],_=>by simp[jY]
 | a::l,s=>by have:=ya l s;rw[jY];simp;split<;>omega
theorem uG:∀(l:List ByteArray) (s:ByteArray),0<jY l s↔s∈l
 | [],_=>by simp[jY]
 | a::l,s=>by
  have h1:=uG l s
  have h2:=gT l s
  rw[jY,List.mem_cons]
  by_cases h:a=s
  ·rw[if_pos h];simp[h];omega
  ·rw[if_neg h]
   have:¬ s=a:=λe=>h e.symm
   simp[this,←h1]
theorem kH:∀(l:List ByteArray) (m:List (ByteArray × Int)) (s:ByteArray),aK (bB m l) s=aK m s+jY l s
 | [],m,s=>by simp[bB,jY]
 | a::l,m,s=>by
  show aK (bB (D9 m a) l) s=_
  rw[kH l,D9,kG,jY]
  by_cases h:a=s
  ·subst h;simp;omega
  ·simp[h]
theorem look_nil (l:List ByteArray) (s:ByteArray):aK (bB [] l) s=jY l s:=by rw[kH];simp[aK]
theorem tP (l:List ByteArray) (s:ByteArray):decide (0<aK (bB [] l) s)=dz l s:=by
 rw[look_nil]
 apply fp
 rw[decide_eq_false_iff_not,ij,uG]
theorem pC (l:List ByteArray):dh [] l=fo l:=by
 suffices h:∀r:List ByteArray,dh [] r.reverse=fo r.reverse by simpa using h l.reverse
 intro r
 induction r with
 | nil=>rfl
 | cons s r ih =>
  rw[List.reverse_cons,gx,ih,Aj,←tP]
  congr 1
  apply fp
  simp
  omega
end Go.Proofs.YtfcbghmbbjolcaaGreatDoor.Mt
namespace Go.Proofs.YtfcbghmbbjolcaaGreatDoor
open Go Go.RowKit Go.Maps Go.ChangeMaps Mt Mp
theorem CK:Tryz.prog.underlying 118=some (.map 9 3):=by kernel_rfl
theorem CN:Tryz.prog.underlying 9=some .string:=by kernel_rfl
theorem I5 (w:World):(zeroValue 3).run Tryz.prog w=.ok (.int .i64 0) w:=by kernel_rfl
theorem K9 (r:Nat) (m:List (ByteArray × Int)) (s:ByteArray) (w:World) (hM:bV w r m) :
  Calls Tryz.prog 69 #[.agg #[.map (some r)],.string s] w λe w'=>e=.returned (.bool (decide (0<aK m s)))/\Below w.heap.size w w':=by
 have hB0:Below w.heap.size w (w.alloc (.cells #[.map (some r)] 120)):=blw
 have hl:=eE (P:=Tryz.prog) CK CN (I5 _) (hM.on hB0) s
 generalize aK m s=v at *
 clear hM
 go_enter Tryz.func69,Tryz.ntmps69
 go_wp2
 go_ret
 exact⟨rfl,hB0⟩
def JK (r:Nat) (m:List (ByteArray × Int)) (l:List ByteArray) (w:World) (e:Ending) (w':World):Prop:=e=.returned (.bool (dh m l))/\bV w' r (bB m l)/\w.grownBy w' (some r)
def IS (r b:Nat) (m:List (ByteArray × Int)) (l:List ByteArray) (w:World) (tw i:Value) (wr:World):Prop:=
 ∃k:Nat,k<=l.length/\i=.int .i64 k/\tw=.bool (dh m (l.take k))/\bV wr r (bB m (l.take k))/\w.grownBy wr (some r)/\wr.cell? ⟨b,0,none⟩=some (.map (some r))/\b<wr.heap.size
theorem E7 (r:Nat) (m:List (ByteArray × Int)) (l:List ByteArray) (A:Option Addr) (c:Nat) (w:World) (hM:bV w r m) (hr:Rd w A (l.map Value.string)) (hl:l.length<=1000000)
  (hm:∀s,0<=aK m s/\aK m s<=1000000000) :
  Calls Tryz.prog 66 #[.agg #[.map (some r)],.slice A l.length c] w (JK r m l w):=by
 have hl':(l.length:Int)<=1000000:=by omega
 have hrw:=kF hM
 have hB0:Below w.heap.size w (w.alloc (.cells #[.map (some r)] 120)):=blw
 have hg0:w.grownBy (w.alloc (.cells #[.map (some r)] 120)) (some r):=World.grownBy_alloc w _ _
 have hb0:(w.alloc (.cells #[.map (some r)] 120)).cell? ⟨w.heap.size,0,none⟩=some (.map (some r)):=by rw[World.cell?,heap_alloc_new];rfl
 have hz0:w.heap.size<(w.alloc (.cells #[.map (some r)] 120)).heap.size:=by simp
 go_enter Tryz.func66,Tryz.ntmps66
 go_wp2
 go_loopw [4,9] (IS r w.heap.size m l w) (λ_ i _=>l.length-(intOf i).toNat)
 case atStart=>exact⟨0,by omega,rfl,rfl,hM.on hB0,hg0,hb0,hz0⟩
 case round =>
  have HM:=Lib.hid hM
  clear hB0 hg0 hb0 hz0 hM
  obtain⟨k,hk,rfl,rfl,hMk,hg,hb,hz⟩:=hrel
  by_cases hlt:k<l.length
  ·obtain⟨s,hs⟩:∃x,l[k]?=some x:=⟨_,List.getElem?_eq_getElem hlt⟩
   have hA:∀a,A=some a->a.block≠r:=by
    obtain⟨g,o,rfl,c0⟩:=hr.at_ (j:=k) (u:=.string s) (by simp[hs])
    intro a ha e
    injection ha with ha
    subst ha
    simp only at e
    subst e
    have h1:=HM.out
    unfold bV at h1
    rw[World.cell?]at c0
    simp only[h1]at c0
    simp at c0
   obtain⟨g,o,rfl,c0⟩:=(hr.grown hg (λa ha e=>hA a ha (by injection e))).at_ (j:=k) (u:=.string s) (by simp[hs])
   have Ht:Hid (dh m (l.take (k+1))=(dh m (l.take k) || decide (1<aK (bB m (l.take k)) s+1))):=by show _=_;rw[ah hs,gx]
   have Hmm:Hid (bB m (l.take (k+1))=eA (bB m (l.take k)) s (aK (bB m (l.take k)) s+1)):=by show _=_;rw[ah hs,vV];rfl
   have hlo:0<=aK (bB m (l.take k)) s/\aK (bB m (l.take k)) s<=2000000000:=by
    rw[kH]
    have h1:=ya (l.take k) s
    have h2:=gT (l.take k) s
    have h3:=hm s
    rw[List.length_take]at h1
    omega
   have hl1:=eE (P:=Tryz.prog) CK CN (I5 wr) hMk s
   generalize hmk:bB m (l.take k)=mk at *
   have hrr:=kF hMk
   have hMk2:=Cb hrr (eA mk s (aK mk s+1))
   have hg2:=hg.trans (iZ wr r (eA mk s (aK mk s+1)))
   have hb2:(mT wr r (eA mk s (aK mk s+1))).cell? ⟨w.heap.size,0,none⟩=some (.map (some r)):=by
    rw[(iZ wr r _).cell_far _ hz (λe=>by injection e with e;simp at e;omega)];exact hb
   have hz2:w.heap.size<(mT wr r (eA mk s (aK mk s+1))).heap.size:=Nat.lt_of_lt_of_le hz (iZ wr r _).size
   have hl2:=eE (P:=Tryz.prog) CK CN (I5 _) hMk2 s
   rw[kG,if_pos rfl]at hl2
   obtain⟨hv0,hv1⟩:=hlo
   have Hfin:=Lib.hid (And.intro hMk2 (And.intro hg2 (And.intro hb2 hz2)))
   generalize aK mk s=v at *
   generalize dh m (l.take k)=tw at *
   clear hs hr hA hm hmk hMk2 hg2 hg hz2
   obtain⟨W2,hW2⟩:∃W,mT wr r (eA mk s (v+1))=W:=⟨_,rfl⟩
   rw[hW2]at hb2 hl2 Hfin
   have HW2:=Lib.hid hW2
   clear hW2
   cases tw
   ·go_wp2_with (at_mapUpdate;refine dM rfl _ _ _ _ rfl CK CN rfl hMk s (v+1) rfl rfl ?_;rw[HW2.out])
    go_roundw
    case rel=>exact⟨k+1,by omega,by go_num,by rw[Ht.out];rfl,by rw[Hmm.out];exact Hfin.out.1,Hfin.out.2⟩
    case measure=>simp[intOf];omega
   ·go_wp2_with (at_mapUpdate;refine dM rfl _ _ _ _ rfl CK CN rfl hMk s (v+1) rfl rfl ?_;rw[HW2.out])
    go_roundw
    case rel=>exact⟨k+1,by omega,by go_num,by rw[Ht.out];rfl,by rw[Hmm.out];exact Hfin.out.1,Hfin.out.2⟩
    case measure=>simp[intOf];omega
  ·have Hk2:Hid (l.take k=l):=List.take_of_length_le (by omega)
   clear hr hm
   go_wp2
   go_ret
   exact⟨by rw[Hk2.out];rfl,by rw[←Hk2.out];exact hMk,hg⟩
open Um Fm
def JN (ord:List Ky) (w:World) (v i:Value) (wr:World):Prop:=∃(k:Nat) (v':Value),k<=ord.length/\i=.int .i64 k/\v=v'/\wr.ownsRow w.heap.size 9 1 v' k ((ord.take k).map λy=>Value.string y.v)/\Below w.heap.size w wr
def dA (ord:List Ky):List ByteArray:=ord.map (·.v)
theorem Gu (M:Option Nat) (ask dist:Bool) (nv np nf:Nat) (a1 a2 a3 a4:Option Addr) (c1 c2 c3 c4:Nat) (lim off:Int) (ord:List Ky) (w:World) (hr:eN w a4 ord) (hl:ord.length<=1000000) :
  Calls Tryz.prog 67 #[.agg #[.map M,.bool ask,.bool dist,.slice a1 nv c1,.slice a2 np c2,.slice a3 nf c3,.slice a4 ord.length c4,.int .i64 lim,.int .i64 off]] w (oJ (dA ord) w):=by
 have hl':(ord.length:Int)<=1000000:=by omega
 have hB0:Below w.heap.size w (w.alloc (.cells #[.map M,.bool ask,.bool dist,.slice a1 nv c1,.slice a2 np c2,.slice a3 nf c3,.slice a4 ord.length c4,.int .i64 lim,.int .i64 off] 122)):=blw
 obtain⟨i,hi,hz,hsize,hby⟩:=info_parts bf
 go_enter Tryz.func67,Tryz.ntmps67
 go_wp2
 go_loopw [2,9] (JN ord w) (λ_ i _=>ord.length-(intOf i).toNat)
 case atStart=>exact⟨0,_,by omega,rfl,rfl,by simpa using World.ownsRow_nil _ _ _ _,hB0⟩
 case round =>
  clear hB0
  obtain⟨k,v',hk,rfl,rfl,own,hB⟩:=hrel
  by_cases hlt:k<ord.length
  ·obtain⟨y,hy⟩:∃x,ord[k]?=some x:=⟨_,List.getElem?_eq_getElem hlt⟩
   obtain⟨g,o,cs,rfl,-,rfl,hc⟩:=(RdL.mono hr hB (λ_ _ _ h=>h)).at_ (by omega) hy
   have e0:wr.cell? ⟨g,o+k*2,none⟩=some (.string y.v):=hc 0 _ rfl
   have e1:wr.cell? ⟨g,o+k*2+1,none⟩=some (.bool y.d):=hc 1 _ rfl
   have B2:Below wr.heap.size wr ((wr.alloc (.cells #[.string y.v,.bool y.d] 116)).alloc (.cells #[.string y.v] 9)):=blw
   have own2:=own_below own B2 (Nat.le_refl _)
   have R2:Rd ((wr.alloc (.cells #[.string y.v,.bool y.d] 116)).alloc (.cells #[.string y.v] 9)) (some ⟨wr.heap.size+1,0,none⟩) [.string y.v]:=Rd.of_block (av wr _ _) rfl
   have hbs:w.heap.size<=wr.heap.size:=hB.size
   have B02:=Lib.hid (aa hB B2)
   have Hts:=Lib.hid (ah hy)
   clear hc hy hr own hB B2 hi hz hsize hby
   go_wp2_with (at_builtin;refine ak rfl rfl Tryz.underlying23 bf rfl (by omega) rfl own2 rfl R2 rfl (by intro u hu;simp at hu;subst hu;rfl) (by omega) (by omega) (by simp;omega) ?_;intro v5 w5 own5 hb5 _)
   go_roundw
   case rel=>exact⟨k+1,v5,by omega,by go_num,rfl,by rw[Hts.out,List.map_append];exact own5,B02.out.trans hb5⟩
   case measure=>simp[intOf];omega
  ·have Hk2:Hid (ord.take k=ord):=List.take_of_length_le (by omega)
   have hkl:k=ord.length:=by omega
   obtain⟨A1,d1,rfl,_,_⟩:=own_slice own
   subst hkl
   clear hr
   go_wp2
   go_ret
   refine⟨_,rfl,?_,hB⟩
   unfold dA
   rw[List.length_map,List.map_map]
   have h:=own
   rw[Hk2.out]at h
   exact h
def JI (l:List ByteArray) (ask dist:Bool) (nv np nf nk:Nat) (a1 a2 a3 a4:Option Addr) (c1 c2 c3 c4:Nat) (lim off:Int) (w:World) (e:Ending) (w':World):Prop:=
 ∃r,e=.returned (.agg #[.map (some r),.bool ask,.bool dist,.slice a1 nv c1,.slice a2 np c2,.slice a3 nf c3,.slice a4 nk c4,.int .i64 lim,.int .i64 off])/\bV w' r (bB [] l)/\w.heap.size<=r/\Below w.heap.size w w'
theorem uL (l:List ByteArray) (A:Option Addr) (c:Nat) (ask dist:Bool) (nv np nf nk:Nat) (a1 a2 a3 a4:Option Addr) (c1 c2 c3 c4:Nat) (lim off:Int) (w:World) (hr:Rd w A (l.map Value.string)) (hl:l.length<=1000000) :
  Calls Tryz.prog 65 #[.agg #[.bool ask,.bool dist,.slice a1 nv c1,.slice a2 np c2,.slice a3 nf c3,.slice a4 nk c4,.int .i64 lim,.int .i64 off],.slice A l.length c] w (JI l ask dist nv np nf nk a1 a2 a3 a4 c1 c2 c3 c4 lim off w):=by
 have hmm:=@run_makeMap Tryz.prog
 obtain⟨W,hW⟩:∃W:World,((((w.alloc (.cells #[.bool ask,.bool dist,.slice a1 nv c1,.slice a2 np c2,.slice a3 nf c3,.slice a4 nk c4,.int .i64 lim,.int .i64 off] 28)).alloc (.cells #[.map none,.bool false,.bool false,.slice none 0 0,.slice none 0 0,.slice none 0 0,.slice none 0 0,.int .i64 0,.int .i64 0] 122)).alloc (.map #[] 0)).alloc (.cells #[.map (some (w.heap.size+1+1)),.bool ask,.bool dist,.slice a1 nv c1,.slice a2 np c2,.slice a3 nf c3,.slice a4 nk c4,.int .i64 lim,.int .i64 off] 122))=W:=⟨_,rfl⟩
 have hsz:W.heap.size=w.heap.size+1+1+1+1:=by rw[←hW];simp
 have hB:Below w.heap.size w W:=by rw[←hW];exact blw
 have g1:W.heap[w.heap.size+1]?=some (.cells #[.map none,.bool false,.bool false,.slice none 0 0,.slice none 0 0,.slice none 0 0,.slice none 0 0,.int .i64 0,.int .i64 0] 122 (0,0)):=by
  rw[←hW,Below.heap_alloc _ _ _ (by simp),Below.heap_alloc _ _ _ (by simp)];exact av w _ _
 have g2:W.heap[w.heap.size+1+1]?=some (.map #[] 0):=by
  rw[←hW,Below.heap_alloc _ _ _ (by simp)]
  have:=heap_alloc_new ((w.alloc (.cells #[.bool ask,.bool dist,.slice a1 nv c1,.slice a2 np c2,.slice a3 nf c3,.slice a4 nk c4,.int .i64 lim,.int .i64 off] 28)).alloc (.cells #[.map none,.bool false,.bool false,.slice none 0 0,.slice none 0 0,.slice none 0 0,.slice none 0 0,.int .i64 0,.int .i64 0] 122)) (.map #[] 0)
  simpa using this
 have g3:W.heap[w.heap.size+1+1+1]?=some (.cells #[.map (some (w.heap.size+1+1)),.bool ask,.bool dist,.slice a1 nv c1,.slice a2 np c2,.slice a3 nf c3,.slice a4 nk c4,.int .i64 lim,.int .i64 off] 122 (0,0)):=by
  rw[←hW]
  have:=heap_alloc_new (((w.alloc (.cells #[.bool ask,.bool dist,.slice a1 nv c1,.slice a2 np c2,.slice a3 nf c3,.slice a4 nk c4,.int .i64 lim,.int .i64 off] 28)).alloc (.cells #[.map none,.bool false,.bool false,.slice none 0 0,.slice none 0 0,.slice none 0 0,.slice none 0 0,.int .i64 0,.int .i64 0] 122)).alloc (.map #[] 0)) (.cells #[.map (some (w.heap.size+1+1)),.bool ask,.bool dist,.slice a1 nv c1,.slice a2 np c2,.slice a3 nf c3,.slice a4 nk c4,.int .i64 lim,.int .i64 off] 122)
  simpa using this
 have hq:=E7 (w.heap.size+1+1) [] l A c W g2 (hr.later hB) hl (λs=>by simp[aK])
 have hCi:(Tryz.prog.info? 122).map (·.size)=some 9:=by kernel_rfl
 have HW:=Lib.hid hW
 clear hW
 go_enter Tryz.func65,Tryz.ntmps65
 go_wp2_with fail
 simp only[HW.out]
 clear hmm
 refine hq.mono ?_
 rintro e w1 ⟨rfl,hM1,hg1⟩
 have r1:=hg1.block (w.heap.size+1) (by omega) (by simp)
 have r3:=hg1.block (w.heap.size+1+1+1) (by omega) (by simp)
 rw[g1]at r1
 rw[g3]at r3
 have hc:∀i,w1.cell? ⟨w.heap.size+1+1+1,i,none⟩=#[Value.map (some (w.heap.size+1+1)),.bool ask,.bool dist,.slice a1 nv c1,.slice a2 np c2,.slice a3 nf c3,.slice a4 nk c4,.int .i64 lim,.int .i64 off][i]?:=λi=>by rw[World.cell?,r3];rfl
 have k0:=hc 0
 have k1:=hc 1
 have k2:=hc 2
 have k3:=hc 3
 have k4:=hc 4
 have k5:=hc 5
 have k6:=hc 6
 have k7:=hc 7
 have k8:=hc 8
 simp at k0 k1 k2 k3 k4 k5 k6 k7 k8
 have Hr1:=Lib.hid r1
 have HM1:=Lib.hid hM1
 have hB1:Below w.heap.size w w1:=hB.grown hg1 hB.size λq e=>by cases e;omega
 have HB1:=Lib.hid hB1
 clear hq g1 g2 g3 r1 r3 hc hr hM1 hg1 hB hB1
 go_wp2_with (refine wpList_store_row rfl 122 _ _ rfl rfl rfl hCi Hr1.out rfl rfl ?_)
 obtain⟨F,hF⟩:∃F:World,w1.setRow (w.heap.size+1) #[.map (some (w.heap.size+1+1)),.bool ask,.bool dist,.slice a1 nv c1,.slice a2 np c2,.slice a3 nf c3,.slice a4 nk c4,.int .i64 lim,.int .i64 off]=F:=⟨_,rfl⟩
 have hrow:=setRow_heap w1 (w.heap.size+1) _ #[.map (some (w.heap.size+1+1)),.bool ask,.bool dist,.slice a1 nv c1,.slice a2 np c2,.slice a3 nf c3,.slice a4 nk c4,.int .i64 lim,.int .i64 off] 122 (0,0) Hr1.out
 have hM2:bV F (w.heap.size+1+1) (bB [] l):=by
  unfold bV;rw[←hF,setRow_other _ _ _ _ (by omega)];exact HM1.out
 have BF:Below w.heap.size w F:=by rw[←hF];exact below_setRow HB1.out (by omega) _
 rw[hF]at hrow
 have hc:∀i,F.cell? ⟨w.heap.size+1,i,none⟩=#[Value.map (some (w.heap.size+1+1)),.bool ask,.bool dist,.slice a1 nv c1,.slice a2 np c2,.slice a3 nf c3,.slice a4 nk c4,.int .i64 lim,.int .i64 off][i]?:=λi=>by rw[World.cell?,hrow];rfl
 have j0:=hc 0
 have j1:=hc 1
 have j2:=hc 2
 have j3:=hc 3
 have j4:=hc 4
 have j5:=hc 5
 have j6:=hc 6
 have j7:=hc 7
 have j8:=hc 8
 simp at j0 j1 j2 j3 j4 j5 j6 j7 j8
 simp only[hF]
 exact bodyPost_ret (v:=.agg #[.map (some (w.heap.size+1+1)),.bool ask,.bool dist,.slice a1 nv c1,.slice a2 np c2,.slice a3 nf c3,.slice a4 nk c4,.int .i64 lim,.int .i64 off]) (by simp[results,Tryz.results65,go_sem,j0,j1,j2,j3,j4,j5,j6,j7,j8]) rfl ⟨_,rfl,hM2,by omega,BF⟩
open Go.Shelf
attribute [local go_sem] Oper.semAt_some
theorem zn {w:World} {base:Nat} {e:TypeId} {size n:Nat} {A:Option Addr} {m c:Nat} {xs:List Value} (h:w.ownsRow base e size (.slice A m c) n xs):∀a,A=some a->base<=a.block/\a.block<w.heap.size:=by
 intro a ha
 exact h.lt a.block (by rw[ha];rfl)
def zT {n:Nat} (q:Qy n):Prop:=q.vars.length<=100000/\q.pats.length<=300000/\q.ord.length<=100000/\q.fils.length<=1353245080300/\(∀x∈q.fils,szE n x)/\(q.fils.flatMap (cI n)).length<=500000
def eD {n:Nat} (q:Qy n):List ByteArray:=q.vars++(dA q.ord++eU n q.fils)
theorem kM (l:List Ky):(dA l).length=l.length:=List.length_map _
theorem pP {n:Nat} {q:Qy n} (h:zT q):(eD q).length<=700000:=by
 have:=pB n q.fils
 obtain⟨h1,h2,h3,h4,h5,h6⟩:=h
 unfold eD
 rw[List.length_append,List.length_append,kM]
 omega
theorem J6 {w:World} {A B C:Option Addr} {a b c:List ByteArray} {ca cb cc:Nat} {D:Nat} (hd:w.heap[D]?=some (.cells #[.slice A a.length ca,.slice B b.length cb,.slice C c.length cc] 23 (0,0))) (h1:Rd w A (a.map Value.string)) (h2:Rd w B (b.map Value.string)) (h3:Rd w C (c.map Value.string)) :
  Ek w (some ⟨D,0,none⟩) [a,b,c]:=
 ⟨[.slice A a.length ca]++([.slice B b.length cb]++[.slice C c.length cc]),Rd.of_block hd rfl,All.append (l:=[a]) (All.one rfl ⟨_,_,rfl,h1⟩) (All.append (l:=[b]) (All.one rfl ⟨_,_,rfl,h2⟩) (All.one rfl ⟨_,_,rfl,h3⟩))⟩
def sq (S:Nat) (w:World) (Bp:Nat) (l:List ByteArray):Prop:=∃A c,w.cell? ⟨Bp,0,none⟩=some (.slice A l.length c)/\Rd w A (l.map Value.string)/\S<=Bp/\∀a,A=some a->S<=a.block
def JA {n:Nat} (q:Qy n) (w:World) (e:Ending) (w':World):Prop:=∃Bp,e=.returned (.func (.func 180) #[] #[.pointer (some ⟨Bp,0,none⟩)])/\sq w.heap.size w' Bp (eD q)/\Below w.heap.size w w'
theorem Js (M:Option Nat) (n:Nat) (q:Qy n) (a1 a2 a3 a4:Option Addr) (c1 c2 c3 c4:Nat) (w:World) (hf:zT q) (h1:Rd w a1 (q.vars.map Value.string)) (h3:aJ n w a3 q.fils) (h4:eN w a4 q.ord) :
  Calls Tryz.prog 68 #[.agg #[.map M,.bool q.ask,.bool q.dist,.slice a1 q.vars.length c1,.slice a2 q.pats.length c2,.slice a3 q.fils.length c3,.slice a4 q.ord.length c4,.int .i64 q.lim,.int .i64 q.off]] w (JA q w):=by
 obtain⟨f1,f2,f3,f4,f5,f6⟩:=hf
 go_enter Tryz.func68,Tryz.ntmps68
 go_wp2
 obtain⟨W,hW⟩:∃W:World,w.alloc (.cells #[.map M,.bool q.ask,.bool q.dist,.slice a1 q.vars.length c1,.slice a2 q.pats.length c2,.slice a3 q.fils.length c3,.slice a4 q.ord.length c4,.int .i64 q.lim,.int .i64 q.off] 122)=W:=⟨_,rfl⟩
 have hB0:Below w.heap.size w W:=by rw[←hW];exact blw
 have hbx:∀(i:Nat) v,#[Value.map M,.bool q.ask,.bool q.dist,.slice a1 q.vars.length c1,.slice a2 q.pats.length c2,.slice a3 q.fils.length c3,.slice a4 q.ord.length c4,.int .i64 q.lim,.int .i64 q.off][i]?=some v->W.cell? ⟨w.heap.size,i,none⟩=some v:=by
  intro i v hv;rw[←hW,World.cell?,heap_alloc_new];exact hv
 simp only[hW]
 have HW:=Lib.hid hW
 clear hW
 have k1:=h1.later hB0
 have k3:=aJ.later h3 hB0
 have k4:=RdL.mono h4 hB0 (λ_ _ _ h=>h)
 clear h1 h3 h4
 refine Rf.p0 W.heap.size ?R (.quiet [0,1,2,3,5,6,7] (.one 4 (.one 8 (.one 9 (.one 10 (.one 11 (.quiet [12] (.done)))))))) ?_ ?_
 case R=>exact λa W'=>∃(u3 u4 u5 u6 u7 u8 u9 u10 u11 u12 u13 u14:Value) (Bp:Nat),a={tmps:=#[.agg #[.map M,.bool q.ask,.bool q.dist,.slice a1 q.vars.length c1,.slice a2 q.pats.length c2,.slice a3 q.fils.length c3,.slice a4 q.ord.length c4,.int .i64 q.lim,.int .i64 q.off],.pointer (some ⟨w.heap.size,0,none⟩),.func (.func 180) #[] #[.pointer (some ⟨Bp,0,none⟩)],u3,u4,u5,u6,u7,u8,u9,u10,u11,u12,u13,u14],defers:=[]}/\sq w.heap.size W' Bp (eD q)/\Below W.heap.size W W'
 ·intro wd hbd hwz
  have b0:=cellL (hbx 0 (.map M) rfl) hbd
  have b1:=cellL (hbx 1 (.bool q.ask) rfl) hbd
  have b2:=cellL (hbx 2 (.bool q.dist) rfl) hbd
  have b3:=cellL (hbx 3 (.slice a1 q.vars.length c1) rfl) hbd
  have b4:=cellL (hbx 4 (.slice a2 q.pats.length c2) rfl) hbd
  have b5:=cellL (hbx 5 (.slice a3 q.fils.length c3) rfl) hbd
  have b6:=cellL (hbx 6 (.slice a4 q.ord.length c4) rfl) hbd
  have b7:=cellL (hbx 7 (.int .i64 q.lim) rfl) hbd
  have b8:=cellL (hbx 8 (.int .i64 q.off) rfl) hbd
  have e1:=k1.later hbd
  have e3:=aJ.later k3 hbd
  have e4:=RdL.mono k4 hbd (λ_ _ _ h=>h)
  have Hz:=Lib.hid hwz
  clear k1 k3 k4 hbx hwz
  refine Rf.pl_quiet ?_
  iterate 7 go_big_quiet_step (fail)
  refine wpQuiet_nil (Rf.pl_one ?_)
  have hK:=Gu M q.ask q.dist q.vars.length q.pats.length q.fils.length a1 a2 a3 a4 c1 c2 c3 c4 q.lim q.off q.ord wd e4 (by omega)
  go_wp2_with (refine hK.mono ?_;rintro e w1 ⟨v1,rfl,own1,hb1⟩)
  obtain⟨A1,d1,rfl,_,r1⟩:=own_slice own1
  have hB1:Below W.heap.size wd w1:=hb1.mono (by rw[Hz.out];exact Nat.le_refl _)
  refine⟨hB1,Rf.pl_one ?_⟩
  have hU:=J8 n q.fils a3 c3 w1 (aJ.later e3 hb1) f4 f5 f6
  have ev:=e1.later hb1
  clear hK e3 e4 own1
  go_wp2_with (refine hU.mono ?_;rintro e w2 ⟨v2,rfl,own2,hb2⟩)
  obtain⟨A2,d2,rfl,_,r2⟩:=own_slice own2
  have hB2:Below W.heap.size w1 w2:=hb2.mono (by have:=hB1.size;rw[Hz.out]at this;exact this)
  refine⟨hB2,Rf.pl_one ?_⟩
  have ev2:=ev.later hb2
  have r12:=r1.later hb2
  clear ev r1 hU own2
  go_wp2_with fail
  have hz2:W.heap.size<=w2.heap.size:=by have:=hB1.size;have:=hB2.size;have:=Hz.out;omega
  have hb3:Below w2.heap.size w2 (w2.alloc (.cells #[.slice a1 q.vars.length c1,.slice A1 (dA q.ord).length d1,.slice A2 (eU n q.fils).length d2] 23)):=blw
  refine⟨hb3.mono hz2,Rf.pl_one ?_⟩
  have hR:=J6 (heap_alloc_new w2 _) (ev2.later hb3) (r12.later hb3) (r2.later hb3)
  have hul:=pB n q.fils
  have hcc:=G8 [q.vars,dA q.ord,eU n q.fils] (some ⟨w2.heap.size,0,none⟩) 3 _ hR (by simp) (by simp[iw,kM];omega)
  have hfl:[q.vars,dA q.ord,eU n q.fils].flatMap id=eD q:=by simp[eD,List.flatMap_cons]
  rw[hfl]at hcc
  clear hR ev2 r12 r2 hfl
  go_wp2_with (refine hcc.mono ?_;rintro e w4 ⟨v4,rfl,own4,hb4⟩)
  obtain⟨A4,d4,rfl,_,r4⟩:=own_slice own4
  have hA4:=zn own4
  have hB4:Below W.heap.size (w2.alloc (.cells #[.slice a1 q.vars.length c1,.slice A1 (dA q.ord).length d1,.slice A2 (eU n q.fils).length d2] 23)) w4:=hb4.mono (by simp;omega)
  refine⟨hB4,Rf.pl_one ?_⟩
  have hV:=G7 A4 (eD q).length d4 w4
  clear own4 hcc
  go_wp2_with (refine hV.mono ?_;rintro e w5 ⟨rfl,rfl⟩)
  have hb5:Below w4.heap.size w4 (w4.alloc (.cells #[.slice A4 (eD q).length d4] 23)):=blw
  have hz4:W.heap.size<=w4.heap.size:=by have:=hB4.size;simp at this;omega
  refine⟨hb5.mono hz4,Rf.pl_quiet ?_⟩
  have hwW:=hB0.size
  have hq:sq w.heap.size (w4.alloc (.cells #[.slice A4 (eD q).length d4] 23)) w4.heap.size (eD q):=⟨A4,d4,by rw[World.cell?,heap_alloc_new];rfl,r4.later hb5,by omega,λa ha=>by have:=(hA4 a ha).1;simp at this;omega⟩
  have hBB:Below W.heap.size W (w4.alloc (.cells #[.slice A4 (eD q).length d4] 23)):=((((hbd.trans hB1).trans hB2).trans (hb3.mono hz2)).trans hB4).trans (hb5.mono hz4)
  iterate 1 go_big_quiet_step (fail)
  exact wpQuiet_nil (Rf.pl_done ⟨_,_,_,_,_,_,_,_,_,_,_,_,_,rfl,hq,hBB⟩)
 ·rintro a W1 ⟨u3,u4,u5,u6,u7,u8,u9,u10,u11,u12,u13,u14,Bp,rfl,hq,hb1⟩
  clear k1 k3 k4 hbx
  go_wp2
  go_ret
  exact⟨_,rfl,hq,aa hB0 hb1⟩
end Go.Proofs.YtfcbghmbbjolcaaGreatDoor
