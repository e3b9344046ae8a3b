/- The library's slices.Values over texts: the iterator. The li -/
import Derived.Test.YtoaemihcbmlkgaaGreatDoorJUsed
set_option maxHeartbeats 4000000
set_option maxRecDepth 100000
namespace Go.Proofs.YtoaemihcbmlkgaaGreatDoor
open Go Go.RowKit Go.Shelf Um Fm Mt
attribute [local go_sem] Oper.semAt_some
theorem cValues (a:Option Addr) (n c:Nat) (w:World) :
  Calls Tryz.prog 115 #[.slice a n c] w λe w'=>e=.returned (.func (.func 173) #[] #[.pointer (some ⟨w.heap.size,0,none⟩)])/\w'=w.alloc (.cells #[.slice a n c] 32):=by
 go_enter Tryz.func115,Tryz.ntmps115
 go_wp2
 go_ret
 exact⟨rfl,rfl⟩
def ValsL (h:Nat->Obj->Bool) (S:Nat) (J:List ByteArray->World->Prop) (l:List ByteArray) (W:World) (i:Value) (wr:World):Prop:=
 ∃k:Nat,k<=l.length/\i=.int .i64 k/\J (l.take k) wr/\Kb h S W wr
abbrev encTx (s:ByteArray):Array Value:=#[.string s]
theorem cVals_stops (F:Fence) (hd:F.depth=none) (h5:F.fn 173) (hro:F.round=none) (h:Nat->Obj->Bool) (m:Nat) (w:World) (l:List ByteArray) (A:Option Addr) (c Bp:Nat)
  (hr:Rd (wo h w) A (l.map Value.string)) (hl:l.length<=8796093021952) (hb:(wo h w).cell? ⟨Bp,0,none⟩=some (.slice A l.length c)) :
  SeqStopsK F m Tryz.prog 173 #[.pointer (some ⟨Bp,0,none⟩)] encTx (Kb h w.heap.size) (λys=>ys=l) (λpre=>pre <+: l) l.length w:=by
 intro y J Jx W hW hJ hJx hY h0
 have hdd:∀k:Nat,(F.depth.isSome=true->1<=k):=λk h=>by rw[hd]at h;cases h
 have hkb:=Kb.of_below (hd:=h) hW (Nat.le_refl _)
 have hb2:=(wo_cell.1 (hkb.cells _ _ hb)).1
 have hl':(l.length:Int)<=8796093021952:=by omega
 refine callsIn_of_wp Tryz.func173 rfl h5 ?_ hro
 simp only[Tryz.ntmps173,List.size_toArray,List.length_cons,List.length_nil,Nat.reduceAdd,Nat.reduceSub,Array.replicate_succ,Array.replicate_zero,List.push_toArray,List.append_toArray,List.nil_append,List.cons_append]
 gi_wp2
 gi_loopw [7] (ValsL h w.heap.size J l W) (λi _=>l.length-(intOf i).toNat)
 case atStart=>exact⟨0,by omega,rfl,by simpa using h0,Kb.refl _ _ _⟩
 case round =>
  obtain⟨k,hk,rfl,hj,hkw⟩:=hrel
  by_cases hlt:k<l.length
  ·obtain⟨s,hs⟩:∃x,l[k]?=some x:=⟨_,List.getElem?_eq_getElem hlt⟩
   obtain⟨g,o,rfl,c0⟩:=hr.at_ (j:=k) (u:=.string s) (by simp[hs])
   have e0:=(wo_cell.1 ((hkb.trans hkw).cells _ _ c0)).1
   have hyY:=YieldAt.anyDepth' hd (m-1) (hY (l.take k) s wr hj (by rw[List.length_take];omega))
   have Hts:=Lib.hid (take_snoc_of hs)
   have Hpre:Hid (l.take (k+1) <+: l):=List.take_prefix _ _
   obtain⟨fn,tmps,assign,body,hy',hR⟩:=hyY
   have Hkw:=Lib.hid hkw
   clear hY hJ hJx hr hb hb2 hkb hkw hs c0 hj h0
   gi_wp2_with ((try refine⟨hdd _,?_⟩);refine hR.mono ?_;clear hR;rintro e W2 (⟨rfl,hJ2,hkb2⟩|⟨rfl,hx2⟩))
   ·gi_wp2
    go_roundw
    case rel=>exact⟨k+1,by omega,by go_num,by rw[Hts.out];exact hJ2,Hkw.out.trans hkb2⟩
    case measure=>simp[intOf];omega
   ·gi_wp2
    ((try simp only[Exit.inBlock,Exit.then]);refine bodyPost_ret (results_none rfl _ _ _) rfl ?_)
    exact⟨⟨_,rfl⟩,.inr ⟨l.take (k+1),Hpre.out,by rw[Hts.out];exact hx2⟩⟩
  ·have hk2:l.take k=l:=List.take_of_length_le (by omega)
   rw[hk2]at hj
   clear hY hJ hJx hr hb hb2 hkb
   gi_wp2
   go_end0
   exact⟨⟨_,rfl⟩,.inl ⟨l,rfl,hj⟩⟩
def GrowR (w:World) (e:Ending) (w':World):Prop:=∃v,e=.returned v/\w'.ownsRow w.heap.size 9 1 v 0 []/\Below w.heap.size w w'
theorem cGrow (n:Nat) (w:World) (hn:n<=3000000):Calls Tryz.prog 174 #[.slice none 0 0,.int .i64 n] w (GrowR w):=by
 have hn':(n:Int)<=3000000:=by omega
 by_cases h0:0<n
 ·obtain⟨i,hi,hz,hsize,hby⟩:=info_parts stringInfo'
  have hrz:∀ty,(Builtin.append_ #[32,3] ty #[.slice none 0 0,.int .i64 n]).run Tryz.prog w=_:=λty =>
   Lib.run_append_grow_zeros w 32 3 ty 9 i (.string ⟨#[]⟩) .i64 .i64 Tryz.underlying32 Tryz.underlying3 hi hz none 0 0 [] (run_firstCells_none w.drew i.size 0 0 0) n h0 (by omega) (by omega) (by omega)
    (by rw[hby];omega) (by rw[Nat.zero_add,hby];exact growslice_fits h0 (by omega))
  simp only[Nat.zero_add]at hrz
  have hG1:n<=grownCap w n 0 9:=grownCap_ge w _ _ _
  have hG2:=grownCap_le_maxLen w n 0 9 (by unfold maxLen;omega)
  obtain⟨G,hG⟩:∃G,grownCap w n 0 9=G:=⟨_,rfl⟩
  rw[hG]at hG1 hG2 hrz
  obtain⟨cs,hcs⟩:∃cs:Array Value,([]:List Value).toArray++Builtin.zeroCells (Value.string ⟨#[]⟩).cells n++Builtin.zeroCells (Value.string ⟨#[]⟩).cells (G-n)=cs:=⟨_,rfl⟩
  have hsz:cs.size=G*1:=by
   rw[←hcs,Array.size_append,Array.size_append,size_zeroCells,size_zeroCells]
   show 0+n*1+(G-n)*1=G*1
   omega
  rw[hcs]at hrz
  have hG3:(G:Int)<=9223372036854775807:=by unfold maxLen at hG2;omega
  have h0':0<(n:Int):=by omega
  have own:(w.drew.alloc (.cells cs 9)).ownsRow w.heap.size 9 1 (.slice (some ⟨w.heap.size,0,none⟩) 0 G) 0 []:=
   ⟨rfl,.inr ⟨w.heap.size,G,cs,rfl,Nat.le_refl _,heap_alloc_new w.drew _,by omega,hG2,hsz,by simp⟩⟩
  have bel:Below w.heap.size w (w.drew.alloc (.cells cs 9)):=((Below.refl _ _).drew).alloc (Nat.le_refl _) _
  have Own:=Lib.hid own
  clear hG hcs hsz hi hz hsize hby own hG2
  go_enter Tryz.func174,Tryz.ntmps174
  go_wp2_with (at_builtin;refine Lib.wpList_append_run _ rfl _ _ _ _ rfl _ _ rfl rfl _ _ (hrz _) ?_)
  go_ret
  exact⟨_,rfl,Own.out,bel⟩
 ·obtain rfl:n=0:=by omega
  go_enter Tryz.func174,Tryz.ntmps174
  go_wp2
  go_ret
  exact⟨_,rfl,World.ownsRow_nil _ _ _ _,Below.refl _ _⟩
abbrev RdLs (w:World) (A:Option Addr) (ls:List (List ByteArray)):Prop:=RdL 1 (λcs l=>∃(B:Option Addr) (c:Nat),cs=[.slice B l.length c]/\Rd w B (l.map Value.string)) w A ls
theorem RdLs.later {w w':World} {A:Option Addr} {ls:List (List ByteArray)} (h:RdLs w A ls) (hb:Below w.heap.size w w'):RdLs w' A ls:=
 RdL.mono h hb λ_ _ _ ⟨B,c,h1,h2⟩=>⟨B,c,h1,h2.later hb⟩
def sumL (ls:List (List ByteArray)):Nat:=(ls.map List.length).sum
theorem sumL_take {ls:List (List ByteArray)} {k:Nat} {l:List ByteArray} (h:ls[k]?=some l):sumL (ls.take (k+1))=sumL (ls.take k)+l.length:=by
 unfold sumL;rw[take_snoc_of h,List.map_append,List.sum_append];simp
theorem sumL_flat (ls:List (List ByteArray)):(ls.flatMap id).length=sumL ls:=by
 unfold sumL;induction ls with
 | nil=>rfl
 | cons a r ih=>simp[List.flatMap_cons]
theorem sumL_le (ls:List (List ByteArray)) (k:Nat):sumL (ls.take k)<=sumL ls:=by
 unfold sumL
 conv=>rhs;rw[←List.take_append_drop k ls]
 rw[List.map_append,List.sum_append];omega
def Sum1 (ls:List (List ByteArray)) (w:World) (s i:Value) (wr:World):Prop:=∃k:Nat,k<=ls.length/\i=.int .i64 k/\s=.int .i64 (sumL (ls.take k))/\w=wr
def Cat1 (ls:List (List ByteArray)) (w0 _w:World) (v i:Value) (wr:World):Prop:=∃(k:Nat) (v':Value),k<=ls.length/\i=.int .i64 k/\v=v'/\wr.ownsRow w0.heap.size 9 1 v' (sumL (ls.take k)) (((ls.take k).flatMap id).map Value.string)/\Below w0.heap.size w0 wr
theorem cConcat (ls:List (List ByteArray)) (A:Option Addr) (c:Nat) (w:World) (hr:RdLs w A ls) (hl:ls.length<=1000) (hs:sumL ls<=3000000) :
  Calls Tryz.prog 116 #[.slice A ls.length c] w (NamesR (ls.flatMap id) w):=by
 have hl':(ls.length:Int)<=1000:=by omega
 go_enter Tryz.func116,Tryz.ntmps116
 go_wp2
 go_loopw [3,11] (Sum1 ls w) (λ_ i _=>ls.length-(intOf i).toNat)
 case atStart=>exact⟨0,by omega,rfl,rfl,rfl⟩
 case round =>
  obtain⟨k,hk,rfl,rfl,rfl⟩:=hrel
  have hsk:=sumL_le ls k
  by_cases hlt:k<ls.length
  ·obtain⟨l,hx⟩:∃x,ls[k]?=some x:=⟨_,List.getElem?_eq_getElem hlt⟩
   obtain⟨g,o,cs,rfl,-,⟨B,d,rfl,hB⟩,hc⟩:=hr.at_ (by omega) hx
   have e0:w.cell? ⟨g,o+k*1,none⟩=some (.slice B l.length d):=hc 0 _ rfl
   rw[Nat.mul_one]at e0
   have Hs:=Lib.hid (sumL_take hx)
   have hs1:=sumL_le ls (k+1)
   rw[sumL_take hx]at hs1
   generalize sumL (ls.take k)=S at *
   clear hc hx hB hr
   go_wp2
   go_roundw
   case rel=>exact⟨k+1,by omega,by go_num,by rw[Hs.out];go_num,rfl⟩
   case measure=>simp[intOf];omega
  ·have Hk2:Hid (ls.take k=ls):=List.take_of_length_le (by omega)
   have hg:=cGrow (sumL (ls.take k)) w (by omega)
   generalize sumL (ls.take k)=S at *
   go_wp2_with (refine hg.mono ?_;rintro e w1 ⟨v,rfl,own,b1⟩)
   go_loopw [6,27] (Cat1 ls w w1) (λ_ i _=>ls.length-(intOf i).toNat)
   case atStart=>exact⟨0,v,by omega,rfl,rfl,own,b1⟩
   case round =>
    obtain⟨j,v',hj,rfl,rfl,ownj,bj⟩:=hrel
    have hsj:=sumL_le ls j
    by_cases hlt2:j<ls.length
    ·obtain⟨l,hx⟩:∃x,ls[j]?=some x:=⟨_,List.getElem?_eq_getElem hlt2⟩
     obtain⟨g,o,cs,rfl,-,⟨B,d,rfl,hB⟩,hc⟩:=(hr.later bj).at_ (by omega) hx
     have e0:wr.cell? ⟨g,o+j*1,none⟩=some (.slice B l.length d):=hc 0 _ rfl
     rw[Nat.mul_one]at e0
     have Hs:=Lib.hid (sumL_take hx)
     have Hf:=Lib.hid (flat_take hx id)
     have hs1:=sumL_le ls (j+1)
     rw[sumL_take hx]at hs1
     have hbs:w.heap.size<=wr.heap.size:=bj.size
     generalize hSj:sumL (ls.take j)=Sj at *
     clear hc hx hr hSj hg own b1
     go_wp2_with (at_builtin;refine wpList_appG rfl rfl Tryz.underlying32 stringInfo' rfl (by omega) rfl ownj rfl hB (by rw[List.length_map];omega) (by intro u hu;obtain⟨x,_,rfl⟩:=List.mem_map.1 hu;rfl) (by omega) (by omega) hbs ?_;intro v5 w5 own5 hb5 _)
     go_roundw
     case rel=>exact⟨j+1,v5,by omega,by go_num,rfl,by rw[Hs.out,Hf.out,List.map_append];exact own5,bj.trans hb5⟩
     case measure=>simp[intOf];omega
    ·have hj2:ls.take j=ls:=List.take_of_length_le (by omega)
     rw[hj2,←sumL_flat]at ownj
     obtain⟨A1,d1,rfl,_,_⟩:=own_slice ownj
     clear hr hg own
     go_wp2
     go_ret
     exact⟨_,rfl,ownj,bj⟩
end Go.Proofs.YtoaemihcbmlkgaaGreatDoor
namespace Go.Proofs.YtoaemihcbmlkgaaGreatDoor.Mt
open Go
def dupB:List ByteArray->Bool
 | []=>false
 | a::l=>hasS l a || dupB l
theorem dupB_no:∀{l:List ByteArray},dupB l=false↔l.Nodup
 | []=>by simp[dupB]
 | a::l=>by rw[dupB,Bool.or_eq_false_iff,hasS_no,dupB_no,List.nodup_cons]
theorem bool_of_false {a b:Bool} (h:a=false↔b=false):a=b:=by cases a<;>cases b<;>simp_all
theorem dupB_snoc (l:List ByteArray) (s:ByteArray):dupB (l++[s])=(dupB l || hasS l s):=by
 apply bool_of_false
 rw[Bool.or_eq_false_iff,dupB_no,dupB_no,hasS_no,List.nodup_append]
 constructor
 ·rintro⟨h1,_,h3⟩
  exact⟨h1,λhs=>h3 s hs s (by simp) rfl⟩
 ·rintro⟨h1,h2⟩
  exact⟨h1,by simp,λa ha b hb e=>by simp at hb;subst hb;subst e;exact h2 ha⟩
def lackB (known l:List ByteArray):Bool:=l.any λs => !hasS known s
theorem lackB_no {known l:List ByteArray}:lackB known l=false↔∀s∈l,s∈known:=by
 unfold lackB
 rw[List.any_eq_false]
 constructor
 ·intro h s hs
  have:=h s hs
  rw[←hasS_iff]
  simpa using this
 ·intro h s hs
  have:=hasS_iff.2 (h s hs)
  simp[this]
def errQ (right:Bool) (vars keys used known:List ByteArray):Int:=
 if right then (if dupB vars || dupB keys then 9 else if lackB known (vars++keys++used) then 15 else 0) else 2
theorem errQ_zero {r:Bool} {v k u n:List ByteArray}:errQ r v k u n=0↔r=true/\v.Nodup/\k.Nodup/\∀s∈v++k++u,s∈n:=by
 unfold errQ
 cases r
 ·simp
 ·simp only[if_true]
  cases h1:(dupB v || dupB k)
  ·rw[Bool.or_eq_false_iff,dupB_no,dupB_no]at h1
   cases h2:lackB n (v++k++u)
   ·rw[lackB_no]at h2
    simp only[Bool.false_eq_true,if_false,true_and]
    exact⟨λ_=>⟨h1.1,h1.2,h2⟩,λ_=>trivial⟩
   ·simp only[Bool.false_eq_true,if_false,if_true,true_and]
    constructor
    ·intro h;cases h
    ·rintro⟨_,_,h⟩
     rw[lackB_no.2 h]at h2;cases h2
  ·simp only[if_true,true_and]
   constructor
   ·intro h;cases h
   ·rintro⟨h3,h4,_⟩
    rw[dupB_no.2 h3,dupB_no.2 h4]at h1;cases h1
end Go.Proofs.YtoaemihcbmlkgaaGreatDoor.Mt
namespace Go.Proofs.YtoaemihcbmlkgaaGreatDoor.Mt
open Go Mp
def incM (m:List (ByteArray × Int)) (s:ByteArray):List (ByteArray × Int):=setM m s (lookI m s+1)
def meetM (m:List (ByteArray × Int)) (l:List ByteArray):List (ByteArray × Int):=l.foldl incM m
theorem meetM_snoc (m:List (ByteArray × Int)) (l:List ByteArray) (s:ByteArray):meetM m (l++[s])=incM (meetM m l) s:=by simp[meetM]
def twiceM (m:List (ByteArray × Int)):List ByteArray->Bool
 | []=>false
 | s::l=>decide (1<lookI m s+1) || twiceM (incM m s) l
theorem twiceM_snoc:∀(l:List ByteArray) (m:List (ByteArray × Int)) (s:ByteArray),twiceM m (l++[s])=(twiceM m l || decide (1<lookI (meetM m l) s+1))
 | [],m,s=>by show (decide (1<lookI m s+1) || false)=(false || _);rw[Bool.or_false,Bool.false_or];rfl
 | a::l,m,s=>by
  rw[List.cons_append,twiceM,twiceM_snoc l,twiceM,Bool.or_assoc]
  rfl
def cntS:List ByteArray->ByteArray->Int
 | [],_=>0
 | a::l,s=>(if a=s then 1 else 0)+cntS l s
theorem cntS_nonneg:∀(l:List ByteArray) (s:ByteArray),0<=cntS l s
 | [],_=>by simp[cntS]
 | a::l,s=>by have:=cntS_nonneg l s;rw[cntS];split<;>omega
theorem cntS_le:∀(l:List ByteArray) (s:ByteArray),cntS l s<=l.length
 | [],_=>by simp[cntS]
 | a::l,s=>by have:=cntS_le l s;rw[cntS];simp;split<;>omega
theorem cntS_pos:∀(l:List ByteArray) (s:ByteArray),0<cntS l s↔s∈l
 | [],_=>by simp[cntS]
 | a::l,s=>by
  have h1:=cntS_pos l s
  have h2:=cntS_nonneg l s
  rw[cntS,List.mem_cons]
  by_cases h:a=s
  ·rw[if_pos h];simp[h];omega
  ·rw[if_neg h]
   have:¬ s=a:=λe=>h e.symm
   simp[this,←h1]
theorem look_meet:∀(l:List ByteArray) (m:List (ByteArray × Int)) (s:ByteArray),lookI (meetM m l) s=lookI m s+cntS l s
 | [],m,s=>by simp[meetM,cntS]
 | a::l,m,s=>by
  show lookI (meetM (incM m a) l) s=_
  rw[look_meet l,incM,look_setM,cntS]
  by_cases h:a=s
  ·subst h;simp;omega
  ·simp[h]
theorem look_nil (l:List ByteArray) (s:ByteArray):lookI (meetM [] l) s=cntS l s:=by rw[look_meet];simp[lookI]
theorem look_has (l:List ByteArray) (s:ByteArray):decide (0<lookI (meetM [] l) s)=hasS l s:=by
 rw[look_nil]
 apply bool_of_false
 rw[decide_eq_false_iff_not,hasS_no,cntS_pos]
theorem twice_dup (l:List ByteArray):twiceM [] l=dupB l:=by
 suffices h:∀r:List ByteArray,twiceM [] r.reverse=dupB r.reverse by simpa using h l.reverse
 intro r
 induction r with
 | nil=>rfl
 | cons s r ih =>
  rw[List.reverse_cons,twiceM_snoc,ih,dupB_snoc,←look_has]
  congr 1
  apply bool_of_false
  simp
  omega
end Go.Proofs.YtoaemihcbmlkgaaGreatDoor.Mt
namespace Go.Proofs.YtoaemihcbmlkgaaGreatDoor
open Go Go.RowKit Go.Maps Go.ChangeMaps Mt Mp
theorem mapT:Tryz.prog.underlying 116=some (.map 9 3):=by kernel_rfl
theorem mapK:Tryz.prog.underlying 9=some .string:=by kernel_rfl
theorem mapZ (w:World):(zeroValue 3).run Tryz.prog w=.ok (.int .i64 0) w:=by kernel_rfl
theorem cHas (r:Nat) (m:List (ByteArray × Int)) (s:ByteArray) (w:World) (hM:CntOf w r m) :
  Calls Tryz.prog 66 #[.agg #[.map (some r)],.string s] w λe w'=>e=.returned (.bool (decide (0<lookI m s)))/\Below w.heap.size w w':=by
 have hB0:Below w.heap.size w (w.alloc (.cells #[.map (some r)] 118)):=blw
 have hl:=run_lookup_str (P:=Tryz.prog) mapT mapK (mapZ _) (hM.on hB0) s
 generalize lookI m s=v at *
 clear hM
 go_enter Tryz.func66,Tryz.ntmps66
 go_wp2
 go_ret
 exact⟨rfl,hB0⟩
def MeetS (r:Nat) (m:List (ByteArray × Int)) (l:List ByteArray) (w:World) (e:Ending) (w':World):Prop:=e=.returned (.bool (twiceM m l))/\CntOf w' r (meetM m l)/\w.grownBy w' (some r)
def MeetSL (r b:Nat) (m:List (ByteArray × Int)) (l:List ByteArray) (w:World) (tw i:Value) (wr:World):Prop:=
 ∃k:Nat,k<=l.length/\i=.int .i64 k/\tw=.bool (twiceM m (l.take k))/\CntOf wr r (meetM m (l.take k))/\w.grownBy wr (some r)/\wr.cell? ⟨b,0,none⟩=some (.map (some r))/\b<wr.heap.size
theorem cMeet (r:Nat) (m:List (ByteArray × Int)) (l:List ByteArray) (A:Option Addr) (c:Nat) (w:World) (hM:CntOf w r m) (hr:Rd w A (l.map Value.string)) (hl:l.length<=1000000)
  (hm:∀s,0<=lookI m s/\lookI m s<=1000000000) :
  Calls Tryz.prog 63 #[.agg #[.map (some r)],.slice A l.length c] w (MeetS r m l w):=by
 have hl':(l.length:Int)<=1000000:=by omega
 have hrw:=lt_of_cnt hM
 have hB0:Below w.heap.size w (w.alloc (.cells #[.map (some r)] 118)):=blw
 have hg0:w.grownBy (w.alloc (.cells #[.map (some r)] 118)) (some r):=World.grownBy_alloc w _ _
 have hb0:(w.alloc (.cells #[.map (some r)] 118)).cell? ⟨w.heap.size,0,none⟩=some (.map (some r)):=by rw[World.cell?,heap_alloc_new];rfl
 have hz0:w.heap.size<(w.alloc (.cells #[.map (some r)] 118)).heap.size:=by simp
 go_enter Tryz.func63,Tryz.ntmps63
 go_wp2
 go_loopw [4,9] (MeetSL r w.heap.size m l w) (λ_ i _=>l.length-(intOf i).toNat)
 case atStart=>exact⟨0,by omega,rfl,rfl,hM.on hB0,hg0,hb0,hz0⟩
 case round =>
  have HM:=Lib.hid hM
  clear hB0 hg0 hb0 hz0 hM
  obtain⟨k,hk,rfl,rfl,hMk,hg,hb,hz⟩:=hrel
  by_cases hlt:k<l.length
  ·obtain⟨s,hs⟩:∃x,l[k]?=some x:=⟨_,List.getElem?_eq_getElem hlt⟩
   have hA:∀a,A=some a->a.block≠r:=by
    obtain⟨g,o,rfl,c0⟩:=hr.at_ (j:=k) (u:=.string s) (by simp[hs])
    intro a ha e
    injection ha with ha
    subst ha
    simp only at e
    subst e
    have h1:=HM.out
    unfold CntOf at h1
    rw[World.cell?]at c0
    simp only[h1]at c0
    simp at c0
   obtain⟨g,o,rfl,c0⟩:=(hr.grown hg (λa ha e=>hA a ha (by injection e))).at_ (j:=k) (u:=.string s) (by simp[hs])
   have Ht:Hid (twiceM m (l.take (k+1))=(twiceM m (l.take k) || decide (1<lookI (meetM m (l.take k)) s+1))):=by show _=_;rw[take_snoc_of hs,twiceM_snoc]
   have Hmm:Hid (meetM m (l.take (k+1))=setM (meetM m (l.take k)) s (lookI (meetM m (l.take k)) s+1)):=by show _=_;rw[take_snoc_of hs,meetM_snoc];rfl
   have hlo:0<=lookI (meetM m (l.take k)) s/\lookI (meetM m (l.take k)) s<=2000000000:=by
    rw[look_meet]
    have h1:=cntS_le (l.take k) s
    have h2:=cntS_nonneg (l.take k) s
    have h3:=hm s
    rw[List.length_take]at h1
    omega
   have hl1:=run_lookup_str (P:=Tryz.prog) mapT mapK (mapZ wr) hMk s
   generalize hmk:meetM m (l.take k)=mk at *
   have hrr:=lt_of_cnt hMk
   have hMk2:=putM_cnt hrr (setM mk s (lookI mk s+1))
   have hg2:=hg.trans (putM_grown wr r (setM mk s (lookI mk s+1)))
   have hb2:(putM wr r (setM mk s (lookI mk s+1))).cell? ⟨w.heap.size,0,none⟩=some (.map (some r)):=by
    rw[(putM_grown wr r _).cell_far _ hz (λe=>by injection e with e;simp at e;omega)];exact hb
   have hz2:w.heap.size<(putM wr r (setM mk s (lookI mk s+1))).heap.size:=Nat.lt_of_lt_of_le hz (putM_grown wr r _).size
   have hl2:=run_lookup_str (P:=Tryz.prog) mapT mapK (mapZ _) hMk2 s
   rw[look_setM,if_pos rfl]at hl2
   obtain⟨hv0,hv1⟩:=hlo
   have Hfin:=Lib.hid (And.intro hMk2 (And.intro hg2 (And.intro hb2 hz2)))
   generalize lookI mk s=v at *
   generalize twiceM m (l.take k)=tw at *
   clear hs hr hA hm hmk hMk2 hg2 hg hz2
   obtain⟨W2,hW2⟩:∃W,putM wr r (setM mk s (v+1))=W:=⟨_,rfl⟩
   rw[hW2]at hb2 hl2 Hfin
   have HW2:=Lib.hid hW2
   clear hW2
   cases tw
   ·go_wp2_with (at_mapUpdate;refine wpList_mapUpdate_str rfl _ _ _ _ rfl mapT mapK rfl hMk s (v+1) rfl rfl ?_;rw[HW2.out])
    go_roundw
    case rel=>exact⟨k+1,by omega,by go_num,by rw[Ht.out];rfl,by rw[Hmm.out];exact Hfin.out.1,Hfin.out.2⟩
    case measure=>simp[intOf];omega
   ·go_wp2_with (at_mapUpdate;refine wpList_mapUpdate_str rfl _ _ _ _ rfl mapT mapK rfl hMk s (v+1) rfl rfl ?_;rw[HW2.out])
    go_roundw
    case rel=>exact⟨k+1,by omega,by go_num,by rw[Ht.out];rfl,by rw[Hmm.out];exact Hfin.out.1,Hfin.out.2⟩
    case measure=>simp[intOf];omega
  ·have Hk2:Hid (l.take k=l):=List.take_of_length_le (by omega)
   clear hr hm
   go_wp2
   go_ret
   exact⟨by rw[Hk2.out];rfl,by rw[←Hk2.out];exact hMk,hg⟩
open Um Fm
def KeysL (ord:List Ky) (w:World) (v i:Value) (wr:World):Prop:=∃(k:Nat) (v':Value),k<=ord.length/\i=.int .i64 k/\v=v'/\wr.ownsRow w.heap.size 9 1 v' k ((ord.take k).map λy=>Value.string y.v)/\Below w.heap.size w wr
def keysN (ord:List Ky):List ByteArray:=ord.map (·.v)
theorem cKeys (M:Option Nat) (ask dist:Bool) (nv np nf:Nat) (a1 a2 a3 a4:Option Addr) (c1 c2 c3 c4:Nat) (lim off:Int) (ord:List Ky) (w:World) (hr:RdKey w a4 ord) (hl:ord.length<=1000000) :
  Calls Tryz.prog 64 #[.agg #[.map M,.bool ask,.bool dist,.slice a1 nv c1,.slice a2 np c2,.slice a3 nf c3,.slice a4 ord.length c4,.int .i64 lim,.int .i64 off]] w (NamesR (keysN ord) w):=by
 have hl':(ord.length:Int)<=1000000:=by omega
 have hB0:Below w.heap.size w (w.alloc (.cells #[.map M,.bool ask,.bool dist,.slice a1 nv c1,.slice a2 np c2,.slice a3 nf c3,.slice a4 ord.length c4,.int .i64 lim,.int .i64 off] 120)):=blw
 obtain⟨i,hi,hz,hsize,hby⟩:=info_parts stringInfo'
 go_enter Tryz.func64,Tryz.ntmps64
 go_wp2
 go_loopw [2,9] (KeysL ord w) (λ_ i _=>ord.length-(intOf i).toNat)
 case atStart=>exact⟨0,_,by omega,rfl,rfl,by simpa using World.ownsRow_nil _ _ _ _,hB0⟩
 case round =>
  clear hB0
  obtain⟨k,v',hk,rfl,rfl,own,hB⟩:=hrel
  by_cases hlt:k<ord.length
  ·obtain⟨y,hy⟩:∃x,ord[k]?=some x:=⟨_,List.getElem?_eq_getElem hlt⟩
   obtain⟨g,o,cs,rfl,-,rfl,hc⟩:=(RdL.mono hr hB (λ_ _ _ h=>h)).at_ (by omega) hy
   have e0:wr.cell? ⟨g,o+k*2,none⟩=some (.string y.v):=hc 0 _ rfl
   have e1:wr.cell? ⟨g,o+k*2+1,none⟩=some (.bool y.d):=hc 1 _ rfl
   have B2:Below wr.heap.size wr ((wr.alloc (.cells #[.string y.v,.bool y.d] 177)).alloc (.cells #[.string y.v] 9)):=blw
   have own2:=own_below own B2 (Nat.le_refl _)
   have R2:Rd ((wr.alloc (.cells #[.string y.v,.bool y.d] 177)).alloc (.cells #[.string y.v] 9)) (some ⟨wr.heap.size+1,0,none⟩) [.string y.v]:=Rd.of_block (heap_two_2 wr _ _) rfl
   have hbs:w.heap.size<=wr.heap.size:=hB.size
   have B02:=Lib.hid (below_tr hB B2)
   have Hts:=Lib.hid (take_snoc_of hy)
   clear hc hy hr own hB B2 hi hz hsize hby
   go_wp2_with (at_builtin;refine wpList_appG rfl rfl Tryz.underlying32 stringInfo' rfl (by omega) rfl own2 rfl R2 rfl (by intro u hu;simp at hu;subst hu;rfl) (by omega) (by omega) (by simp;omega) ?_;intro v5 w5 own5 hb5 _)
   go_roundw
   case rel=>exact⟨k+1,v5,by omega,by go_num,rfl,by rw[Hts.out,List.map_append];exact own5,B02.out.trans hb5⟩
   case measure=>simp[intOf];omega
  ·have Hk2:Hid (ord.take k=ord):=List.take_of_length_le (by omega)
   have hkl:k=ord.length:=by omega
   obtain⟨A1,d1,rfl,_,_⟩:=own_slice own
   subst hkl
   clear hr
   go_wp2
   go_ret
   refine⟨_,rfl,?_,hB⟩
   unfold keysN
   rw[List.length_map,List.map_map]
   have h:=own
   rw[Hk2.out]at h
   exact h
def OverR (l:List ByteArray) (ask dist:Bool) (nv np nf nk:Nat) (a1 a2 a3 a4:Option Addr) (c1 c2 c3 c4:Nat) (lim off:Int) (w:World) (e:Ending) (w':World):Prop:=
 ∃r,e=.returned (.agg #[.map (some r),.bool ask,.bool dist,.slice a1 nv c1,.slice a2 np c2,.slice a3 nf c3,.slice a4 nk c4,.int .i64 lim,.int .i64 off])/\CntOf w' r (meetM [] l)/\w.heap.size<=r/\Below w.heap.size w w'
theorem cOver (l:List ByteArray) (A:Option Addr) (c:Nat) (ask dist:Bool) (nv np nf nk:Nat) (a1 a2 a3 a4:Option Addr) (c1 c2 c3 c4:Nat) (lim off:Int) (w:World) (hr:Rd w A (l.map Value.string)) (hl:l.length<=1000000) :
  Calls Tryz.prog 62 #[.agg #[.bool ask,.bool dist,.slice a1 nv c1,.slice a2 np c2,.slice a3 nf c3,.slice a4 nk c4,.int .i64 lim,.int .i64 off],.slice A l.length c] w (OverR l ask dist nv np nf nk a1 a2 a3 a4 c1 c2 c3 c4 lim off w):=by
 have hmm:=@run_makeMap Tryz.prog
 obtain⟨W,hW⟩:∃W:World,((((w.alloc (.cells #[.bool ask,.bool dist,.slice a1 nv c1,.slice a2 np c2,.slice a3 nf c3,.slice a4 nk c4,.int .i64 lim,.int .i64 off] 50)).alloc (.cells #[.map none,.bool false,.bool false,.slice none 0 0,.slice none 0 0,.slice none 0 0,.slice none 0 0,.int .i64 0,.int .i64 0] 120)).alloc (.map #[] 0)).alloc (.cells #[.map (some (w.heap.size+1+1)),.bool ask,.bool dist,.slice a1 nv c1,.slice a2 np c2,.slice a3 nf c3,.slice a4 nk c4,.int .i64 lim,.int .i64 off] 120))=W:=⟨_,rfl⟩
 have hsz:W.heap.size=w.heap.size+1+1+1+1:=by rw[←hW];simp
 have hB:Below w.heap.size w W:=by rw[←hW];exact blw
 have g1:W.heap[w.heap.size+1]?=some (.cells #[.map none,.bool false,.bool false,.slice none 0 0,.slice none 0 0,.slice none 0 0,.slice none 0 0,.int .i64 0,.int .i64 0] 120 (0,0)):=by
  rw[←hW,Below.heap_alloc _ _ _ (by simp),Below.heap_alloc _ _ _ (by simp)];exact heap_two_2 w _ _
 have g2:W.heap[w.heap.size+1+1]?=some (.map #[] 0):=by
  rw[←hW,Below.heap_alloc _ _ _ (by simp)]
  have:=heap_alloc_new ((w.alloc (.cells #[.bool ask,.bool dist,.slice a1 nv c1,.slice a2 np c2,.slice a3 nf c3,.slice a4 nk c4,.int .i64 lim,.int .i64 off] 50)).alloc (.cells #[.map none,.bool false,.bool false,.slice none 0 0,.slice none 0 0,.slice none 0 0,.slice none 0 0,.int .i64 0,.int .i64 0] 120)) (.map #[] 0)
  simpa using this
 have g3:W.heap[w.heap.size+1+1+1]?=some (.cells #[.map (some (w.heap.size+1+1)),.bool ask,.bool dist,.slice a1 nv c1,.slice a2 np c2,.slice a3 nf c3,.slice a4 nk c4,.int .i64 lim,.int .i64 off] 120 (0,0)):=by
  rw[←hW]
  have:=heap_alloc_new (((w.alloc (.cells #[.bool ask,.bool dist,.slice a1 nv c1,.slice a2 np c2,.slice a3 nf c3,.slice a4 nk c4,.int .i64 lim,.int .i64 off] 50)).alloc (.cells #[.map none,.bool false,.bool false,.slice none 0 0,.slice none 0 0,.slice none 0 0,.slice none 0 0,.int .i64 0,.int .i64 0] 120)).alloc (.map #[] 0)) (.cells #[.map (some (w.heap.size+1+1)),.bool ask,.bool dist,.slice a1 nv c1,.slice a2 np c2,.slice a3 nf c3,.slice a4 nk c4,.int .i64 lim,.int .i64 off] 120)
  simpa using this
 have hq:=cMeet (w.heap.size+1+1) [] l A c W g2 (hr.later hB) hl (λs=>by simp[lookI])
 have hCi:(Tryz.prog.info? 120).map (·.size)=some 9:=by kernel_rfl
 have HW:=Lib.hid hW
 clear hW
 go_enter Tryz.func62,Tryz.ntmps62
 go_wp2_with fail
 simp only[HW.out]
 clear hmm
 refine hq.mono ?_
 rintro e w1 ⟨rfl,hM1,hg1⟩
 have r1:=hg1.block (w.heap.size+1) (by omega) (by simp)
 have r3:=hg1.block (w.heap.size+1+1+1) (by omega) (by simp)
 rw[g1]at r1
 rw[g3]at r3
 have hc:∀i,w1.cell? ⟨w.heap.size+1+1+1,i,none⟩=#[Value.map (some (w.heap.size+1+1)),.bool ask,.bool dist,.slice a1 nv c1,.slice a2 np c2,.slice a3 nf c3,.slice a4 nk c4,.int .i64 lim,.int .i64 off][i]?:=λi=>by rw[World.cell?,r3];rfl
 have k0:=hc 0
 have k1:=hc 1
 have k2:=hc 2
 have k3:=hc 3
 have k4:=hc 4
 have k5:=hc 5
 have k6:=hc 6
 have k7:=hc 7
 have k8:=hc 8
 simp at k0 k1 k2 k3 k4 k5 k6 k7 k8
 have Hr1:=Lib.hid r1
 have HM1:=Lib.hid hM1
 have hB1:Below w.heap.size w w1:=hB.grown hg1 hB.size λq e=>by cases e;omega
 have HB1:=Lib.hid hB1
 clear hq g1 g2 g3 r1 r3 hc hr hM1 hg1 hB hB1
 go_wp2_with (refine wpList_store_row rfl 120 _ _ rfl rfl rfl hCi Hr1.out rfl rfl ?_)
 obtain⟨F,hF⟩:∃F:World,w1.setRow (w.heap.size+1) #[.map (some (w.heap.size+1+1)),.bool ask,.bool dist,.slice a1 nv c1,.slice a2 np c2,.slice a3 nf c3,.slice a4 nk c4,.int .i64 lim,.int .i64 off]=F:=⟨_,rfl⟩
 have hrow:=setRow_heap w1 (w.heap.size+1) _ #[.map (some (w.heap.size+1+1)),.bool ask,.bool dist,.slice a1 nv c1,.slice a2 np c2,.slice a3 nf c3,.slice a4 nk c4,.int .i64 lim,.int .i64 off] 120 (0,0) Hr1.out
 have hM2:CntOf F (w.heap.size+1+1) (meetM [] l):=by
  unfold CntOf;rw[←hF,setRow_other _ _ _ _ (by omega)];exact HM1.out
 have BF:Below w.heap.size w F:=by rw[←hF];exact below_setRow HB1.out (by omega) _
 rw[hF]at hrow
 have hc:∀i,F.cell? ⟨w.heap.size+1,i,none⟩=#[Value.map (some (w.heap.size+1+1)),.bool ask,.bool dist,.slice a1 nv c1,.slice a2 np c2,.slice a3 nf c3,.slice a4 nk c4,.int .i64 lim,.int .i64 off][i]?:=λi=>by rw[World.cell?,hrow];rfl
 have j0:=hc 0
 have j1:=hc 1
 have j2:=hc 2
 have j3:=hc 3
 have j4:=hc 4
 have j5:=hc 5
 have j6:=hc 6
 have j7:=hc 7
 have j8:=hc 8
 simp at j0 j1 j2 j3 j4 j5 j6 j7 j8
 simp only[hF]
 exact bodyPost_ret (v:=.agg #[.map (some (w.heap.size+1+1)),.bool ask,.bool dist,.slice a1 nv c1,.slice a2 np c2,.slice a3 nf c3,.slice a4 nk c4,.int .i64 lim,.int .i64 off]) (by simp[results,Tryz.results62,go_sem,j0,j1,j2,j3,j4,j5,j6,j7,j8]) rfl ⟨_,rfl,hM2,by omega,BF⟩
open Go.Shelf
attribute [local go_sem] Oper.semAt_some
theorem own_block {w:World} {base:Nat} {e:TypeId} {size n:Nat} {A:Option Addr} {m c:Nat} {xs:List Value} (h:w.ownsRow base e size (.slice A m c) n xs):∀a,A=some a->base<=a.block/\a.block<w.heap.size:=by
 intro a ha
 exact h.lt a.block (by rw[ha];rfl)
def fewQ {n:Nat} (q:Qy n):Prop:=q.vars.length<=100000/\q.pats.length<=300000/\q.ord.length<=100000/\q.fils.length<=1353245080300/\(∀x∈q.fils,szE n x)/\(q.fils.flatMap (preE n)).length<=500000
def saidQ {n:Nat} (q:Qy n):List ByteArray:=q.vars++(keysN q.ord++usedN n q.fils)
theorem keysN_len (l:List Ky):(keysN l).length=l.length:=List.length_map _
theorem saidQ_len {n:Nat} {q:Qy n} (h:fewQ q):(saidQ q).length<=700000:=by
 have:=usedN_len n q.fils
 obtain⟨h1,h2,h3,h4,h5,h6⟩:=h
 unfold saidQ
 rw[List.length_append,List.length_append,keysN_len]
 omega
theorem rdLs3 {w:World} {A B C:Option Addr} {a b c:List ByteArray} {ca cb cc:Nat} {D:Nat} (hd:w.heap[D]?=some (.cells #[.slice A a.length ca,.slice B b.length cb,.slice C c.length cc] 32 (0,0))) (h1:Rd w A (a.map Value.string)) (h2:Rd w B (b.map Value.string)) (h3:Rd w C (c.map Value.string)) :
  RdLs w (some ⟨D,0,none⟩) [a,b,c]:=
 ⟨[.slice A a.length ca]++([.slice B b.length cb]++[.slice C c.length cc]),Rd.of_block hd rfl,All.append (l:=[a]) (All.one rfl ⟨_,_,rfl,h1⟩) (All.append (l:=[b]) (All.one rfl ⟨_,_,rfl,h2⟩) (All.one rfl ⟨_,_,rfl,h3⟩))⟩
def SeqFrom (S:Nat) (w:World) (Bp:Nat) (l:List ByteArray):Prop:=∃A c,w.cell? ⟨Bp,0,none⟩=some (.slice A l.length c)/\Rd w A (l.map Value.string)/\S<=Bp/\∀a,A=some a->S<=a.block
def UsedR {n:Nat} (q:Qy n) (w:World) (e:Ending) (w':World):Prop:=∃Bp,e=.returned (.func (.func 173) #[] #[.pointer (some ⟨Bp,0,none⟩)])/\SeqFrom w.heap.size w' Bp (saidQ q)/\Below w.heap.size w w'
theorem cUsed (M:Option Nat) (n:Nat) (q:Qy n) (a1 a2 a3 a4:Option Addr) (c1 c2 c3 c4:Nat) (w:World) (hf:fewQ q) (h1:Rd w a1 (q.vars.map Value.string)) (h3:RdEs n w a3 q.fils) (h4:RdKey w a4 q.ord) :
  Calls Tryz.prog 65 #[.agg #[.map M,.bool q.ask,.bool q.dist,.slice a1 q.vars.length c1,.slice a2 q.pats.length c2,.slice a3 q.fils.length c3,.slice a4 q.ord.length c4,.int .i64 q.lim,.int .i64 q.off]] w (UsedR q w):=by
 obtain⟨f1,f2,f3,f4,f5,f6⟩:=hf
 go_enter Tryz.func65,Tryz.ntmps65
 go_wp2
 obtain⟨W,hW⟩:∃W:World,w.alloc (.cells #[.map M,.bool q.ask,.bool q.dist,.slice a1 q.vars.length c1,.slice a2 q.pats.length c2,.slice a3 q.fils.length c3,.slice a4 q.ord.length c4,.int .i64 q.lim,.int .i64 q.off] 120)=W:=⟨_,rfl⟩
 have hB0:Below w.heap.size w W:=by rw[←hW];exact blw
 have hbx:∀(i:Nat) v,#[Value.map M,.bool q.ask,.bool q.dist,.slice a1 q.vars.length c1,.slice a2 q.pats.length c2,.slice a3 q.fils.length c3,.slice a4 q.ord.length c4,.int .i64 q.lim,.int .i64 q.off][i]?=some v->W.cell? ⟨w.heap.size,i,none⟩=some v:=by
  intro i v hv;rw[←hW,World.cell?,heap_alloc_new];exact hv
 simp only[hW]
 have HW:=Lib.hid hW
 clear hW
 have k1:=h1.later hB0
 have k3:=RdEs.later h3 hB0
 have k4:=RdL.mono h4 hB0 (λ_ _ _ h=>h)
 clear h1 h3 h4
 refine Rf.p0 W.heap.size ?R (.quiet [0,1,2,3,5,6,7] (.one 4 (.one 8 (.one 9 (.one 10 (.one 11 (.quiet [12] (.done)))))))) ?_ ?_
 case R=>exact λa W'=>∃(u3 u4 u5 u6 u7 u8 u9 u10 u11 u12 u13 u14:Value) (Bp:Nat),a={tmps:=#[.agg #[.map M,.bool q.ask,.bool q.dist,.slice a1 q.vars.length c1,.slice a2 q.pats.length c2,.slice a3 q.fils.length c3,.slice a4 q.ord.length c4,.int .i64 q.lim,.int .i64 q.off],.pointer (some ⟨w.heap.size,0,none⟩),.func (.func 173) #[] #[.pointer (some ⟨Bp,0,none⟩)],u3,u4,u5,u6,u7,u8,u9,u10,u11,u12,u13,u14],defers:=[]}/\SeqFrom w.heap.size W' Bp (saidQ q)/\Below W.heap.size W W'
 ·intro wd hbd hwz
  have b0:=cellL (hbx 0 (.map M) rfl) hbd
  have b1:=cellL (hbx 1 (.bool q.ask) rfl) hbd
  have b2:=cellL (hbx 2 (.bool q.dist) rfl) hbd
  have b3:=cellL (hbx 3 (.slice a1 q.vars.length c1) rfl) hbd
  have b4:=cellL (hbx 4 (.slice a2 q.pats.length c2) rfl) hbd
  have b5:=cellL (hbx 5 (.slice a3 q.fils.length c3) rfl) hbd
  have b6:=cellL (hbx 6 (.slice a4 q.ord.length c4) rfl) hbd
  have b7:=cellL (hbx 7 (.int .i64 q.lim) rfl) hbd
  have b8:=cellL (hbx 8 (.int .i64 q.off) rfl) hbd
  have e1:=k1.later hbd
  have e3:=RdEs.later k3 hbd
  have e4:=RdL.mono k4 hbd (λ_ _ _ h=>h)
  have Hz:=Lib.hid hwz
  clear k1 k3 k4 hbx hwz
  refine Rf.pl_quiet ?_
  iterate 7 go_big_quiet_step (fail)
  refine wpQuiet_nil (Rf.pl_one ?_)
  have hK:=cKeys M q.ask q.dist q.vars.length q.pats.length q.fils.length a1 a2 a3 a4 c1 c2 c3 c4 q.lim q.off q.ord wd e4 (by omega)
  go_wp2_with (refine hK.mono ?_;rintro e w1 ⟨v1,rfl,own1,hb1⟩)
  obtain⟨A1,d1,rfl,_,r1⟩:=own_slice own1
  have hB1:Below W.heap.size wd w1:=hb1.mono (by rw[Hz.out];exact Nat.le_refl _)
  refine⟨hB1,Rf.pl_one ?_⟩
  have hU:=qUsed n q.fils a3 c3 w1 (RdEs.later e3 hb1) f4 f5 f6
  have ev:=e1.later hb1
  clear hK e3 e4 own1
  go_wp2_with (refine hU.mono ?_;rintro e w2 ⟨v2,rfl,own2,hb2⟩)
  obtain⟨A2,d2,rfl,_,r2⟩:=own_slice own2
  have hB2:Below W.heap.size w1 w2:=hb2.mono (by have:=hB1.size;rw[Hz.out]at this;exact this)
  refine⟨hB2,Rf.pl_one ?_⟩
  have ev2:=ev.later hb2
  have r12:=r1.later hb2
  clear ev r1 hU own2
  go_wp2_with fail
  have hz2:W.heap.size<=w2.heap.size:=by have:=hB1.size;have:=hB2.size;have:=Hz.out;omega
  have hb3:Below w2.heap.size w2 (w2.alloc (.cells #[.slice a1 q.vars.length c1,.slice A1 (keysN q.ord).length d1,.slice A2 (usedN n q.fils).length d2] 32)):=blw
  refine⟨hb3.mono hz2,Rf.pl_one ?_⟩
  have hR:=rdLs3 (heap_alloc_new w2 _) (ev2.later hb3) (r12.later hb3) (r2.later hb3)
  have hul:=usedN_len n q.fils
  have hcc:=cConcat [q.vars,keysN q.ord,usedN n q.fils] (some ⟨w2.heap.size,0,none⟩) 3 _ hR (by simp) (by simp[sumL,keysN_len];omega)
  have hfl:[q.vars,keysN q.ord,usedN n q.fils].flatMap id=saidQ q:=by simp[saidQ,List.flatMap_cons]
  rw[hfl]at hcc
  clear hR ev2 r12 r2 hfl
  go_wp2_with (refine hcc.mono ?_;rintro e w4 ⟨v4,rfl,own4,hb4⟩)
  obtain⟨A4,d4,rfl,_,r4⟩:=own_slice own4
  have hA4:=own_block own4
  have hB4:Below W.heap.size (w2.alloc (.cells #[.slice a1 q.vars.length c1,.slice A1 (keysN q.ord).length d1,.slice A2 (usedN n q.fils).length d2] 32)) w4:=hb4.mono (by simp;omega)
  refine⟨hB4,Rf.pl_one ?_⟩
  have hV:=cValues A4 (saidQ q).length d4 w4
  clear own4 hcc
  go_wp2_with (refine hV.mono ?_;rintro e w5 ⟨rfl,rfl⟩)
  have hb5:Below w4.heap.size w4 (w4.alloc (.cells #[.slice A4 (saidQ q).length d4] 32)):=blw
  have hz4:W.heap.size<=w4.heap.size:=by have:=hB4.size;simp at this;omega
  refine⟨hb5.mono hz4,Rf.pl_quiet ?_⟩
  have hwW:=hB0.size
  have hq:SeqFrom w.heap.size (w4.alloc (.cells #[.slice A4 (saidQ q).length d4] 32)) w4.heap.size (saidQ q):=⟨A4,d4,by rw[World.cell?,heap_alloc_new];rfl,r4.later hb5,by omega,λa ha=>by have:=(hA4 a ha).1;simp at this;omega⟩
  have hBB:Below W.heap.size W (w4.alloc (.cells #[.slice A4 (saidQ q).length d4] 32)):=((((hbd.trans hB1).trans hB2).trans (hb3.mono hz2)).trans hB4).trans (hb5.mono hz4)
  iterate 1 go_big_quiet_step (fail)
  exact wpQuiet_nil (Rf.pl_done ⟨_,_,_,_,_,_,_,_,_,_,_,_,_,rfl,hq,hBB⟩)
 ·rintro a W1 ⟨u3,u4,u5,u6,u7,u8,u9,u10,u11,u12,u13,u14,Bp,rfl,hq,hb1⟩
  clear k1 k3 k4 hbx
  go_wp2
  go_ret
  exact⟨_,rfl,hq,below_tr hB0 hb1⟩
end Go.Proofs.YtoaemihcbmlkgaaGreatDoor
