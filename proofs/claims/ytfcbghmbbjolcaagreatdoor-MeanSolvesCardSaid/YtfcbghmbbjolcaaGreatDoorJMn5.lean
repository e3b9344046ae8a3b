/- The program's package mean, walked: loose, triple. The progr -/
import Derived.Test.YtfcbghmbbjolcaaGreatDoorJMR9
import Derived.Test.YtfcbghmbbjolcaaGreatDoorJTpL
set_option maxHeartbeats 16000000
set_option maxRecDepth 100000
namespace Go.Proofs.YtfcbghmbbjolcaaGreatDoor
open Go Go.RowKit Go.Maps Go.ChangeMaps Um Fm Mt Tx Om Mv Mn
def ji (β:Bd) (l:List ByteArray):Bd:=l.foldl m7 β
theorem mq:∀{l:List ByteArray} {β:Bd} {s:ByteArray},s∈l->ji β l s=none
 | [],_,_,h=>by simp at h
 | a::l,β,s,h=>by
  show ji (m7 β a) l s=none
  by_cases hm:s∈l
  ·exact mq hm
  ·have e:s=a:=by
    rw[List.mem_cons]at h
    exact h.elim id λk=>absurd k hm
   have:∀(l:List ByteArray) (γ:Bd),γ s=none->ji γ l s=none:=by
    intro l
    induction l with
    | nil=>intro γ h;exact h
    | cons b l ih=>intro γ h;exact ih (m7 γ b) (by unfold m7;split<;>first|rfl|exact h)
   exact this l _ (by unfold m7;rw[if_pos e])
theorem jX:∀{l:List ByteArray} {β:Bd} {s:ByteArray},s ∉ l->ji β l s=β s
 | [],_,_,_=>rfl
 | a::l,β,s,h=>by
  rw[List.mem_cons,_root_.not_or]at h
  show ji (m7 β a) l s=β s
  rw[jX h.2]
  unfold m7;rw[if_neg h.1]
theorem qB (β:Bd) (l:List ByteArray) (s:ByteArray):ji β (l++[s])=m7 (ji β l) s:=by unfold ji;rw[List.foldl_append];rfl
theorem xT {w:World} {r:Nat} {f:Fmv} (h:aY w r f) (p:Addr) (hp:p.block=r):w.cell? p=none:=by
 obtain⟨es,c,h,_⟩:=h
 rw[World.cell?,hp,h]
theorem Rd.grownM {w w':World} {r:Nat} {f:Fmv} (hM:aY w r f) {A:Option Addr} {xs:List Value} (hr:Rd w A xs) (hg:w.grownBy w' (some r)):Rd w' A xs:=by
 rcases hr with h|⟨g,o,hA,hx⟩
 ·exact .inl h
 ·refine .inr ⟨g,o,hA,λj u hu=>?_⟩
  have hc:=hx j u hu
  have hne:g≠r:=λe=>by
   have:=xT hM ⟨g,o+j,none⟩ e
   rw[hc]at this;cases this
  rw[World.cell?,hg.block g (ag hc) (λe=>hne (by injection e))];exact hc
theorem dR {w w':World} {r:Nat} {f:Fmv} (hM:aY w r f) {p:Addr} {u:Value} (hc:w.cell? p=some u) (hg:w.grownBy w' (some r)):w'.cell? p=some u:=by
 have hne:p.block≠r:=λe=>by
  have:=xT hM p e
  rw[hc]at this;cases this
 rw[World.cell?,hg.block p.block (ag hc) (λe=>hne (by injection e))];exact hc
def IU (r:Nat) (β:Bd) (l:List ByteArray) (w:World) (e:Ending) (w':World):Prop:=(∃v,e=.returned v)/\aY w' r (cg (ji β l))/\w.grownBy w' (some r)
def IV (r:Nat) (β:Bd) (l:List ByteArray) (w:World) (i:Value) (wr:World):Prop:=∃k:Nat,k<=l.length/\i=.int .i64 k/\aY wr r (cg (ji β (l.take k)))/\w.grownBy wr (some r)/\wr.cell? ⟨w.heap.size,0,none⟩=some (.map (some r))
theorem CP (r:Nat) (β:Bd) (l:List ByteArray) (A:Option Addr) (c n:Nat) (w:World) (hn:l.length=n) (hl:n<=1000000) (hM:aY w r (cg β)) (hr:Rd w A (l.map Value.string)) :
  Calls Tryz.prog 152 #[.agg #[.map (some r)],.slice A n c] w (IU r β l w):=by
 have hB0:Below w.heap.size w (w.alloc (.cells #[.map (some r)] 94)):=blw
 have c0:(w.alloc (.cells #[.map (some r)] 94)).cell? ⟨w.heap.size,0,none⟩=some (.map (some r)):=by rw[World.cell?,heap_alloc_new];rfl
 have hn':(n:Int)<=1000000:=by omega
 go_enter Tryz.func152,Tryz.ntmps152
 go_wp2
 go_loopw [5,8] (λs i wr=>IV r β l w i wr) (λ_ i _=>n-(intOf i).toNat)
 case atStart=>exact⟨0,by omega,rfl,hM.on hB0,aC hB0,c0⟩
 case round =>
  obtain⟨k,hk,rfl,hMk,hg,hc⟩:=hrel
  have HM:=Lib.hid hM
  clear hB0 c0 hM
  by_cases hlt:k<n
  ·obtain⟨s,hs⟩:∃s,l[k]?=some s:=⟨_,List.getElem?_eq_getElem (by omega)⟩
   obtain⟨g,o,rfl,hx⟩:=(Rd.grownM HM.out hr hg).at_ (j:=k) (u:=.string s) (by rw[List.getElem?_map,hs];rfl)
   have Hs:Hid (ji β (l.take (k+1))=m7 (ji β (l.take k)) s):=by show _=_;rw[ah hs,qB]
   have HMk:=Lib.hid hMk
   have HG:=Lib.hid hg
   have HC:=Lib.hid hc
   have HN:=Lib.hid (And.intro hn hs)
   clear hs hr hn hg hMk
   go_wp2_with (first
    | (at_delete;refine oO rfl _ _ _ _ rfl yg yh rfl HMk.out _ rfl ?_;intro w4 hM4 hg4)
    | fail)
   go_roundw
   case rel=>exact⟨k+1,by have:=HN.out.1;omega,by go_num,by rw[Hs.out,←FO];exact hM4,bo HG.out hg4,dR HMk.out HC.out hg4⟩
   case measure=>simp[intOf];omega
  ·have hk2:l.take k=l:=List.take_of_length_le (by omega)
   rw[hk2]at hMk
   go_wp2
   go_end0
   exact⟨⟨_,rfl⟩,hMk,hg⟩
def bL (β:Bd):List (Sl × Tm)->Option Bd
 | []=>some β
 | a::l=>(b1 β a.1 a.2).bind λβ=>bL β l
theorem yj:∀(l:List (Sl × Tm)) (β:Bd) (a:Sl × Tm),bL β (l++[a])=(bL β l).bind λβ=>b1 β a.1 a.2
 | [],β,a=>by show (b1 β a.1 a.2).bind (λβ=>bL β [])=b1 β a.1 a.2;cases b1 β a.1 a.2<;>rfl
 | b::l,β,a=>by
  rw[List.cons_append,bL,bL]
  cases b1 β b.1 b.2 with
  | none=>rfl
  | some γ=>exact yj l γ a
def jG (p:Pat) (t:Tp):List (Sl × Tm):=[(p.s,t.s),(p.p,t.p),(p.o,t.o)]
theorem Gx (β:Bd) (p:Pat) (t:Tp):bL β (jG p t)=b3 β p t:=by
 unfold jG b3
 simp only[bL]
 cases b1 β p.s t.s with
 | none=>rfl
 | some a =>
  simp only[Option.bind_some]
  cases b1 a p.p t.p with
  | none=>rfl
  | some b=>simp only[Option.bind_some];cases b1 b p.o t.o<;>rfl
theorem Ge {β:Bd} {l:List (Sl × Tm)} {k:Nat} (h:bL β (l.take k)=none):bL β l=none:=by
 rw[←List.take_append_drop k l]
 have key:∀(m a:List (Sl × Tm)) (γ:Bd),bL γ a=none->bL γ (a++m)=none:=by
  intro m a
  induction a with
  | nil=>intro γ h;cases h
  | cons x a ih =>
   intro γ h
   rw[List.cons_append,bL]
   rw[bL]at h
   cases hb:b1 γ x.1 x.2 with
   | none=>rfl
   | some δ=>rw[hb]at h;exact ih δ h
 exact key _ _ _ h
def Ee (β γ:Bd) (fr:List ByteArray):Prop:=ji γ fr=β
theorem AY {β γ:Bd} {fr:List ByteArray} {x:Sl} {t:Tm} (h:Ee β γ fr) (hf:eJ γ x=true):∀γ',b1 γ x t=some γ'->Ee β γ' (fr++[x.v]):=by
 intro γ' hb
 unfold eJ at hf
 rw[Bool.and_eq_true]at hf
 have he:x.v.toList.isEmpty=false:=by simpa using hf.1
 have hn:γ x.v=none:=by simpa using hf.2
 unfold b1 at hb
 rw[he,hn]at hb
 simp only[Bool.false_eq_true,if_false]at hb
 injection hb with hb
 unfold Ee at h ⊢
 rw[qB,←h]
 funext s
 unfold m7
 by_cases e:s=x.v
 ·rw[if_pos e,e]
  by_cases hm:x.v∈fr
  ·rw[mq hm]
  ·rw[jX hm,hn]
 ·rw[if_neg e]
  by_cases hm:s∈fr
  ·rw[mq hm,mq hm]
  ·rw[jX hm,jX hm,←hb];unfold oW;rw[if_neg e]
theorem IG {γ γ':Bd} {x:Sl} {t:Tm} (hf:eJ γ x=false) (hb:b1 γ x t=some γ'):γ'=γ:=by
 unfold eJ at hf
 unfold b1 at hb
 by_cases he:x.v.toList.isEmpty=true
 ·rw[if_pos he]at hb
  split at hb
  ·injection hb with hb;exact hb.symm
  ·cases hb
 ·rw[if_neg he]at hb
  have he2:x.v.toList.isEmpty=false:=by simpa using he
  rw[he2]at hf
  cases hn:γ x.v with
  | none=>rw[hn]at hf;simp at hf
  | some o =>
   rw[hn]at hb
   simp only at hb
   split at hb
   ·injection hb with hb;exact hb.symm
   ·cases hb
def yl (r:Nat) (β:Bd) (p:Pat) (t:Tp) (w:World) (e:Ending) (w':World):Prop:=
 ∃v fr γ,e=.returned (.tuple #[v,.bool (b3 β p t).isSome])/\w'.ownsRow w.heap.size 9 1 v fr.length (fr.map Value.string)/\aY w' r (cg γ)/\w.grownBy w' (some r)/\Ee β γ fr/\fr.length<=3/\∀β1,b3 β p t=some β1->γ=β1
def JB (ab r:Nat) (β:Bd) (p:Pat) (t:Tp) (_w W:World) (v i:Value) (wr:World):Prop:=
 ∃(k:Nat) (fr:List ByteArray) (γ:Bd) (v':Value),k<=3/\fr.length<=k/\i=.int .i64 k/\v'=v/\bL β ((jG p t).take k)=some γ/\Ee β γ fr/\wr.ownsRow W.heap.size 9 1 v' fr.length (fr.map Value.string)/\aY wr r (cg γ)/\W.grownBy wr (some r)/\wr.cell? ⟨ab,0,none⟩=some (.map (some r))
theorem KeepT.grownM {w w':World} {r:Nat} {f:Fmv} (hM:aY w r f) (hg:w.grownBy w' (some r)) (e:TypeId):KeepT e w w':=λk cur fr x=>by
 have hne:k≠r:=λh=>by
  subst h
  obtain⟨es,c,h,_⟩:=hM
  rw[h]at x;cases x
 rw[hg.block k (Array.getElem?_eq_some_iff.1 x).1 (λh=>hne (by injection h))];exact x
theorem wk {W wr w6:World} {r:Nat} (h:W.grownBy wr (some r)) (k:Below W.heap.size wr w6):W.grownBy w6 (some r):=
 ⟨k.os.trans h.os,k.tape.trans h.tape,k.output.trans h.output,Nat.le_trans h.size k.size,λi hi hn=>(k.block i hi).trans (h.block i hi hn)⟩
theorem Fs (ab r:Nat) (β:Bd) (p:Pat) (t:Tp) (w:World) (hM:aY w r (cg β)) (ha:w.cell? ⟨ab,0,none⟩=some (.map (some r))) :
  Calls Tryz.prog 151 #[.pointer (some ⟨ab,0,none⟩),.agg #[.string p.s.v,.int .i64 p.s.t.k,.string p.s.t.x,.string p.s.t.l,.string p.s.t.y,.string p.p.v,.int .i64 p.p.t.k,.string p.p.t.x,.string p.p.t.l,.string p.p.t.y,.string p.o.v,.int .i64 p.o.t.k,.string p.o.t.x,.string p.o.t.l,.string p.o.t.y],
   .agg #[.int .i64 t.s.k,.string t.s.x,.string t.s.l,.string t.s.y,.int .i64 t.p.k,.string t.p.x,.string t.p.l,.string t.p.y,.int .i64 t.o.k,.string t.o.x,.string t.o.l,.string t.o.y]] w (yl r β p t w):=by
 obtain⟨W,hW⟩:∃W:World,((w.alloc (.cells #[.string p.s.v,.int .i64 p.s.t.k,.string p.s.t.x,.string p.s.t.l,.string p.s.t.y,.string p.p.v,.int .i64 p.p.t.k,.string p.p.t.x,.string p.p.t.l,.string p.p.t.y,.string p.o.v,.int .i64 p.o.t.k,.string p.o.t.x,.string p.o.t.l,.string p.o.t.y] 72)).alloc (.cells #[.int .i64 t.s.k,.string t.s.x,.string t.s.l,.string t.s.y,.int .i64 t.p.k,.string t.p.x,.string t.p.l,.string t.p.y,.int .i64 t.o.k,.string t.o.x,.string t.o.l,.string t.o.y] 64)).alloc (.cells #[.int .i64 t.s.k,.string t.s.x,.string t.s.l,.string t.s.y,.int .i64 t.p.k,.string t.p.x,.string t.p.l,.string t.p.y,.int .i64 t.o.k,.string t.o.x,.string t.o.l,.string t.o.y] 251)=W:=⟨_,rfl⟩
 have hB0:Below w.heap.size w W:=by rw[←hW];exact blw
 have hk3:W.heap[w.heap.size+2]?=some (.cells #[.int .i64 t.s.k,.string t.s.x,.string t.s.l,.string t.s.y,.int .i64 t.p.k,.string t.p.x,.string t.p.l,.string t.p.y,.int .i64 t.o.k,.string t.o.x,.string t.o.l,.string t.o.y] 251 (0,0)):=by rw[←hW];exact rD _ _ _ _
 have H0:=Lib.hid (And.intro hM (And.intro (ac ha hB0) (And.intro hB0 hk3)))
 have HW:=Lib.hid hW
 have hzW:w.heap.size+2<W.heap.size:=by rw[←hW];simp
 clear hM ha hW hB0 hk3
 go_enter Tryz.func151,Tryz.ntmps151
 go_wp2
 simp only[HW.out]
 go_loopw [6,9,10,11,12,27] (λv _ _ _ _ i wr=>JB ab r β p t w W v i wr) (λ_ _ _ _ _ i _=>3-(intOf i).toNat)
 case atStart=>exact⟨0,[],β,_,by omega,by simp,rfl,rfl,rfl,rfl,World.ownsRow_nil _ _ _ _,H0.out.1.on H0.out.2.2.1,⟨rfl,rfl,rfl,Nat.le_refl _,λ_ _ _=>rfl⟩,H0.out.2.1⟩
 case round =>
  obtain⟨k,fr,γ,v,hk,hfr,rfl,rfl,hb,hu,own,hMk,hg,hc⟩:=hrel
  by_cases hlt:k<3
  ·obtain⟨x,u,hxu,hidx,hcl⟩:∃x u,(jG p t)[k]?=some (x,u)/\(∀V,(Instr.index 252 (.agg #[.string p.s.v,.int .i64 p.s.t.k,.string p.s.t.x,.string p.s.t.l,.string p.s.t.y,.string p.p.v,.int .i64 p.p.t.k,.string p.p.t.x,.string p.p.t.l,.string p.p.t.y,.string p.o.v,.int .i64 p.o.t.k,.string p.o.t.x,.string p.o.t.l,.string p.o.t.y]) (.int .i64 k)).run Tryz.prog V=.ok (.agg #[.string x.v,.int .i64 x.t.k,.string x.t.x,.string x.t.l,.string x.t.y]) V) /\
     ∀V:World,V.heap[w.heap.size+2]?=W.heap[w.heap.size+2]?->V.cell? ⟨w.heap.size+2,k*4,none⟩=some (.int .i64 u.k)/\V.cell? ⟨w.heap.size+2,k*4+1,none⟩=some (.string u.x)/\V.cell? ⟨w.heap.size+2,k*4+2,none⟩=some (.string u.l)/\V.cell? ⟨w.heap.size+2,k*4+3,none⟩=some (.string u.y):=by
    have hh:=H0.out.2.2.2
    have hc:∀(V:World) (j:Nat) (v:Value),V.heap[w.heap.size+2]?=W.heap[w.heap.size+2]?->#[Value.int .i64 t.s.k,.string t.s.x,.string t.s.l,.string t.s.y,.int .i64 t.p.k,.string t.p.x,.string t.p.l,.string t.p.y,.int .i64 t.o.k,.string t.o.x,.string t.o.l,.string t.o.y][j]?=some v->V.cell? ⟨w.heap.size+2,j,none⟩=some v:=λV j v h1 h2=>by
     rw[World.cell?,h1,hh];simpa using h2
    have:k=0∨k=1∨k=2:=by omega
    rcases this with rfl|rfl|rfl
    ·exact⟨p.s,t.s,rfl,λV=>by kernel_rfl,λV h=>⟨hc V 0 _ h rfl,hc V 1 _ h rfl,hc V 2 _ h rfl,hc V 3 _ h rfl⟩⟩
    ·exact⟨p.p,t.p,rfl,λV=>by kernel_rfl,λV h=>⟨hc V 4 _ h rfl,hc V 5 _ h rfl,hc V 6 _ h rfl,hc V 7 _ h rfl⟩⟩
    ·exact⟨p.o,t.o,rfl,λV=>by kernel_rfl,λV h=>⟨hc V 8 _ h rfl,hc V 9 _ h rfl,hc V 10 _ h rfl,hc V 11 _ h rfl⟩⟩
   obtain⟨W4,hW4⟩:∃V:World,wr.alloc (.cells #[.string x.v,.int .i64 x.t.k,.string x.t.x,.string x.t.l,.string x.t.y] 70)=V:=⟨_,rfl⟩
   have hb4:Below wr.heap.size wr W4:=by rw[←hW4];exact blw
   have hr2:w.heap.size+2≠r:=λe=>by
    have h1:=H0.out.2.2.2
    obtain⟨es,c,h2,_⟩:=H0.out.1.on H0.out.2.2.1
    rw[e,h2]at h1;cases h1
   have hz2:w.heap.size+2<W.heap.size:=hzW
   obtain⟨d0,d1,d2,d3⟩:=hcl W4 (by rw[hb4.block _ (Nat.lt_of_lt_of_le hzW hg.size)];exact hg.block _ hzW (λe=>hr2 (by injection e)))
   obtain⟨s0,s1,s2,s3,s4⟩:_/\_/\_/\_/\_:=cells5 (W:=W4) (b:=wr.heap.size) (by rw[←hW4];exact heap_alloc_new _ _)
   have c4:=ac hc hb4
   have hM4:=hMk.on hb4
   have hcall:∀wd,Below W4.heap.size W4 wd->Calls Tryz.prog 214 _ wd (λe w'=>e=.returned (.tuple #[.bool (eJ γ x),.bool (b1 γ x u).isSome])/\aY w' r (cg ((b1 γ x u).getD γ))/\wd.grownBy w' (some r)):=λwd h=>Ji r γ x u wd (hM4.on h)
   have hstep:bL β ((jG p t).take (k+1))=b1 γ x u:=by rw[ah hxu,yj,hb];rfl
   have HW4:=Lib.hid hW4
   have HX:=Lib.hid (And.intro hxu (And.intro hu (And.intro hc (And.intro hMk (And.intro hg (And.intro own hb4))))))
   have HC:=Lib.hid (And.intro c4 s0)
   clear hcl hxu hu hc hMk hg own hb hr2 hb4 hM4
   cases hb1:b1 γ x u with
   | none =>
    rw[hb1]at hstep
    have h3:b3 β p t=none:=by rw[←Gx];exact Ge hstep
    simp only[hb1,Option.isSome_none,Option.getD_none]at hcall
    clear hb1 hstep
    generalize eJ γ x=q at *
    go_wp2
    refine Rs.p0 W4.heap.size [8] _ [(3,[0,5]),(0,[1,2,3,4,6,7]),(2,[8]),(3,[9,10,11,12,13])] ?_ (λa w h=>h)
    intro wd hbd hwz
    have y0:=cellL c4 hbd
    have y1:=cellL s0 hbd
    have y2:=cellL s1 hbd
    have y3:=cellL s2 hbd
    have y4:=cellL s3 hbd
    have y5:=cellL s4 hbd
    have y6:=cellL d0 hbd
    have y7:=cellL d1 hbd
    have y8:=cellL d2 hbd
    have y9:=cellL d3 hbd
    have HBD:=Lib.hid hbd
    clear hwz c4 s0 s1 s2 s3 s4 d0 d1 d2 d3 hW4 hbd
    refine Rs.st_pure ?_
    iterate 2 go_big_quiet_step (fail)
    refine wpQuiet_nil (Rs.st_quiet ?_)
    iterate 6 go_big_quiet_step (fail)
    refine wpQuiet_nil (Rs.st_free ?_)
    clear y0 y1 y2 y3 y4 y5 y6 y7 y8 y9
    go_wp2_with (go_at_call 214;refine(hcall wd HBD.out).mono ?_;rintro e w5 ⟨rfl,hM5,hg5⟩)
    refine⟨⟨hg5.os,hg5.tape,hg5.output,hg5.size,λ_ h=>absurd h (Nat.not_lt_zero _)⟩,Rs.st_pure ?_⟩
    iterate 5 go_big_quiet_step (fail)
    refine wpQuiet_nil (Rs.st_done ?_)
    go_wp2
    have HR:Hid (yl r β p t w (.returned (.tuple #[v,.bool false])) w5):=by
     obtain⟨hxu,hu,hc,hMk,hg,own,hb4⟩:=HX.out
     exact⟨v,fr,γ,by rw[h3];rfl,own_keep (own_lower (own_below own (aa hb4 HBD.out) (Nat.le_refl _)) H0.out.2.2.1.size) (KeepT.grownM (hMk.on (aa hb4 HBD.out)) hg5 _),hM5,bo (aC H0.out.2.2.1) (bo hg (bo (aC (aa hb4 HBD.out)) hg5)),hu,by omega,λβ1 h=>by rw[h3]at h;cases h⟩
    go_ret2
    exact HR.out
   | some γ' =>
    rw[hb1]at hstep
    simp only[hb1,Option.isSome_some,Option.getD_some]at hcall
    cases hf:eJ γ x
    ·obtain rfl:=IG hf hb1
     simp only[hf]at hcall
     clear hb1 hf
     go_wp2
     refine Rs.p0 W4.heap.size [8] _ [(3,[0,5]),(0,[1,2,3,4,6,7]),(2,[8]),(3,[9,10,11,12,13])] ?_ (λa w h=>h)
     intro wd hbd hwz
     have y0:=cellL c4 hbd
     have y1:=cellL s0 hbd
     have y2:=cellL s1 hbd
     have y3:=cellL s2 hbd
     have y4:=cellL s3 hbd
     have y5:=cellL s4 hbd
     have y6:=cellL d0 hbd
     have y7:=cellL d1 hbd
     have y8:=cellL d2 hbd
     have y9:=cellL d3 hbd
     have HBD:=Lib.hid hbd
     clear hwz c4 s0 s1 s2 s3 s4 d0 d1 d2 d3 hW4 hbd
     refine Rs.st_pure ?_
     iterate 2 go_big_quiet_step (fail)
     refine wpQuiet_nil (Rs.st_quiet ?_)
     iterate 6 go_big_quiet_step (fail)
     refine wpQuiet_nil (Rs.st_free ?_)
     clear y0 y1 y2 y3 y4 y5 y6 y7 y8 y9
     go_wp2_with (go_at_call 214;refine(hcall wd HBD.out).mono ?_;rintro e w5 ⟨rfl,hM5,hg5⟩)
     refine⟨⟨hg5.os,hg5.tape,hg5.output,hg5.size,λ_ h=>absurd h (Nat.not_lt_zero _)⟩,Rs.st_pure ?_⟩
     iterate 5 go_big_quiet_step (fail)
     refine wpQuiet_nil (Rs.st_done ?_)
     go_wp2
     go_roundw
     case rel =>
      obtain⟨hxu,hu,hc,hMk,hg,own,hb4⟩:=HX.out
      exact⟨k+1,fr,γ',v,by omega,by omega,by go_num,rfl,hstep,hu,own_keep (own_below own (aa hb4 HBD.out) (Nat.le_refl _)) (KeepT.grownM (hMk.on (aa hb4 HBD.out)) hg5 _),hM5,bo hg (bo (aC (aa hb4 HBD.out)) hg5),dR (hMk.on (aa hb4 HBD.out)) (ac HC.out.1 HBD.out) hg5⟩
     case measure=>simp[intOf];omega
    ·have hu2:=AY HX.out.2.1 hf γ' hb1
     simp only[hf]at hcall
     clear hb1 hf
     go_wp2
     refine Rs.p0 W4.heap.size [8] _ [(3,[0,5]),(0,[1,2,3,4,6,7]),(2,[8]),(3,[9,10,11,12,13])] ?_ (λa w h=>h)
     intro wd hbd hwz
     have y0:=cellL c4 hbd
     have y1:=cellL s0 hbd
     have y2:=cellL s1 hbd
     have y3:=cellL s2 hbd
     have y4:=cellL s3 hbd
     have y5:=cellL s4 hbd
     have y6:=cellL d0 hbd
     have y7:=cellL d1 hbd
     have y8:=cellL d2 hbd
     have y9:=cellL d3 hbd
     have HBD:=Lib.hid hbd
     clear hwz c4 s0 s1 s2 s3 s4 d0 d1 d2 d3 hW4 hbd
     refine Rs.st_pure ?_
     iterate 2 go_big_quiet_step (fail)
     refine wpQuiet_nil (Rs.st_quiet ?_)
     iterate 6 go_big_quiet_step (fail)
     refine wpQuiet_nil (Rs.st_free ?_)
     clear y0 y1 y2 y3 y4 y5 y6 y7 y8 y9
     go_wp2_with (go_at_call 214;refine(hcall wd HBD.out).mono ?_;rintro e w5 ⟨rfl,hM5,hg5⟩)
     refine⟨⟨hg5.os,hg5.tape,hg5.output,hg5.size,λ_ h=>absurd h (Nat.not_lt_zero _)⟩,Rs.st_pure ?_⟩
     iterate 5 go_big_quiet_step (fail)
     refine wpQuiet_nil (Rs.st_done ?_)
     have g0:=dR (HX.out.2.2.2.1.on (aa HX.out.2.2.2.2.2.2 HBD.out)) (ac HC.out.2 HBD.out) hg5
     obtain⟨hxu,hu,hc,hMk,hg,own,hb4⟩:=HX.out
     have hbd5:=aa hb4 HBD.out
     have hM5':=hMk.on hbd5
     have own5:=own_keep (own_below own hbd5 (Nat.le_refl _)) (KeepT.grownM hM5' hg5 _)
     have hg15:=bo hg (bo (aC hbd5) hg5)
     have hba:Below w5.heap.size w5 (w5.alloc (.cells #[.string x.v] 9)):=blw
     have own2:=own_below own5 hba (Nat.le_refl _)
     have hs5:W.heap.size<=w5.heap.size:=hg15.size
     have c5:=dR hM5' (ac HC.out.1 HBD.out) hg5
     have hr6:r<W.heap.size:=tO (H0.out.1.on H0.out.2.2.1)
     have ha6:ab<W.heap.size:=ag H0.out.2.1
     have Hf:Hid ((fr++[x.v]).map Value.string=fr.map Value.string++[.string x.v]):=by show _=_;simp
     have HZ:=Lib.hid (And.intro hM5 (And.intro hg15 (And.intro c5 (And.intro hu2 (And.intro hstep hba)))))
     clear hxu hu hc hMk hg own hb4 hbd5 hM5' own5 hg15 hba hM5 hg5 c5 hu2 hstep hcall
     go_wp2_with (at_builtin;refine ak rfl rfl Tryz.underlying23 bf rfl (by omega) rfl own2 rfl (Rd.of_block (heap_alloc_new w5 _) rfl) rfl (by intro u hu;simp at hu;subst hu;rfl) (by omega) (by omega) (by simp;omega) ?_;intro v6 w6 own6 hb6 _)
     go_roundw
     case rel =>
      obtain⟨hM5,hg15,c5,hu2,hstep,hba⟩:=HZ.out
      have hb56:Below W.heap.size w5 w6:=(hba.mono hs5).trans hb6
      exact⟨k+1,fr++[x.v],γ',v6,by omega,by simp;omega,by go_num,rfl,hstep,hu2,by rw[Hf.out,List.length_append];exact own6,hM5.same (hb56.block r hr6),wk hg15 hb56,by rw[hb56.cell (p:=⟨ab,0,none⟩) ha6];exact c5⟩
     case measure=>simp[intOf];omega
  ·obtain rfl:k=3:=by omega
   have h3:b3 β p t=some γ:=by rw[←Gx];exact hb
   have HR:Hid (yl r β p t w (.returned (.tuple #[v,.bool true])) wr):=⟨v,fr,γ,by rw[h3];rfl,own_lower own H0.out.2.2.1.size,hMk,bo (aC H0.out.2.2.1) hg,hu,hfr,λβ1 h=>by rw[h3]at h;injection h⟩
   clear own hMk hg hc hb h3 hu
   go_wp2
   go_ret2
   exact HR.out
open Go.Shelf
def Dh (R:World->Prop) (W:World):Exit->Act->World->Prop
 | .normal,_,W'=>KeepsOthers W W'/\R W'
 | _,_,_=>False
def ke (l D:Nat) (rec:LoopState->Loop) (W:World):Prop:=W.heap[l]?=some (.loop (rec .ready))/\W.heap[D]?=some (.deferred (some []))
theorem jb {β:Type} {B:Nat} {I:β->World->Prop} (h:OwnFrom B I) {s:β} {W:World} {l:Nat} {x:Loop} (y:Obj) (hs:I s W) (hB:B<=l) (hl:W.heap[l]?=some (.loop x)):I s (W.putObj l y):=h.putObj y hs hB hl rfl
theorem AI (w:World) (rec:LoopState->Loop):ke (w.heap.size+1) w.heap.size rec ((w.alloc (.deferred (some []))).alloc (.loop (rec .ready))):=by
 refine⟨?_,(Below.heap_alloc _ _ _ (by simp)).trans (World.alloc_heap_new w _)⟩
 have:=World.alloc_heap_new (w.alloc (.deferred (some []))) (.loop (rec .ready))
 rwa [World.size_alloc]at this
variable {F:Fence} {n:Nat} {P:Program}
theorem zu {l D B:Nat} {fn:FuncId} {tmps:Array Value} {ps:Array Tmp} {assign body:Code} {W:World} {args:Array Value} {a₁:Act} {J R:World->Prop} {m:Nat}
  (hfn:F.fn fn) (hlD:l≠D) (hlB:B<=l) (hJ:OwnFrom B (λ(_:Unit)=>J)) (hR:OwnFrom B (λ(_:Unit)=>R)) (hps:args.size=ps.size)
  (hb:ke l D (λs=>{state:=s,pending:=none,fn,tmps,params:=ps,assign,body,defers:=D}) W) (h0:J W)
  (ha:∀(K:Act->World->Prop),K a₁ W->assign.wpIn (F.inRound l) m P (Exit.then K (λ_ _ _=>False)) {tmps:=(ps.zip args).foldl (λt (p,v)=>t.setIfInBounds p v) tmps,defers:=[]} W)
  (hbody:∀W2:World,J W2->body.wpIn (F.inRound l) m P (Dh R W2) a₁ W2) :
  YieldAt F m P l args W λe W'=>e=.returned (.bool true)/\R W'/\ke l D (λs=>{state:=s,pending:=none,fn,tmps,params:=ps,assign,body,defers:=D}) W':=by
 obtain⟨hl,hd⟩:=hb
 refine⟨fn,_,assign,body,run_yield hl hps,roundIn_of_wpIn hfn (ha _ ⟨_,run_beginRound hl rfl,?_⟩)⟩
 have hlt:=(Array.getElem?_eq_some_iff.1 hl).1
 refine wpIn_mono (hbody _ (jb hJ (s:=()) _ h0 hlB hl)) ?_
 intro e a3 W3 hp
 cases e with
 | normal =>
  obtain⟨hk,hr⟩:=hp
  have hl3:=hk.same _ _ (World.putObj_heap_same (o:=.loop {state:=.busy,pending:=none,fn,tmps,params:=ps,assign,body,defers:=D}) hlt) rfl
  have hd3:=hk.same _ _ ((World.putObj_heap_other (Ne.symm hlD)).trans hd) rfl
  refine⟨_,_,run_endRound none hl3,rfl,jb hR (s:=()) _ hr hlB hl3,World.putObj_heap_same (Array.getElem?_eq_some_iff.1 hl3).1,(World.putObj_heap_other (Ne.symm hlD)).trans hd3⟩
 | ret=>exact hp.elim
 | exit id=>exact hp.elim
 | goto t=>exact hp.elim
 | panic ch=>exact hp.elim
 | outgrown=>exact hp.elim
def bO (r:Nat) (W W':World):Prop:=W.heap.size<=W'.heap.size/\∀(k:Nat) (o:Obj),k≠r->W.heap[k]?=some o->o.isCells=false->W'.heap[k]?=some o
theorem bO.grown {r:Nat} {W W':World} (h:W.grownBy W' (some r)):bO r W W':=⟨h.size,λk o hk ho _=>by rw[h.block k (Array.getElem?_eq_some_iff.1 ho).1 (λe=>hk (by injection e))];exact ho⟩
theorem ke.but {l D r:Nat} {rec:LoopState->Loop} {W W':World} (h:ke l D rec W) (hl:l≠r) (hD:D≠r) (hk:bO r W W'):ke l D rec W':=⟨hk.2 _ _ hl h.1 rfl,hk.2 _ _ hD h.2 rfl⟩
variable {F:Fence} {n:Nat} {P:Program}
theorem oP {α:Type} {g:Operand} {ps:Array Tmp} {assign body:Code} {Q:Exit->Act->World->Prop} {a:Act} {w:World}
  (r:Nat) (hrw:r<w.heap.size) (hro:F.round=none) (h1:1<=n) {gf:Nat} {lb:Array Value} (hg:a.eval g=.func (.func gf) #[] lb) (hFg:F.fn gf) (eg:∀args w,(callFunc gf args).run P w=.ok (.enter gf args) w)
  (encs:α->Array Value) (hps:∀x,(encs x).size=ps.size) (I:List α->World->Prop) (J Ip:List α->α->World->Prop) (S:List α->Prop)
  (hI:∀pre,OwnFrom w.heap.size (λ(_:Unit)=>I pre)) (hJ:∀pre x,OwnFrom w.heap.size (λ(_:Unit)=>J pre x)) (hIp:∀pre x,OwnFrom w.heap.size (λ(_:Unit)=>Ip pre x)) (h0:I [] w) (a₁:α->Act)
  (hassign:∀(l:Nat) (x:α) (W:World) (K:Act->World->Prop),K (a₁ x) W ->
   assign.wpIn (F.inRound l) (n-1-1) P (Exit.then K (λ_ _ _=>False)) {tmps:=(ps.zip (encs x)).foldl (λt (p,v)=>t.setIfInBounds p v) a.tmps,defers:=[]} W)
  (hbody:∀(l:Nat) (pre:List α) (x:α) (W:World),J pre x W->body.wpIn (F.inRound l) (n-1-1) P (Dh (Ip pre x) W) (a₁ x) W)
  (hiter:∀(l:Nat) (K:World->Prop) (W:World),I [] W->K W->(∀X Y,K X->bO r X Y->K Y) ->
   (∀pre x X,J pre x X->K X->YieldAt F (n-1-1) P l (encs x) X λe Y=>e=.returned (.bool true)/\Ip pre x Y/\K Y) ->
   CallsIn F (n-1) P gf (#[.func (.yield l) #[] #[]]++lb) W λe Y=>(∃v,e=.returned v)/\∃xs,S xs/\I xs Y/\K Y)
  (hdone:∀(D:Nat) (xs:List α) (W:World),w.heap.size<=D->S xs->I xs W->W.heap[D]?=some (.deferred (some []))->Q .normal {a with defers:={target:=.collected D,args:=#[]}::a.defers} W) :
  (Code.rangeFunc g ps assign body).wpIn F n P Q a w:=by
 refine wpIn_rangeFunc λfn hfn=>?_
 have hB:ke (w.heap.size+1) w.heap.size (λs=>{state:=s,pending:=none,fn,tmps:=a.tmps,params:=ps,assign,body,defers:=w.heap.size}) ((w.alloc (.deferred (some []))).alloc (.loop {state:=.ready,pending:=none,fn,tmps:=a.tmps,params:=ps,assign,body,defers:=w.heap.size})):=AI w _
 have hI1:=(hI []).alloc (s:=()) (.loop {state:=.ready,pending:=none,fn,tmps:=a.tmps,params:=ps,assign,body,defers:=w.heap.size}) ((hI []).alloc (s:=()) (.deferred (some [])) h0)
 have hcall:=hiter (w.heap.size+1) (ke (w.heap.size+1) w.heap.size (λs=>{state:=s,pending:=none,fn,tmps:=a.tmps,params:=ps,assign,body,defers:=w.heap.size})) _ hI1 hB (λX Y h k=>h.but (by omega) (by omega) k)
  (λpre x X hj hk=>zu (a₁:=a₁ x) (J:=J pre x) (R:=Ip pre x) hfn (by omega) (B:=w.heap.size) (by omega) (hJ pre x) (hIp pre x) (hps x) hk hj (λK hK=>hassign _ x X K hK) (λW2 hj2=>hbody _ pre x W2 hj2))
 have he:=run_enterLoop_outer (P:=P) (w:=w) fn a.tmps ps assign body
 generalize (w.alloc (.deferred (some []))).alloc (.loop {state:=.ready,pending:=none,fn,tmps:=a.tmps,params:=ps,assign,body,defers:=w.heap.size})=W1 at *
 have hres:(resolve a.eval (rangeCall g (w.heap.size+1)) 0).run P W1=.ok {target:=.fn (.func gf) lb,args:=#[.func (.yield (w.heap.size+1)) #[] #[]]} W1:=by
  simp only[resolve,hg]
  simp[go_sem]
 have hinv:(invoke (.fn (.func gf) lb) #[.func (.yield (w.heap.size+1)) #[] #[]]).run P W1=.ok (.enter gf (#[.func (.yield (w.heap.size+1)) #[] #[]]++lb)) W1:=by
  simp[invoke,go_sem,eg]
 have hlead:∀f',Target.leads P W1 (.fn (.func gf) lb) #[.func (.yield (w.heap.size+1)) #[] #[]]=some f'->F.fn f':=by
  intro f' hf'
  simp[Target.leads]at hf'
  subst hf'
  exact hFg
 have hfin:∀(e:Ending) (W2:World),((∃v,e=.returned v)/\∃xs,S xs/\I xs W2/\ke (w.heap.size+1) w.heap.size (λs=>{state:=s,pending:=none,fn,tmps:=a.tmps,params:=ps,assign,body,defers:=w.heap.size}) W2)->rangePost F n P (w.heap.size+1) Q {a with defers:=[{target:=.collected w.heap.size,args:=#[]}]++a.defers} e W2:=by
  rintro e W2 ⟨⟨v,rfl⟩,xs,hS,hi,hl,hd⟩
  exact⟨none,_,run_endLoop hl (by simp),hdone _ xs _ (Nat.le_refl _) hS (jb (hI xs) (s:=()) _ hi (by omega) hl) ((World.putObj_heap_other (by omega)).trans hd)⟩
 rw[←hro]at he
 exact⟨w.heap.size+1,_,W1,_,W1,gf,_,W1,he,hres,hlead,hinv,λ_=>h1,hcall.mono hfin⟩
attribute [local go_sem] Oper.semAt_some
def hdR (base:Nat) (k:Nat) (o:Obj):Bool:=decide (base<=k) && match o with
 | .cells _ T _=>T == 35 || T == 58
 | _=>false
def Sw (base:Nat) (X Y:World):Prop:=X.heap.size<=Y.heap.size/\∀(k:Nat) (o:Obj),X.heap[k]?=some o->hdR base k o=false->o.isCells=true->Y.heap[k]?=some o
def Sv (base B:Nat) (X Y:World):Prop:=X.heap.size<=Y.heap.size/\∀(k:Nat) (o:Obj),X.heap[k]?=some o->hdR base k o=false->k<B∨o.isCells=true->Y.heap[k]?=some o
section
variable {base B:Nat} {X Y Z:World}
theorem Sw.refl (base:Nat) (X:World):Sw base X X:=⟨Nat.le_refl _,λ_ _ h _ _=>h⟩
theorem Sw.trans (h:Sw base X Y) (k:Sw base Y Z):Sw base X Z:=⟨Nat.le_trans h.1 k.1,λi o hi hd hc=>k.2 i o (h.2 i o hi hd hc) hd hc⟩
theorem Sv.sw (h:Sv base B X Y):Sw base X Y:=⟨h.1,λk o hk hd hc=>h.2 k o hk hd (.inr hc)⟩
theorem Sw.below (h:Below X.heap.size X Y):Sw base X Y:=⟨h.size,λk o hk _ _=>by rw[h.block k (Array.getElem?_eq_some_iff.1 hk).1];exact hk⟩
theorem Sw.grown {r:Nat} {f:Fmv} (hM:aY X r f) (h:X.grownBy Y (some r)):Sw base X Y:=⟨h.size,λk o hk _ hc=>by
 have hne:k≠r:=λe=>by
  subst e
  obtain⟨es,c,hh,_⟩:=hM
  rw[hh]at hk;injection hk with hk;subst hk;cases hc
 rw[h.block k (Array.getElem?_eq_some_iff.1 hk).1 (λe=>hne (by injection e))];exact hk⟩
theorem Sw.cm (h:Sw base X Y):CM (wo (hdR base) X) (wo (hdR base) Y):=λp u hu=>by
 rw[aV]at hu ⊢
 obtain⟨hc,o,ho,hd⟩:=hu
 have hi:o.isCells=true:=by
  rw[World.cell?,ho]at hc
  cases o<;>simp[Obj.isCells]at hc ⊢
 have ho':=h.2 _ _ ho hd hi
 exact⟨by rw[World.cell?,ho'];rw[World.cell?,ho]at hc;exact hc,o,ho',hd⟩
theorem Rd.of_wo {h:Nat->Obj->Bool} {W:World} {A:Option Addr} {xs:List Value} (hr:Rd (wo h W) A xs):Rd W A xs:=hr.cm λ_ _ x=>(aV.1 x).1
theorem wj {k:Nat} {cs:Array Value} {T:TypeId} {fr:Nat × Nat} (h1:T≠35) (h2:T≠58):hdR base k (.cells cs T fr)=false:=by
 unfold hdR
 simp[h1,h2]
theorem Sw.keepT (h:Sw base X Y) {e:TypeId} (h1:e≠35) (h2:e≠58):KeepT e X Y:=λg _cur _fr hg=>h.2 g _ hg (wj h1 h2) rfl
theorem Sw.at_ (h:Sw base X Y) {k:Nat} {cs:Array Value} {T:TypeId} {fr:Nat × Nat} (hk:X.heap[k]?=some (.cells cs T fr)) (h1:T≠35) (h2:T≠58):Y.heap[k]?=some (.cells cs T fr):=h.2 k _ hk (wj h1 h2) rfl
theorem Sv.fd (h:Sv base B X Y) {r:Nat} {f:Fmv} (hM:aY X r f) (hr:r<B):aY Y r f:=by
 obtain⟨es,c,hh,hx⟩:=hM
 exact⟨es,c,h.2 r _ hh (by unfold hdR;simp) (.inl hr),hx⟩
end
structure uU (base ab r b1 b2:Nat) (As Ap Av:Option Addr) (ns cs np cp nv cv:Nat) (set:List Tp) (pats:List Pat) (vars:List ByteArray) (W:World):Prop where
 ask:W.heap[ab]?=some (.cells #[.map (some r),.slice As ns cs,.slice Ap np cp] 97 (0,0))
 bx1:W.heap[b1]?=some (.cells #[.slice Av nv cv] 23 (0,0))
 bx2:W.heap[b2]?=some (.cells #[.pointer (some ⟨ab,0,none⟩)] 91 (0,0))
 set:Rd (wo (hdR base) W) As (set.flatMap tpL)
 pats:bI (wo (hdR base) W) Ap pats
 vars:Rd (wo (hdR base) W) Av (vars.map Value.string)
theorem uU.keep {base ab r b1 b2:Nat} {As Ap Av:Option Addr} {ns cs np cp nv cv:Nat} {set:List Tp} {pats:List Pat} {vars:List ByteArray} {X Y:World} (E:uU base ab r b1 b2 As Ap Av ns cs np cp nv cv set pats vars X) (h:Sw base X Y):uU base ab r b1 b2 As Ap Av ns cs np cp nv cv set pats vars Y:=
 ⟨h.at_ E.ask (by decide) (by decide),h.at_ E.bx1 (by decide) (by decide),h.at_ E.bx2 (by decide) (by decide),E.set.cm h.cm,RdL.cm E.pats h.cm λ_ _ _ h=>h,E.vars.cm h.cm⟩
structure Yl (base B:Nat) where
 v:Value
 row:List Tm
 P:World->Prop
 stab:∀X Y,P X->Sv base B X Y->P Y
attribute [local go_sem] Oper.semAt_some
theorem Dx (β:Bd) (s:ByteArray):(cg β s).getD (.agg #[.int .i64 0,.string ⟨#[]⟩,.string ⟨#[]⟩,.string ⟨#[]⟩])=.agg #[.int .i64 (toS β s).k,.string (toS β s).x,.string (toS β s).l,.string (toS β s).y]:=by
 unfold cg toS
 cases β s<;>rfl
def rU {base B:Nat} (O:List (List Tm)->World->Prop) (N:Nat) (pre:List (Yl base B)) (x:Yl base B) (X:World):Prop:=
 O (pre.map (·.row)) X/\x.P X/\OwnRow base X [x.v] x.row/\pre.length<N
def oH {base B:Nat} (O:List (List Tm)->World->Prop) (pre:List (Yl base B)) (x:Yl base B) (Y:World):Prop:=O ((pre++[x]).map (·.row)) Y/\x.P Y
theorem I6 {base B ab r b1 b2 b3 l m N:Nat} {As Ap Av:Option Addr} {ns cs np cp nv cv:Nat} {set:List Tp} {pats:List Pat} {vars:List ByteArray} {O:List (List Tm)->World->Prop} {K:World->Prop}
  (hO:∀rows X Y,O rows X->X.grownBy Y (some r)->(∃f,aY Y r f)->O rows Y) (hK:∀X Y,K X->bO r X Y->K Y)
  (hY:∀pre x X,rU (base:=base) (B:=B) O N pre x X->K X->YieldAt Fence.wide m Tryz.prog l #[x.v] X λe Y=>e=.returned (.bool true)/\oH O pre x Y/\K Y)
  (hrB:r<B) (hnv:vars.length=nv) (hln:nv<=1000) (β:Bd) (W:World) (E:uU base ab r b1 b2 As Ap Av ns cs np cp nv cv set pats vars W) (h3:W.heap[b3]?=some (.cells #[.func (.yield l) #[] #[]] 84 (0,0)))
  (hM:aY W r (cg β)) (pre:List (Yl base B)) (hN:pre.length<N) (hbs:base<=W.heap.size) (ho:O (pre.map (·.row)) W) (hk:K W) :
  Calls Tryz.prog 102 #[.pointer (some ⟨b1,0,none⟩),.pointer (some ⟨b2,0,none⟩),.pointer (some ⟨b3,0,none⟩)] W λe Y =>
   e=.returned (.bool true)/\∃x:Yl base B,x.row=ej vars β/\O ((pre++[x]).map (·.row)) Y/\K Y/\aY Y r (cg β)/\Sw base W Y:=by
 refine(callsIn_wide (n:=m+1)).1 ?_
 have c1:W.cell? ⟨b1,0,none⟩=some (.slice Av nv cv):=by rw[World.cell?,E.bx1];rfl
 have H:=Lib.hid (And.intro E (And.intro h3 (And.intro hM (And.intro ho hk))))
 have hl':(nv:Int)<=1000:=by omega
 clear E h3 hM ho hk
 refine callsIn_of_wp Tryz.func102 rfl trivial ?_ rfl
 simp only[Tryz.ntmps102,List.size_toArray,List.length_cons,List.length_nil,Nat.reduceAdd,Nat.reduceSub,Array.replicate_succ,Array.replicate_zero,List.push_toArray,List.append_toArray,List.nil_append,List.cons_append]
 gi_wp2
 gi_loopw [4,6,9] (λv _ i wr=>∃(k:Nat) (v':Value),k<=nv/\i=.int .i64 k/\v'=v/\wr.ownsRow W.heap.size 62 4 v' k (((ej vars β).take k).flatMap tmC)/\Below W.heap.size W wr) (λ_ _ i _=>nv-(intOf i).toNat)
 case atStart=>exact⟨0,_,by omega,rfl,rfl,World.ownsRow_nil _ _ _ _,Below.refl _ _⟩
 case round =>
  obtain⟨k,v,hkl,rfl,rfl,own,hb⟩:=hrel
  obtain⟨E,h3,hM,ho,hkk⟩:=H.out
  by_cases hlt:k<nv
  ·obtain⟨s,hs⟩:∃s,vars[k]?=some s:=⟨_,List.getElem?_eq_getElem (by omega)⟩
   obtain⟨g,o,rfl,hx⟩:=(E.vars.of_wo.later hb).at_ (j:=k) (u:=.string s) (by rw[List.getElem?_map,hs];rfl)
   have hl:=By (P:=Tryz.prog) yg yh (Gw wr) (hM.on hb) s
   rw[Dx]at hl
   have hrow:(ej vars β)[k]?=some (toS β s):=by unfold ej;rw[List.getElem?_map,hs];rfl
   have Hr:Hid (((ej vars β).take (k+1)).flatMap tmC=((ej vars β).take k).flatMap tmC++tmC (toS β s)):=ew hrow tmC
   have a2:wr.cell? ⟨b2,0,none⟩=some (.pointer (some ⟨ab,0,none⟩)):=ac (by rw[World.cell?,E.bx2];rfl) hb
   have a3:wr.cell? ⟨ab,0,none⟩=some (.map (some r)):=ac (by rw[World.cell?,E.ask];rfl) hb
   have hbs2:W.heap.size<=wr.heap.size:=hb.size
   generalize toS β s=t at *
   have hba:Below wr.heap.size wr (wr.alloc (.cells #[.int .i64 t.k,.string t.x,.string t.l,.string t.y] 62)):=blw
   have own0:=own_below own hba (Nat.le_refl _)
   have hnew:∀(j:Nat) (u:Value),(tmC t)[j]?=some u->(wr.alloc (.cells #[.int .i64 t.k,.string t.x,.string t.l,.string t.y] 62)).cell? ((⟨wr.heap.size,0,none⟩:Addr).add j)=some u:=by
    intro j u hu
    rw[aR,Nat.zero_add,World.cell?,heap_alloc_new]
    simpa[tmC] using hu
   obtain⟨i,hi,hz,hsize,hby⟩:=info_parts iT
   have Hb:=Lib.hid hb
   have HO:=Lib.hid own.lt
   clear hs hM E h3 ho hkk hrow own hb
   gi_wp2_with (gi_at_builtin;(refine wpListIn_append_own_at _ rfl _ _ 58 rfl W.heap.size 62 i _ 4 56 Tryz.underlying58 hi hz hsize hby rfl (by omega) _ k _ rfl own0 ⟨wr.heap.size,0,none⟩ 1 1 (tmC t) rfl rfl hnew (by intro u hu;simp only[tmC,List.mem_cons,List.not_mem_nil,or_false]at hu;rcases hu with rfl|rfl|rfl|rfl<;>rfl) (by unfold maxLen;omega) (by omega) (by simp;omega) ?_;intro v4 w4 own4 hg4 _ _))
   go_roundw
   case rel=>exact⟨k+1,v4,by omega,by go_num,rfl,by rw[Hr.out];exact own4,(Hb.out.trans (hba.mono hbs2)).grown hg4 (by simp;omega) (λq e=>(HO.out q e).1)⟩
   case measure=>simp[intOf];omega
  ·obtain rfl:k=nv:=by omega
   have hlen:(ej vars β).length=k:=by unfold ej;rw[List.length_map,hnv]
   have hfull:(ej vars β).take k=ej vars β:=List.take_of_length_le (by omega)
   rw[hfull]at own
   obtain⟨A,c,rfl,hc,_⟩:=own_slice own
   have hyb:wr.cell? ⟨b3,0,none⟩=some (.func (.yield l) #[] #[]):=ac (by rw[World.cell?,h3];rfl) hb
   have hyY:=hY pre {v:=.slice A k c,row:=ej vars β,P:=λY=>aY Y r (cg β)/\Sw base W Y,stab:=λX Y hp hs=>⟨hs.fd hp.1 hrB,hp.2.trans hs.sw⟩} wr
    ⟨hO _ _ _ ho (aC hb) ⟨_,hM.on hb⟩,⟨hM.on hb,Sw.below hb⟩,⟨_,rfl,by rw[hlen];exact own_lower own hbs⟩,hN⟩ (hK _ _ hkk (bO.grown (aC hb)))
   obtain⟨fn,tmps,assign,body,hy',hR⟩:=hyY
   clear hY hO hK E h3 hM ho hkk own hb hc H
   gi_wp2_with ((try refine⟨λh=>by cases h,?_⟩);refine hR.mono ?_;clear hR;rintro e W2 ⟨rfl,⟨ho2,hp2⟩,hk2⟩)
   go_ret
   exact⟨rfl,_,rfl,ho2,hk2,hp2.1,hp2.2⟩
end Go.Proofs.YtfcbghmbbjolcaaGreatDoor
