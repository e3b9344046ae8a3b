/- The program's package order, walked: does at a table that is -/
import Derived.Test.YtoejnneknpoanaaGreatDoorJOrd17
import Derived.Great.Walk
namespace Go.Proofs.YtoejnneknpoanaaGreatDoor
open Go Go.RowKit Fm Tx Om Mp
structure TabAt (w:World) (A B:Option Addr) (n c m d:Nat) (vars:List ByteArray) (rows:List (List Tm)):Prop where
 hn:vars.length=n
 hm:rows.length=m
 hln:n<=1000000
 hlm:m<=1000000
 hnc:n<=c
 hv:Rd w A (vars.map Value.string)
 hr:RdRs w B rows
 hz:∀r∈rows,r.length<=1000000
theorem right_rows {vars:List ByteArray} {rows:List (List Tm)} (h:rightT vars rows=true):∀r∈rows,r.length=vars.length:=by
 unfold rightT at h
 simp only[Bool.and_eq_true,Bool.not_eq_true',List.any_eq_false]at h
 intro r hr
 have:=h.2 r hr
 simpa using this
section
variable {w:World} {A B:Option Addr} {n c m d:Nat} {vars:List ByteArray} {rows:List (List Tm)}
theorem TabAt.later (T:TabAt w A B n c m d vars rows) {w':World} (h:Below w.heap.size w w'):TabAt w' A B n c m d vars rows:=⟨T.hn,T.hm,T.hln,T.hlm,T.hnc,T.hv.later h,T.hr.later h,T.hz⟩
theorem topKeep (T:TabAt w A B n c m d vars rows) (hR:rightT vars rows=true) (hk:∀r∈rows,keyRow r) (nf:Nat) (fils:List (ExT nf)) (Af:Option Addr) (cf mf:Nat) (hmf:fils.length=mf) (hlf:mf<=1000000) (hzf:∀x∈fils,szE nf x) (hf:RdEs nf w Af fils) :
  Calls Tryz.prog 13 #[.agg #[.slice A n c,.slice B m d],.slice Af mf cf] w (DoesR 0 vars (keepL vars nf fils rows) w):=by
 have hlv:=T.hln
 have hl:=T.hlm
 rw[←T.hn]at hlv
 rw[←T.hm]at hl
 refine ordTopKeep _ _ A B n c m d 0 Af mf cf w λW1 h1=>?_
 have T1:=T.later h1
 refine ordDoes 50 (enters_of Tryz.func50 (by kernel_rfl) rfl) vars vars rows _ A B n c m d _ _ _ _ _ _ _ _ _ _ _ _ _ _ _ _ 0 W1 T1.hn T1.hm T1.hln T1.hlm T1.hnc T1.hv T1.hr T1.hz hR ?_
 intro W2 h2 W b hb hW
 exact(ordKeep W2 b nf fils Af cf mf vars rows _ _ _ _ _ _ _ W hmf hlf hlv hzf (RdEs.later hf (below_tr h1 h2)) hb hW hk hl).mono λe w' h=>h.in_
theorem topSort (T:TabAt w A B n c m d vars rows) (hR:rightT vars rows=true) (hC:CtxT w) (hk:∀r∈rows,smallRow r) (keys:List Ky) (Ao:Option Addr) (no co:Nat) (hno:keys.length=no) (hlo:no<=1000000) (hky:RdKey w Ao keys) :
  Calls Tryz.prog 20 #[.agg #[.slice A n c,.slice B m d],.slice Ao no co] w (DoesR (sortN vars keys) vars (sortL vars keys rows) w):=by
 have hlv:=T.hln
 have hl:=T.hlm
 rw[←T.hn]at hlv
 rw[←T.hm]at hl
 refine ordTopSort _ _ A B n c m d _ Ao no co w λW1 h1=>?_
 have T1:=T.later h1
 refine ordDoes 58 (enters_of Tryz.func58 (by kernel_rfl) rfl) vars vars rows _ A B n c m d _ _ _ _ _ _ _ _ _ _ _ _ _ _ _ _ _ W1 T1.hn T1.hm T1.hln T1.hlm T1.hnc T1.hv T1.hr T1.hz hR ?_
 intro W2 h2 W b hb hW
 have hb2:=below_tr h1 h2
 exact(ordSorted W2 (hC.step hb2) b vars rows keys _ _ _ _ _ _ _ Ao no co W hb hW hno hlo (RdL.mono hky hb2 (λ_ _ _ h=>h)) hk (right_rows hR) hlv hl).mono λe w' h=>h.in_
theorem topOnce (T:TabAt w A B n c m d vars rows) (hR:rightT vars rows=true) (hP:PowV w) (hk:∀r∈rows,keyRow r) :
  Calls Tryz.prog 24 #[.agg #[.slice A n c,.slice B m d]] w (DoesR 0 vars (onceL rows) w):=by
 have hl:=T.hlm
 rw[←T.hm]at hl
 refine ordTopOnce _ _ A B n c m d _ w λW1 h1=>?_
 have T1:=T.later h1
 refine ordDoes 61 (enters_of Tryz.func61 (by kernel_rfl) rfl) vars vars rows _ A B n c m d _ _ _ _ _ _ _ _ _ _ _ _ _ _ _ _ _ W1 T1.hn T1.hm T1.hln T1.hlm T1.hnc T1.hv T1.hr T1.hz hR ?_
 intro W2 h2 W b hb hW
 exact(ordOnce W2 (hP.step (below_tr h1 h2)) b vars rows _ W hb hW hk hl).mono λe w' h=>h.in_
theorem topSlice (T:TabAt w A B n c m d vars rows) (hR:rightT vars rows=true) (off lim:Int) :
  Calls Tryz.prog 26 #[.agg #[.slice A n c,.slice B m d],.int .i64 off,.int .i64 lim] w (DoesR (if off<0∨lim < -1 then 6 else 0) vars (if off<0∨lim < -1 then rows else cutL off lim rows) w):=by
 have hl:=T.hlm
 rw[←T.hm]at hl
 refine ordTopSlice _ _ A B n c m d _ off lim w λW1 h1=>?_
 have T1:=T.later h1
 refine ordDoes 63 (enters_of Tryz.func63 (by kernel_rfl) rfl) vars vars rows _ A B n c m d _ _ _ _ _ _ _ _ _ _ _ _ _ _ _ _ _ W1 T1.hn T1.hm T1.hln T1.hlm T1.hnc T1.hv T1.hr T1.hz hR ?_
 intro W2 h2 W b hb hW
 by_cases h:off<0∨lim < -1
 ·rw[if_pos h,if_pos h]
  exact ordCutNo W2 b vars rows _ _ _ _ _ _ off lim W hb hW h
 ·rw[if_neg h,if_neg h]
  exact ordCut W2 b vars rows _ _ _ _ _ _ off lim W hb hW (by omega) (by omega) hl
theorem topProject (T:TabAt w A B n c m d vars rows) (hR:rightT vars rows=true) (names:List ByteArray) (Aq:Option Addr) (nq cq:Nat) (hnq:names.length=nq) (hlq:nq<=1000000) (hcq:nq<=cq) (hrq:Rd w Aq (names.map Value.string)) :
  Calls Tryz.prog 22 #[.agg #[.slice A n c,.slice B m d],.slice Aq nq cq] w (DoesR (projN vars names) (if projN vars names=0 then names else vars) (if projN vars names=0 then rows.map (projL (placesL vars names)) else rows) w):=by
 have hlv:=T.hln
 have hl:=T.hlm
 rw[←T.hn]at hlv
 rw[←T.hm]at hl
 refine ordTopProject _ _ A B n c m d _ Aq nq cq w λW1 h1=>?_
 have T1:=T.later h1
 refine ordDoes 60 (enters_of Tryz.func60 (by kernel_rfl) rfl) vars _ rows _ A B n c m d _ _ _ _ _ _ _ _ _ _ _ _ _ _ _ _ _ W1 T1.hn T1.hm T1.hln T1.hlm T1.hnc T1.hv T1.hr T1.hz hR ?_
 intro W2 h2 W b hb hW
 refine(ordProject W2 b vars names rows _ _ _ _ _ _ _ Aq nq cq W hb hW hnq hlq hcq (hrq.later (below_tr h1 h2)) (right_rows hR) hlv hl).mono λe w' h=>?_
 by_cases hN:projN vars names=0
 ·rw[if_pos hN,if_pos hN,hN]
  exact(h.2 hN).in_
 ·rw[if_neg hN,if_neg hN]
  exact(h.1 hN).in_
end
section
variable {w:World} {A B:Option Addr} {n c m d:Nat} {vars:List ByteArray} {rows:List (List Tm)}
end
theorem keep_mem {vars:List ByteArray} {nf:Nat} {fils:List (ExT nf)} {rows:List (List Tm)} {r:List Tm} (h:r∈keepL vars nf fils rows):r∈rows:=(List.mem_filter.1 h).1
theorem keep_len (vars:List ByteArray) (nf:Nat) (fils:List (ExT nf)) (rows:List (List Tm)):(keepL vars nf fils rows).length<=rows.length:=List.length_filter_le _ _
theorem sortL_perm (vars:List ByteArray) (keys:List Ky) (rows:List (List Tm)):(sortL vars keys rows).Perm rows:=by
 unfold sortL
 split
 ·exact List.Perm.refl _
 ·exact List.mergeSort_perm _ _
theorem once_len {α:Type} [DecidableEq α] (l:List α):(onceL l).length<=l.length:=by
 have h1:∀(acc:List α) (r:α),(onceF acc r).length<=acc.length+1:=λacc r=>by
  unfold onceF
  split<;>simp
 have h2:∀(l acc:List α),(l.foldl onceF acc).length<=acc.length+l.length:=by
  intro l
  induction l with
  | nil=>intro acc;simp
  | cons x l ih =>
   intro acc
   have:=ih (onceF acc x)
   have:=h1 acc x
   simp only[List.foldl_cons,List.length_cons]
   omega
 have:=h2 l []
 simpa[onceL] using this
theorem idx_is:∀{vars:List ByteArray} {k:Nat} {x:ByteArray},vars[k]?=some x->x ∉ vars.take k->Lib.idxOfS vars x=(k:Int)
 | [],_,_,h,_=>by simp at h
 | z::zs,0,x,h,_=>by
  have hz:z=x:=by simpa using h
  subst hz
  unfold Lib.idxOfS Lib.idxFromS
  simp
 | z::zs,k+1,x,h,hm=>by
  rw[List.take_succ_cons,List.mem_cons,_root_.not_or]at hm
  rw[idxOfS_cons _ _ _ (λe=>hm.1 e.symm),idx_is (vars:=zs) (k:=k) (by simpa using h) hm.2,if_neg (by omega)]
  omega
open Um
set_option maxRecDepth 100000 in
set_option maxHeartbeats 2000000 in
theorem run_neTm (a b:Tm) (W:World):(binOp .neq 76 (.agg #[.int .i64 a.k,.string a.x,.string a.l,.string a.y]) (.agg #[.int .i64 b.k,.string b.x,.string b.l,.string b.y])).run Tryz.prog W=.ok (.bool (!sameTm a b)) W:=by
 have h0:=Tryz.underlying76
 have h1:=Tryz.underlying74
 have h2:=Tryz.underlying9
 unfold sameTm
 simp only[go_sem,h0]
 cases e1:(a.k == b.k)
 ·simp[go_sem,h0,h1,h2,e1]
 cases e2:(a.x.toList == b.x.toList)
 ·simp[go_sem,h0,h1,h2,e1,e2]
 cases e3:(a.l.toList == b.l.toList)
 ·simp[go_sem,h0,h1,h2,e1,e2,e3]
 cases e4:(a.y.toList == b.y.toList)
 ·simp[go_sem,h0,h1,h2,e1,e2,e3,e4]
 simp[go_sem,h0,h1,h2,e1,e2,e3,e4]
open Lx
theorem same_drop {a b:List Tm} {k:Nat} {x z:Tm} (hx:a[k]?=some x) (hz:b[k]?=some z):(a.drop k=b.drop k↔x=z/\a.drop (k+1)=b.drop (k+1)):=by
 rw[drop_cons_of hx,drop_cons_of hz,List.cons.injEq]
end Go.Proofs.YtoejnneknpoanaaGreatDoor
