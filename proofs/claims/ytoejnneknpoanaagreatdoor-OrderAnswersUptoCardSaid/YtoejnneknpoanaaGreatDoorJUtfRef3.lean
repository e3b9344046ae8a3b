/- The reference's Next: the sign that begins a text at a place -/
import Derived.Test.YtoejnneknpoanaaGreatDoorJUtfRef
set_option maxHeartbeats 4000000
namespace Go.Proofs.YtoejnneknpoanaaGreatDoor
open Go Go.RowKit Um
theorem ti (s:ByteArray) (k L:Nat):(s.extract k (k+L)).toList=(from_ s k).take L:=by
 rw[ByteArray.toList_eq,extract_toList,Nat.add_sub_cancel_left]
theorem j7 (s:ByteArray) (k L:Nat) (hL:1<=L) (hk:k+L<=s.size) (hb:isB (ft (from_ s k) L)=true)
  (he:((encS (ft (from_ s k) L)).toList == (s.extract k (k+L)).toList)=true):nx (from_ s k)=((ft (from_ s k) L).toNat,L):=by
 refine Bp _ L hL (by rw[cU];omega) ⟨hb,?_⟩
 rw[beq_iff_eq,lA,ti]at he
 exact he.symm
theorem m7 (s:ByteArray) (k L:Nat) (hL:1<=L) (h:isB (ft (from_ s k) L)=false∨((encS (ft (from_ s k) L)).toList == (s.extract k (k+L)).toList)=false):(nx (from_ s k)).2≠L:=by
 refine Da _ L hL λ⟨h1,h2⟩=>?_
 rcases h with h|h
 ·rw[h1]at h;cases h
 ·rw[beq_eq_false_iff_ne,lA,ti]at h
  exact h h2.symm
theorem vF (s:ByteArray) (k:Nat) (w:World) (hk:k<s.size) (hs:s.size<=4611686018427387904) :
  Calls Tryz.prog 196 #[.string s,.int .i64 k] w λe w'=>e=.returned (.tuple #[.int .i64 (nx (from_ s k)).1,.int .i64 (nx (from_ s k)).2])/\Below w.heap.size w w':=by
 obtain⟨c1,c2,c3,c4⟩:=Db s k
 have C1:=Lib.hid c1;have C2:=Lib.hid c2;have C3:=Lib.hid c3;have C4:=Lib.hid c4
 clear c1 c2 c3 c4
 have b0:=fR s k;have b1:=fR s (k+1);have b2:=fR s (k+2);have b3:=fR s (k+3)
 go_enter Tryz.func196,Tryz.ntmps196
 go_wp2
 go_loopw [6] (λi wr=>∃L:Nat,1<=L/\L<=5/\i=.int .i64 L/\Below w.heap.size w wr/\Hid (∀j,1<=j->j<L->(nx (from_ s k)).2≠j)) (λi _=>5-(intOf i).toNat)
 case atStart=>exact⟨1,by omega,by omega,rfl,Below.refl _ _,λj _ _=>by omega⟩
 case round =>
  obtain⟨L,hL1,hL5,rfl,hB,H⟩:=hrel
  by_cases hlt:L<=4/\k+L<=s.size
  ·obtain⟨hL4,hkL⟩:=hlt
   rcases(by omega:L=1∨L=2∨L=3∨L=4) with rfl|rfl|rfl|rfl
   ·go_wp2
    go_rounds 1
    have his:=λW=>sd (bn s k:Int) W
    have hby:=λW=>eI (bn s k:Int) W
    have hyes:=j7 s k 1 hL1 hkL
    have hno:=m7 s k 1 hL1
    rw[C1.out]at hyes hno
    have Hyes:=Lib.hid hyes
    have Hno:=Lib.hid hno
    clear hyes hno C1 C2 C3 C4
    have e1:(k:Int)<=(k:Int)+1:=by omega
    have e2:(k:Int)+1<=(s.size:Int):=by omega
    by_cases hi:isB (bn s k:Int)=true
    ·replace hby:=λW=>hby W hi
     rw[hi]at his
     refine Rg.wp_region_plan [(true,[0]),(false,[1]),(true,[2,3,6,7,8,9,10,11]),(false,[4]),(false,[5]),(true,[12,13])] _ (by kernel_rfl) (by kernel_rfl)
      (by simp only[List.map_cons,List.map_nil,Rg.pickOps,List.getElem?_toArray,List.getElem?_cons_zero,List.getElem?_cons_succ,Option.getD_some];rfl) (λK hK=>?_)
     refine Rg.plan_quiet ?_
     go_big_quiet_step (fail)
     refine wpQuiet_nil (Rg.plan_chain ?_)
     intro W1 hW1
     go_wp2_with (go_at_call 238;refine(his _).mono ?_;rintro e w1 ⟨rfl,rfl⟩)
     refine⟨Below.refl _ _,Rg.plan_quiet ?_⟩
     iterate 8 go_big_quiet_step (fail)
     refine wpQuiet_nil (Rg.plan_chain ?_)
     intro W2 hW2
     go_wp2_with (go_at_call 239;refine(hby _).mono ?_;rintro e w2 ⟨g,rfl,hb2,hcv⟩)
     refine⟨hb2,Rg.plan_chain ?_⟩
     intro W3 hW3
     have hcv3:=hcv W3 hW3
     go_wp2_with fail
     refine⟨Below.refl _ _,Rg.plan_quiet ?_⟩
     iterate 2 go_big_quiet_step (fail)
     refine wpQuiet_nil (Rg.plan_end ?_)
     intro W4 hW4
     refine hK _ _ ?_
     clear hK hcv hcv3 hby his
     have hall:Below w.heap.size w W4:=hB.trans ((Rg.tr hW1 (Rg.tr hW2 (Rg.tr hb2 (Rg.tr hW3 hW4)))).mono hB.size)
     go_wp2
     ·have hq:((encS (bn s k:Int)).toList == (s.extract k (k+1)).toList)=true:=by assumption
      go_ret2
      refine⟨?_,hall⟩
      rw[Hyes.out hi hq]
      rw[cd]at hi
      simp only[Int.toNat_of_nonneg hi.1.1]
      rfl
     ·have hq:((encS (bn s k:Int)).toList == (s.extract k (k+1)).toList)=false:=by assumption
      have hn:=Hno.out (.inr hq)
      go_roundw
      case rel=>exact⟨1+1,by omega,by omega,by go_num,hall,λj h1 h2=>by
       rcases Nat.lt_or_ge j 1 with h|h
       ·exact H.out j h1 h
       ·have:j=1:=by omega
        subst this;exact hn⟩
      case measure=>simp[intOf]
    ·have hi:isB (bn s k:Int)=false:=by simpa using hi
     rw[hi]at his
     have hn:=Hno.out (.inl hi)
     refine Rg.wp_region_plan [(true,[0]),(false,[1]),(true,[2,3,6,7,8,9,10,11]),(false,[4]),(false,[5]),(true,[12,13])] _ (by kernel_rfl) (by kernel_rfl)
      (by simp only[List.map_cons,List.map_nil,Rg.pickOps,List.getElem?_toArray,List.getElem?_cons_zero,List.getElem?_cons_succ,Option.getD_some];rfl) (λK hK=>?_)
     refine Rg.plan_quiet ?_
     go_big_quiet_step (fail)
     refine wpQuiet_nil (Rg.plan_chain ?_)
     intro W1 hW1
     go_wp2_with (go_at_call 238;refine(his _).mono ?_;rintro e w1 ⟨rfl,rfl⟩)
     refine⟨Below.refl _ _,Rg.plan_quiet ?_⟩
     iterate 8 go_big_quiet_step (fail)
     refine wpQuiet_nil (Rg.plan_chain ?_)
     intro W2 hW2
     go_wp2_with fail
     refine⟨Below.refl _ _,Rg.plan_chain ?_⟩
     intro W3 hW3
     go_wp2_with fail
     refine⟨Below.refl _ _,Rg.plan_quiet ?_⟩
     iterate 2 go_big_quiet_step (fail)
     refine wpQuiet_nil (Rg.plan_end ?_)
     intro W4 hW4
     refine hK _ _ ?_
     clear hK hby his
     have hall:Below w.heap.size w W4:=hB.trans ((Rg.tr hW1 (Rg.tr hW2 (Rg.tr hW3 hW4))).mono hB.size)
     go_wp2
     go_roundw
     case rel=>exact⟨1+1,by omega,by omega,by go_num,hall,λj h1 h2=>by
      rcases Nat.lt_or_ge j 1 with h|h
      ·exact H.out j h1 h
      ·have:j=1:=by omega
       subst this;exact hn⟩
     case measure=>simp[intOf]
   ·go_wp2
    go_rounds 2
    have his:=λW=>sd (64*((bn s k:Int)-192)+(bn s (k+1):Int)-128) W
    have hby:=λW=>eI (64*((bn s k:Int)-192)+(bn s (k+1):Int)-128) W
    have hyes:=j7 s k 2 hL1 hkL
    have hno:=m7 s k 2 hL1
    rw[C2.out]at hyes hno
    have Hyes:=Lib.hid hyes
    have Hno:=Lib.hid hno
    clear hyes hno C1 C2 C3 C4
    have e1:(k:Int)<=(k:Int)+2:=by omega
    have e2:(k:Int)+2<=(s.size:Int):=by omega
    by_cases hi:isB (64*((bn s k:Int)-192)+(bn s (k+1):Int)-128)=true
    ·replace hby:=λW=>hby W hi
     rw[hi]at his
     refine Rg.wp_region_plan [(true,[0]),(false,[1]),(true,[2,3,6,7,8,9,10,11]),(false,[4]),(false,[5]),(true,[12,13])] _ (by kernel_rfl) (by kernel_rfl)
      (by simp only[List.map_cons,List.map_nil,Rg.pickOps,List.getElem?_toArray,List.getElem?_cons_zero,List.getElem?_cons_succ,Option.getD_some];rfl) (λK hK=>?_)
     refine Rg.plan_quiet ?_
     go_big_quiet_step (fail)
     refine wpQuiet_nil (Rg.plan_chain ?_)
     intro W1 hW1
     go_wp2_with (go_at_call 238;refine(his _).mono ?_;rintro e w1 ⟨rfl,rfl⟩)
     refine⟨Below.refl _ _,Rg.plan_quiet ?_⟩
     iterate 8 go_big_quiet_step (fail)
     refine wpQuiet_nil (Rg.plan_chain ?_)
     intro W2 hW2
     go_wp2_with (go_at_call 239;refine(hby _).mono ?_;rintro e w2 ⟨g,rfl,hb2,hcv⟩)
     refine⟨hb2,Rg.plan_chain ?_⟩
     intro W3 hW3
     have hcv3:=hcv W3 hW3
     go_wp2_with fail
     refine⟨Below.refl _ _,Rg.plan_quiet ?_⟩
     iterate 2 go_big_quiet_step (fail)
     refine wpQuiet_nil (Rg.plan_end ?_)
     intro W4 hW4
     refine hK _ _ ?_
     clear hK hcv hcv3 hby his
     have hall:Below w.heap.size w W4:=hB.trans ((Rg.tr hW1 (Rg.tr hW2 (Rg.tr hb2 (Rg.tr hW3 hW4)))).mono hB.size)
     go_wp2
     ·have hq:((encS (64*((bn s k:Int)-192)+(bn s (k+1):Int)-128)).toList == (s.extract k (k+2)).toList)=true:=by assumption
      go_ret2
      refine⟨?_,hall⟩
      rw[Hyes.out hi hq]
      rw[cd]at hi
      simp only[Int.toNat_of_nonneg hi.1.1]
      rfl
     ·have hq:((encS (64*((bn s k:Int)-192)+(bn s (k+1):Int)-128)).toList == (s.extract k (k+2)).toList)=false:=by assumption
      have hn:=Hno.out (.inr hq)
      go_roundw
      case rel=>exact⟨2+1,by omega,by omega,by go_num,hall,λj h1 h2=>by
       rcases Nat.lt_or_ge j 2 with h|h
       ·exact H.out j h1 h
       ·have:j=2:=by omega
        subst this;exact hn⟩
      case measure=>simp[intOf]
    ·have hi:isB (64*((bn s k:Int)-192)+(bn s (k+1):Int)-128)=false:=by simpa using hi
     rw[hi]at his
     have hn:=Hno.out (.inl hi)
     refine Rg.wp_region_plan [(true,[0]),(false,[1]),(true,[2,3,6,7,8,9,10,11]),(false,[4]),(false,[5]),(true,[12,13])] _ (by kernel_rfl) (by kernel_rfl)
      (by simp only[List.map_cons,List.map_nil,Rg.pickOps,List.getElem?_toArray,List.getElem?_cons_zero,List.getElem?_cons_succ,Option.getD_some];rfl) (λK hK=>?_)
     refine Rg.plan_quiet ?_
     go_big_quiet_step (fail)
     refine wpQuiet_nil (Rg.plan_chain ?_)
     intro W1 hW1
     go_wp2_with (go_at_call 238;refine(his _).mono ?_;rintro e w1 ⟨rfl,rfl⟩)
     refine⟨Below.refl _ _,Rg.plan_quiet ?_⟩
     iterate 8 go_big_quiet_step (fail)
     refine wpQuiet_nil (Rg.plan_chain ?_)
     intro W2 hW2
     go_wp2_with fail
     refine⟨Below.refl _ _,Rg.plan_chain ?_⟩
     intro W3 hW3
     go_wp2_with fail
     refine⟨Below.refl _ _,Rg.plan_quiet ?_⟩
     iterate 2 go_big_quiet_step (fail)
     refine wpQuiet_nil (Rg.plan_end ?_)
     intro W4 hW4
     refine hK _ _ ?_
     clear hK hby his
     have hall:Below w.heap.size w W4:=hB.trans ((Rg.tr hW1 (Rg.tr hW2 (Rg.tr hW3 hW4))).mono hB.size)
     go_wp2
     go_roundw
     case rel=>exact⟨2+1,by omega,by omega,by go_num,hall,λj h1 h2=>by
      rcases Nat.lt_or_ge j 2 with h|h
      ·exact H.out j h1 h
      ·have:j=2:=by omega
       subst this;exact hn⟩
     case measure=>simp[intOf]
   ·go_wp2
    go_rounds 3
    have his:=λW=>sd (64*(64*((bn s k:Int)-224)+(bn s (k+1):Int)-128)+(bn s (k+2):Int)-128) W
    have hby:=λW=>eI (64*(64*((bn s k:Int)-224)+(bn s (k+1):Int)-128)+(bn s (k+2):Int)-128) W
    have hyes:=j7 s k 3 hL1 hkL
    have hno:=m7 s k 3 hL1
    rw[C3.out]at hyes hno
    have Hyes:=Lib.hid hyes
    have Hno:=Lib.hid hno
    clear hyes hno C1 C2 C3 C4
    have e1:(k:Int)<=(k:Int)+3:=by omega
    have e2:(k:Int)+3<=(s.size:Int):=by omega
    by_cases hi:isB (64*(64*((bn s k:Int)-224)+(bn s (k+1):Int)-128)+(bn s (k+2):Int)-128)=true
    ·replace hby:=λW=>hby W hi
     rw[hi]at his
     refine Rg.wp_region_plan [(true,[0]),(false,[1]),(true,[2,3,6,7,8,9,10,11]),(false,[4]),(false,[5]),(true,[12,13])] _ (by kernel_rfl) (by kernel_rfl)
      (by simp only[List.map_cons,List.map_nil,Rg.pickOps,List.getElem?_toArray,List.getElem?_cons_zero,List.getElem?_cons_succ,Option.getD_some];rfl) (λK hK=>?_)
     refine Rg.plan_quiet ?_
     go_big_quiet_step (fail)
     refine wpQuiet_nil (Rg.plan_chain ?_)
     intro W1 hW1
     go_wp2_with (go_at_call 238;refine(his _).mono ?_;rintro e w1 ⟨rfl,rfl⟩)
     refine⟨Below.refl _ _,Rg.plan_quiet ?_⟩
     iterate 8 go_big_quiet_step (fail)
     refine wpQuiet_nil (Rg.plan_chain ?_)
     intro W2 hW2
     go_wp2_with (go_at_call 239;refine(hby _).mono ?_;rintro e w2 ⟨g,rfl,hb2,hcv⟩)
     refine⟨hb2,Rg.plan_chain ?_⟩
     intro W3 hW3
     have hcv3:=hcv W3 hW3
     go_wp2_with fail
     refine⟨Below.refl _ _,Rg.plan_quiet ?_⟩
     iterate 2 go_big_quiet_step (fail)
     refine wpQuiet_nil (Rg.plan_end ?_)
     intro W4 hW4
     refine hK _ _ ?_
     clear hK hcv hcv3 hby his
     have hall:Below w.heap.size w W4:=hB.trans ((Rg.tr hW1 (Rg.tr hW2 (Rg.tr hb2 (Rg.tr hW3 hW4)))).mono hB.size)
     go_wp2
     ·have hq:((encS (64*(64*((bn s k:Int)-224)+(bn s (k+1):Int)-128)+(bn s (k+2):Int)-128)).toList == (s.extract k (k+3)).toList)=true:=by assumption
      go_ret2
      refine⟨?_,hall⟩
      rw[Hyes.out hi hq]
      rw[cd]at hi
      simp only[Int.toNat_of_nonneg hi.1.1]
      rfl
     ·have hq:((encS (64*(64*((bn s k:Int)-224)+(bn s (k+1):Int)-128)+(bn s (k+2):Int)-128)).toList == (s.extract k (k+3)).toList)=false:=by assumption
      have hn:=Hno.out (.inr hq)
      go_roundw
      case rel=>exact⟨3+1,by omega,by omega,by go_num,hall,λj h1 h2=>by
       rcases Nat.lt_or_ge j 3 with h|h
       ·exact H.out j h1 h
       ·have:j=3:=by omega
        subst this;exact hn⟩
      case measure=>simp[intOf]
    ·have hi:isB (64*(64*((bn s k:Int)-224)+(bn s (k+1):Int)-128)+(bn s (k+2):Int)-128)=false:=by simpa using hi
     rw[hi]at his
     have hn:=Hno.out (.inl hi)
     refine Rg.wp_region_plan [(true,[0]),(false,[1]),(true,[2,3,6,7,8,9,10,11]),(false,[4]),(false,[5]),(true,[12,13])] _ (by kernel_rfl) (by kernel_rfl)
      (by simp only[List.map_cons,List.map_nil,Rg.pickOps,List.getElem?_toArray,List.getElem?_cons_zero,List.getElem?_cons_succ,Option.getD_some];rfl) (λK hK=>?_)
     refine Rg.plan_quiet ?_
     go_big_quiet_step (fail)
     refine wpQuiet_nil (Rg.plan_chain ?_)
     intro W1 hW1
     go_wp2_with (go_at_call 238;refine(his _).mono ?_;rintro e w1 ⟨rfl,rfl⟩)
     refine⟨Below.refl _ _,Rg.plan_quiet ?_⟩
     iterate 8 go_big_quiet_step (fail)
     refine wpQuiet_nil (Rg.plan_chain ?_)
     intro W2 hW2
     go_wp2_with fail
     refine⟨Below.refl _ _,Rg.plan_chain ?_⟩
     intro W3 hW3
     go_wp2_with fail
     refine⟨Below.refl _ _,Rg.plan_quiet ?_⟩
     iterate 2 go_big_quiet_step (fail)
     refine wpQuiet_nil (Rg.plan_end ?_)
     intro W4 hW4
     refine hK _ _ ?_
     clear hK hby his
     have hall:Below w.heap.size w W4:=hB.trans ((Rg.tr hW1 (Rg.tr hW2 (Rg.tr hW3 hW4))).mono hB.size)
     go_wp2
     go_roundw
     case rel=>exact⟨3+1,by omega,by omega,by go_num,hall,λj h1 h2=>by
      rcases Nat.lt_or_ge j 3 with h|h
      ·exact H.out j h1 h
      ·have:j=3:=by omega
       subst this;exact hn⟩
     case measure=>simp[intOf]
   ·go_wp2
    go_rounds 4
    have his:=λW=>sd (64*(64*(64*((bn s k:Int)-240)+(bn s (k+1):Int)-128)+(bn s (k+2):Int)-128)+(bn s (k+3):Int)-128) W
    have hby:=λW=>eI (64*(64*(64*((bn s k:Int)-240)+(bn s (k+1):Int)-128)+(bn s (k+2):Int)-128)+(bn s (k+3):Int)-128) W
    have hyes:=j7 s k 4 hL1 hkL
    have hno:=m7 s k 4 hL1
    rw[C4.out]at hyes hno
    have Hyes:=Lib.hid hyes
    have Hno:=Lib.hid hno
    clear hyes hno C1 C2 C3 C4
    have e1:(k:Int)<=(k:Int)+4:=by omega
    have e2:(k:Int)+4<=(s.size:Int):=by omega
    by_cases hi:isB (64*(64*(64*((bn s k:Int)-240)+(bn s (k+1):Int)-128)+(bn s (k+2):Int)-128)+(bn s (k+3):Int)-128)=true
    ·replace hby:=λW=>hby W hi
     rw[hi]at his
     refine Rg.wp_region_plan [(true,[0]),(false,[1]),(true,[2,3,6,7,8,9,10,11]),(false,[4]),(false,[5]),(true,[12,13])] _ (by kernel_rfl) (by kernel_rfl)
      (by simp only[List.map_cons,List.map_nil,Rg.pickOps,List.getElem?_toArray,List.getElem?_cons_zero,List.getElem?_cons_succ,Option.getD_some];rfl) (λK hK=>?_)
     refine Rg.plan_quiet ?_
     go_big_quiet_step (fail)
     refine wpQuiet_nil (Rg.plan_chain ?_)
     intro W1 hW1
     go_wp2_with (go_at_call 238;refine(his _).mono ?_;rintro e w1 ⟨rfl,rfl⟩)
     refine⟨Below.refl _ _,Rg.plan_quiet ?_⟩
     iterate 8 go_big_quiet_step (fail)
     refine wpQuiet_nil (Rg.plan_chain ?_)
     intro W2 hW2
     go_wp2_with (go_at_call 239;refine(hby _).mono ?_;rintro e w2 ⟨g,rfl,hb2,hcv⟩)
     refine⟨hb2,Rg.plan_chain ?_⟩
     intro W3 hW3
     have hcv3:=hcv W3 hW3
     go_wp2_with fail
     refine⟨Below.refl _ _,Rg.plan_quiet ?_⟩
     iterate 2 go_big_quiet_step (fail)
     refine wpQuiet_nil (Rg.plan_end ?_)
     intro W4 hW4
     refine hK _ _ ?_
     clear hK hcv hcv3 hby his
     have hall:Below w.heap.size w W4:=hB.trans ((Rg.tr hW1 (Rg.tr hW2 (Rg.tr hb2 (Rg.tr hW3 hW4)))).mono hB.size)
     go_wp2
     ·have hq:((encS (64*(64*(64*((bn s k:Int)-240)+(bn s (k+1):Int)-128)+(bn s (k+2):Int)-128)+(bn s (k+3):Int)-128)).toList == (s.extract k (k+4)).toList)=true:=by assumption
      go_ret2
      refine⟨?_,hall⟩
      rw[Hyes.out hi hq]
      rw[cd]at hi
      simp only[Int.toNat_of_nonneg hi.1.1]
      rfl
     ·have hq:((encS (64*(64*(64*((bn s k:Int)-240)+(bn s (k+1):Int)-128)+(bn s (k+2):Int)-128)+(bn s (k+3):Int)-128)).toList == (s.extract k (k+4)).toList)=false:=by assumption
      have hn:=Hno.out (.inr hq)
      go_roundw
      case rel=>exact⟨4+1,by omega,by omega,by go_num,hall,λj h1 h2=>by
       rcases Nat.lt_or_ge j 4 with h|h
       ·exact H.out j h1 h
       ·have:j=4:=by omega
        subst this;exact hn⟩
      case measure=>simp[intOf]
    ·have hi:isB (64*(64*(64*((bn s k:Int)-240)+(bn s (k+1):Int)-128)+(bn s (k+2):Int)-128)+(bn s (k+3):Int)-128)=false:=by simpa using hi
     rw[hi]at his
     have hn:=Hno.out (.inl hi)
     refine Rg.wp_region_plan [(true,[0]),(false,[1]),(true,[2,3,6,7,8,9,10,11]),(false,[4]),(false,[5]),(true,[12,13])] _ (by kernel_rfl) (by kernel_rfl)
      (by simp only[List.map_cons,List.map_nil,Rg.pickOps,List.getElem?_toArray,List.getElem?_cons_zero,List.getElem?_cons_succ,Option.getD_some];rfl) (λK hK=>?_)
     refine Rg.plan_quiet ?_
     go_big_quiet_step (fail)
     refine wpQuiet_nil (Rg.plan_chain ?_)
     intro W1 hW1
     go_wp2_with (go_at_call 238;refine(his _).mono ?_;rintro e w1 ⟨rfl,rfl⟩)
     refine⟨Below.refl _ _,Rg.plan_quiet ?_⟩
     iterate 8 go_big_quiet_step (fail)
     refine wpQuiet_nil (Rg.plan_chain ?_)
     intro W2 hW2
     go_wp2_with fail
     refine⟨Below.refl _ _,Rg.plan_chain ?_⟩
     intro W3 hW3
     go_wp2_with fail
     refine⟨Below.refl _ _,Rg.plan_quiet ?_⟩
     iterate 2 go_big_quiet_step (fail)
     refine wpQuiet_nil (Rg.plan_end ?_)
     intro W4 hW4
     refine hK _ _ ?_
     clear hK hby his
     have hall:Below w.heap.size w W4:=hB.trans ((Rg.tr hW1 (Rg.tr hW2 (Rg.tr hW3 hW4))).mono hB.size)
     go_wp2
     go_roundw
     case rel=>exact⟨4+1,by omega,by omega,by go_num,hall,λj h1 h2=>by
      rcases Nat.lt_or_ge j 4 with h|h
      ·exact H.out j h1 h
      ·have:j=4:=by omega
       subst this;exact hn⟩
     case measure=>simp[intOf]
  ·have hend:nx (from_ s k)=(0,0):=by
    have hl:=cU s k
    by_cases h0:(nx (from_ s k)).2=0
    ·have:nx (from_ s k)=(0,0):=by
      unfold nx at h0 ⊢
      split at h0
      ·rename_i h;rw[if_pos h]
      ·rename_i h
       rw[if_neg h]
       split at h0
       ·rename_i h';rw[if_pos h']
       ·exfalso
        have:=gH (from_ s k).length ((from_ s k).getD 0 0).toNat ((from_ s k).getD 1 0).toNat ((from_ s k).getD 2 0).toNat ((from_ s k).getD 3 0).toNat
        omega
     exact this
    ·have h1:=qF (from_ s k) h0
     exact absurd rfl (H.out (nx (from_ s k)).2 (by omega) (by omega))
   have Hend:=Lib.hid hend
   clear hend H C1 C2 C3 C4
   by_cases h4:L<=4
   ·go_wp2
    go_ret2
    exact⟨by rw[Hend.out];rfl,hB⟩
   ·go_wp2
    go_ret2
    exact⟨by rw[Hend.out];rfl,hB⟩
theorem CK:(Tryz.prog.info? 3).map (λi=>(i.zero,i.size,i.bytes))=some (some (.int .i64 0),1,8):=by kernel_rfl
theorem zj (s:ByteArray) (w:World) (hs:s.size<=2000000) :
  Calls Tryz.prog 195 #[.string s] w λe w'=>∃v n,e=.returned (.tuple #[v,.int .i64 (gY s.data.toList).2.1,.int .i64 (gY s.data.toList).2.2]) /\
   w'.ownsRow w.heap.size 3 1 v n ((gY s.data.toList).1.map (Value.int .i64))/\Below w.heap.size w w':=by
 go_enter Tryz.func195,Tryz.ntmps195
 go_wp2
 go_loopw [5,6] (λv i wr=>∃k n:Nat,∃acc:List Int,k<=s.size/\n<=k/\i=.int .i64 k/\wr.ownsRow w.heap.size 3 1 v n (acc.map (Value.int .i64))/\Below w.heap.size w wr/\Hid (eS s.data.toList k acc)) (λ_ i _=>s.size-(intOf i).toNat)
 case atStart=>exact⟨0,0,[],by omega,by omega,rfl,by simpa using World.ownsRow_nil _ _ _ _,Below.refl _ _,qe _⟩
 case round =>
  obtain⟨k,n,acc,hk,hnk,rfl,hown,hB,H⟩:=hrel
  have hsz:s.data.toList.length=s.size:=ac s
  by_cases hlt:k<s.size
  ·have hnx:=λW=>vF s k W hlt (by omega)
   by_cases h0:(nx (from_ s k)).2=0
   ·have hres:=Lib.hid (tV H.out (by rw[hsz];exact hlt) h0)
    rw[h0]at hnx
    clear hsz
    generalize (nx (from_ s k)).1=x at hnx
    go_wp2_with (go_at_call 196;refine(hnx _).mono ?_;rintro e w1 ⟨rfl,hb1⟩)
    go_ret3
    refine⟨_,0,by rw[hres.out];rfl,?_,hB.trans (hb1.mono hB.size)⟩
    rw[hres.out]
    simpa using World.ownsRow_nil _ _ _ _
   ·have hres:=Lib.hid (wZ H.out (by rw[hsz];exact hlt) h0)
    obtain⟨h1,h2,h3⟩:=j6 s k h0
    clear hsz
    generalize (nx (from_ s k)).1=x at hnx h3 hres
    generalize (nx (from_ s k)).2=d at hnx h0 h1 h2 hres
    have hd:(d:Int)≠0:=by omega
    have hd1:((d:Int) == 0)=false:=by simpa using hd
    go_wp2_with (first
     | (go_at_call 196;refine(hnx _).mono ?_;rintro e w1 ⟨rfl,hb1⟩;have hown1:=own_below hown hb1 (Nat.le_refl _);have hB1:=hB.trans (hb1.mono hB.size))
     | (at_builtin;refine bE rfl rfl Tryz.underlying69 CK rfl (by omega) rfl (hown1.alloc _) rfl (Rd.of_block (heap_alloc_new w1 _) rfl) rfl (ints_oneCell _ [(x:Int)]) (by omega) (by omega) (by have:=hB1.size;simp;omega) ?_;intro v2 w2 hown2 hb2))
    go_roundw
    case rel =>
     refine⟨k+d,n+1,acc++[(x:Int)],by omega,by omega,by go_num,by simpa using hown2,(hB1.alloc hB1.size _).trans hb2,hres.out⟩
    case measure=>simp[intOf];omega
  ·have hkl:k=s.size:=by omega
   have hres:=Lib.hid (tU H.out (by rw[hsz];omega))
   clear hkl hsz
   go_wp2
   go_ret3
   refine⟨_,n,by rw[hres.out];rfl,?_,hB⟩
   rw[hres.out]
   exact hown
theorem sf (c:Int) (w:World) (h0:0<=c) (h1:c<256) :
  Calls Tryz.prog 200 #[.int .u8 c] w λe w'=>e=.returned (.bool (aY c))/\w=w':=by
 go_enter Tryz.func200,Tryz.ntmps200
 go_wp2
 all_goals
  go_ret
  refine⟨?_,rfl⟩
  simp[aY,inB, *]
 all_goals omega
theorem zo (c:Int) (w:World) (h0:0<=c) (h1:c<256) :
  Calls Tryz.prog 201 #[.int .u8 c] w λe w'=>e=.returned (.bool (dh c))/\w=w':=by
 go_enter Tryz.func201,Tryz.ntmps201
 go_wp2
 all_goals
  go_ret
  refine⟨?_,rfl⟩
  simp[dh, *]
 all_goals omega
theorem iC {l:List UInt8} {k d x best:Nat} (h:bK l false (k+d) (if x=46 then best else k+d)) (hx:((x:Int) != 46)=true) (hd:d≠0):bK l (k+d == 0) (k+d) (k+d):=by
 have h1:(k+d == 0)=false:=by simp;omega
 have h2:¬ x=46:=by rw[bne_iff_ne]at hx;omega
 rw[h1];rwa [if_neg h2]at h
theorem fG {l:List UInt8} {k d x best:Nat} (h:bK l false (k+d) (if x=46 then best else k+d)) (hx:((x:Int) != 46)=false) (hd:d≠0):bK l (k+d == 0) (k+d) best:=by
 have h1:(k+d == 0)=false:=by simp;omega
 have h2:x=46:=by simp at hx;omega
 rw[h1];rwa [if_pos h2]at h
theorem zl (s:ByteArray) (w:World) (hs:s.size<=2000000) :
  Calls Tryz.prog 168 #[.string s] w λe w'=>e=.returned (.int .i64 (jf s.data.toList))/\Below w.heap.size w w':=by
 go_enter Tryz.func168,Tryz.ntmps168
 go_wp2
 go_loopw [3,4] (λb i wr=>∃k best:Nat,k<=s.size/\b=.int .i64 best/\i=.int .i64 k/\(k=0->best=0)/\Below w.heap.size w wr/\Hid (bK s.data.toList (k == 0) k best)) (λ_ i _=>s.size-(intOf i).toNat)
 case atStart=>exact⟨0,0,by omega,rfl,rfl,λ_=>rfl,Below.refl _ _,ij _⟩
 case round =>
  obtain⟨k,best,hk,rfl,rfl,hb0,hB,H⟩:=hrel
  have hsz:s.data.toList.length=s.size:=ac s
  by_cases hlt:k<s.size
  ·have hnx:=λW=>vF s k W hlt (by omega)
   by_cases h0:(nx (from_ s k)).2=0
   ·have hres:=Lib.hid (gw H.out (.inr h0))
    rw[h0]at hnx
    clear hsz hb0
    generalize (nx (from_ s k)).1=x at hnx
    go_wp2_with (go_at_call 196;refine(hnx _).mono ?_;rintro e w1 ⟨rfl,hb1⟩)
    go_ret
    exact⟨by rw[hres.out];rfl,hB.trans (hb1.mono hB.size)⟩
   ·have hout:=lu H.out
    have hgo:=nl H.out (by rw[hsz];exact hlt) h0
    obtain⟨h1,h2,h3⟩:=j6 s k h0
    clear hsz H
    have e1:(List.drop k s.data.toList)=from_ s k:=rfl
    rw[e1]at hout hgo
    clear e1
    generalize (nx (from_ s k)).1=x at hnx h3 hout hgo
    generalize (nx (from_ s k)).2=d at hnx h0 h1 h2 hgo
    have Hout:=Lib.hid hout
    have Hgo:=Lib.hid hgo
    have Hb0:=Lib.hid hb0
    clear hout hgo hb0
    have hd1:((d:Int) == 0)=false:=by simp;omega
    have hfi:=λW=>se (x:Int) W
    have hle:=λW=>xh (x:Int) W
    have hin:=λ(W:World) (g:Nat) hW=>zm (x:Int) iF (some ⟨g,0,none⟩) 6 W (by decide) hW
    by_cases hk0:k=0
    ·have hz:((k:Int) == 0)=true:=by simp[hk0]
     have hb0:=Lib.hid (Hb0.out hk0)
     have Hk0:=Lib.hid hk0
     have Hst:=Lib.hid (show (k == 0)=true by simp[hk0])
     rw[Hst.out]at Hgo Hout
     clear hk0
     by_cases hbeg:cJ x=true
     ·have hlet:=r7 x hbeg
      rw[hlet]at hle
      have Hgo2:=Lib.hid (Hgo.out hbeg)
      clear hlet
      unfold cJ at hbeg
      by_cases hf:cA x=true
      ·rw[hf]at hfi
       clear hbeg hf
       go_wp2_with (first
        | (go_at_call 196;refine(hnx _).mono ?_;rintro e w1 ⟨rfl,hb1⟩;have hB1:=hB.trans (hb1.mono hB.size))
        | (go_at_call 197;refine(hfi _).mono ?_;rintro e w2 ⟨rfl,hb2⟩;have hB2:=hB1.trans (hb2.mono hB1.size))
        | (go_at_call 199;refine(hle _).mono ?_;rintro e w3 ⟨rfl,hb3⟩;have hB3:=hB2.trans (hb3.mono hB2.size)))
       ·have hx:((x:Int) != 46)=true:=by assumption
        go_roundw
        case rel=>exact⟨k+d,k+d,by omega,by go_num,by go_num,λh=>by omega,hB3,iC Hgo2.out hx h0⟩
        case measure=>simp[intOf];omega
       ·have hx:((x:Int) != 46)=false:=by assumption
        go_roundw
        case rel=>exact⟨k+d,best,by omega,rfl,by go_num,λh=>by omega,hB3,fG Hgo2.out hx h0⟩
        case measure=>simp[intOf];omega
      ·have hf:cA x=false:=by simpa using hf
       rw[hf]at hfi hbeg
       have hi:inB x iF=true:=by simpa using hbeg
       rw[hi]at hin
       clear hbeg hf hi
       go_wp2_with (first
        | (go_at_call 196;refine(hnx _).mono ?_;rintro e w1 ⟨rfl,hb1⟩;have hB1:=hB.trans (hb1.mono hB.size))
        | (go_at_call 197;refine(hfi _).mono ?_;rintro e w2 ⟨rfl,hb2⟩;have hB2:=hB1.trans (hb2.mono hB1.size))
        | (go_at_call 198;refine(hin _ _ ?_).mono ?_;exact Rd.of_block (heap_alloc_new w2 _) rfl;rintro e w4 ⟨rfl,rfl⟩;have hB4:=hB2.alloc hB2.size (.cells #[.int .i64 95,.int .i64 95,.int .i64 58,.int .i64 58,.int .i64 48,.int .i64 57] 3))
        | (go_at_call 199;refine(hle _).mono ?_;rintro e w3 ⟨rfl,hb3⟩;have hB3:=hB4.trans (hb3.mono hB4.size)))
       ·have hx:((x:Int) != 46)=true:=by assumption
        go_roundw
        case rel=>exact⟨k+d,k+d,by omega,by go_num,by go_num,λh=>by omega,hB3,iC Hgo2.out hx h0⟩
        case measure=>simp[intOf];omega
       ·have hx:((x:Int) != 46)=false:=by assumption
        go_roundw
        case rel=>exact⟨k+d,best,by omega,rfl,by go_num,λh=>by omega,hB3,fG Hgo2.out hx h0⟩
        case measure=>simp[intOf];omega
     ·have hbeg:cJ x=false:=by simpa using hbeg
      have Hout2:=Lib.hid (Hout.out hbeg)
      unfold cJ at hbeg
      have hf:cA x=false:=by simp at hbeg;exact hbeg.1
      have hi:inB x iF=false:=by simp at hbeg;exact hbeg.2
      rw[hf]at hfi
      rw[hi]at hin
      clear hbeg hf hi
      go_wp2_with (first
       | (go_at_call 196;refine(hnx _).mono ?_;rintro e w1 ⟨rfl,hb1⟩;have hB1:=hB.trans (hb1.mono hB.size))
       | (go_at_call 197;refine(hfi _).mono ?_;rintro e w2 ⟨rfl,hb2⟩;have hB2:=hB1.trans (hb2.mono hB1.size))
       | (go_at_call 198;refine(hin _ _ ?_).mono ?_;exact Rd.of_block (heap_alloc_new w2 _) rfl;rintro e w4 ⟨rfl,rfl⟩;have hB4:=hB2.alloc hB2.size (.cells #[.int .i64 95,.int .i64 95,.int .i64 58,.int .i64 58,.int .i64 48,.int .i64 57] 3)))
      go_ret
      exact⟨by rw[Hout2.out,hb0.out];rfl,hB4⟩
    ·have hz:((k:Int) == 0)=false:=by simp;omega
     have Hst:=Lib.hid (show (k == 0)=false by simp[hk0])
     rw[Hst.out]at Hgo Hout
     clear hk0 Hb0
     rw[show sD false x=(cu x || decide ((x:Int)=46)) from rfl]at Hgo Hout
     by_cases hl:cu x=true
     ·have Hgo2:=Lib.hid (Hgo.out (by rw[hl];rfl))
      rw[hl]at hle
      clear hl
      go_wp2_with (first
       | (go_at_call 196;refine(hnx _).mono ?_;rintro e w1 ⟨rfl,hb1⟩;have hB1:=hB.trans (hb1.mono hB.size))
       | (go_at_call 199;refine(hle _).mono ?_;rintro e w3 ⟨rfl,hb3⟩;have hB3:=hB1.trans (hb3.mono hB1.size)))
      ·have hx:((x:Int) != 46)=true:=by assumption
       go_roundw
       case rel=>exact⟨k+d,k+d,by omega,by go_num,by go_num,λh=>by omega,hB3,iC Hgo2.out hx h0⟩
       case measure=>simp[intOf];omega
      ·have hx:((x:Int) != 46)=false:=by assumption
       go_roundw
       case rel=>exact⟨k+d,best,by omega,rfl,by go_num,λh=>by omega,hB3,fG Hgo2.out hx h0⟩
       case measure=>simp[intOf];omega
     ·have hl:cu x=false:=by simpa using hl
      rw[hl]at hle Hgo Hout
      clear hl
      by_cases hd:(x:Int)=46
      ·have Hgo2:=Lib.hid (Hgo.out (by rw[hd];rfl))
       have hd1:((x:Int) != 46)=false:=by simp[hd]
       clear hd
       go_wp2_with (first
        | (go_at_call 196;refine(hnx _).mono ?_;rintro e w1 ⟨rfl,hb1⟩;have hB1:=hB.trans (hb1.mono hB.size))
        | (go_at_call 199;refine(hle _).mono ?_;rintro e w3 ⟨rfl,hb3⟩;have hB3:=hB1.trans (hb3.mono hB1.size)))
       go_roundw
       case rel=>exact⟨k+d,best,by omega,rfl,by go_num,λh=>by omega,hB3,fG Hgo2.out hd1 h0⟩
       case measure=>simp[intOf];omega
      ·have Hout2:=Lib.hid (Hout.out (by simp[hd]))
       have hd1:((x:Int) != 46)=true:=by simp[hd]
       clear hd
       go_wp2_with (first
        | (go_at_call 196;refine(hnx _).mono ?_;rintro e w1 ⟨rfl,hb1⟩;have hB1:=hB.trans (hb1.mono hB.size))
        | (go_at_call 199;refine(hle _).mono ?_;rintro e w3 ⟨rfl,hb3⟩;have hB3:=hB1.trans (hb3.mono hB1.size)))
       go_ret
       exact⟨by rw[Hout2.out];rfl,hB3⟩
  ·have hres:=Lib.hid (gw H.out (.inl (by rw[hsz];omega)))
   clear hsz hb0
   go_wp2
   go_ret
   exact⟨by rw[hres.out];rfl,hB⟩
theorem DT (s:ByteArray) (w:World) (hs:s.size<=2000000) :
  Calls Tryz.prog 169 #[.string s] w λe w'=>e=.returned (.int .i64 (tag s.data.toList))/\w=w':=by
 have hsz:s.data.toList.length=s.size:=ac s
 have Hsz:=Lib.hid hsz
 clear hsz
 go_enter Tryz.func169,Tryz.ntmps169
 go_wp2
 go_loop [3] (λi=>∃k:Nat,k<=s.size/\i=.int .i64 k/\Hid (span aY s.data.toList=k+span aY (s.data.toList.drop k))) (λi=>s.size-(intOf i).toNat)
 case atStart=>exact⟨0,by omega,rfl,by show _=_;simp⟩
 case round =>
  obtain⟨k,hk,rfl,H⟩:=hrel
  have hb:=fR s k
  have hal:=λW=>sf (bn s k) W (by omega) (by omega)
  have go:aY (bn s k)=true->k<s.size->span aY s.data.toList=(k+1)+span aY (s.data.toList.drop (k+1)):=λha hlt=>by
   rw[H.out,fc _ _ _ (by rw[Hsz.out];exact hlt),fL,if_pos ha];omega
  have stop:(k<s.size->aY (bn s k)=false)->span aY s.data.toList=k:=λha=>by
   rw[H.out]
   rcases Nat.lt_or_ge k s.size with h|h
   ·rw[fc _ _ _ (by rw[Hsz.out];exact h),fL,ha h];rfl
   ·rw[iN _ _ _ (by rw[Hsz.out];exact h)];rfl
  have Hgo:=Lib.hid go
  have Hstop:=Lib.hid stop
  clear go stop H
  by_cases hlt:k<s.size/\aY (bn s k)=true
  ·obtain⟨hlt,ha⟩:=hlt
   rw[ha]at hal
   have hg:=Lib.hid (Hgo.out ha hlt)
   clear ha
   go_wp2_with (go_at_call 200;refine(hal _).mono ?_;rintro e w1 ⟨rfl,rfl⟩)
   go_round
   case rel=>exact⟨k+1,by omega,by go_num,hg⟩
   case measure=>simp[intOf];omega
  ·have hsp:=Hstop.out (λh=>by
    cases hh:aY (bn s k) with
    | false=>rfl
    | true=>exact absurd ⟨h,hh⟩ hlt)
   have hT:da s.data.toList k:=by unfold da tag;rw[hsp]
   have HT:=Lib.hid hT
   clear hsp hT Hgo Hstop
   have key:∀b:Bool,(k<s.size->aY (bn s k)=b)->b=false∨¬ k<s.size->True:=λ_ _ _=>trivial
   clear key
   by_cases hlt2:k<s.size
   case' pos =>
    have ha:aY (bn s k)=false:=by
     cases hh:aY (bn s k) with
     | false=>rfl
     | true=>exact absurd ⟨hlt2,hh⟩ hlt
    rw[ha]at hal
    clear ha
   all_goals
    clear hlt
    go_wp2_with (go_at_call 200;refine(hal _).mono ?_;rintro e w1 ⟨rfl,rfl⟩)
    clear hb hal
    go_loop [3] (λi=>∃n:Nat,n<=s.size/\i=.int .i64 n/\Hid (da s.data.toList n)) (λi=>s.size-(intOf i).toNat)
    case atStart=>exact⟨k,by omega,rfl,HT⟩
    case round =>
     clear HT
     obtain⟨n,hn,rfl,HT⟩:=hrel
     have hb:=fR s n
     have hout:=λh=>eH HT.out h
     have hgo:=λh=>ir HT.out h
     rw[Hsz.out,fL]at hout hgo
     have Hout:=Lib.hid hout
     have Hgo:=Lib.hid hgo
     clear hout hgo
     by_cases h0:0<n
     case' neg =>
      have Hres:=Lib.hid (Hout.out (λh=>h0 h.1))
      go_wp2
      go_ret
      exact⟨by rw[Hres.out];rfl,rfl⟩
     by_cases h1:n<s.size
     case' neg =>
      have Hres:=Lib.hid (Hout.out (λh=>h1 h.2.1))
      go_wp2
      go_ret
      exact⟨by rw[Hres.out];rfl,rfl⟩
     by_cases h2:bn s n=45
     case' neg =>
      have Hres:=Lib.hid (Hout.out (λh=>h2 h.2.2.1))
      have h3:((bn s n:Int) == 45)=false:=by simp;omega
      clear h2
      go_wp2
      go_ret
      exact⟨by rw[Hres.out];rfl,rfl⟩
     have h3:((bn s n:Int) == 45)=true:=by simp;omega
     have H2:=Lib.hid h2
     clear h2
     go_wp2
     go_loop [4] (λi=>∃m:Nat,n+1<=m/\m<=s.size/\i=.int .i64 m/\Hid (span bb (s.data.toList.drop (n+1))=(m-(n+1))+span bb (s.data.toList.drop m))) (λi=>s.size-(intOf i).toNat)
     case atStart=>exact⟨n+1,by omega,by omega,by go_num,by show _=_;omega⟩
     case round =>
      obtain⟨m,hm1,hm2,rfl,H⟩:=hrel
      have hbm:=fR s m
      have hal:=λW=>sf (bn s m) W (by omega) (by omega)
      have hdi:=λW=>zo (bn s m) W (by omega) (by omega)
      have go:bb (bn s m)=true->m<s.size->span bb (s.data.toList.drop (n+1))=((m+1)-(n+1))+span bb (s.data.toList.drop (m+1)):=λha hlt=>by
       rw[H.out,fc _ _ m (by rw[Hsz.out];exact hlt),fL,if_pos ha];omega
      have stop:(m<s.size->bb (bn s m)=false)->span bb (s.data.toList.drop (n+1))=m-(n+1):=λha=>by
       rw[H.out]
       rcases Nat.lt_or_ge m s.size with h|h
       ·rw[fc _ _ m (by rw[Hsz.out];exact h),fL,ha h];rfl
       ·rw[iN _ _ m (by rw[Hsz.out];exact h)];rfl
      have Hg:=Lib.hid go
      have Hs:=Lib.hid stop
      clear go stop H
      by_cases hlt:m<s.size
      ·by_cases ha:aY (bn s m)=true
       ·have hg:=Lib.hid (Hg.out (by unfold bb;rw[ha];rfl) hlt)
        rw[ha]at hal
        clear ha Hg Hs
        go_wp2_with (go_at_call 200;refine(hal _).mono ?_;rintro e w1 ⟨rfl,rfl⟩)
        go_round
        case rel=>exact⟨m+1,by omega,by omega,by go_num,hg⟩
        case measure=>simp[intOf];omega
       ·have ha:aY (bn s m)=false:=by simpa using ha
        rw[ha]at hal
        by_cases hd:dh (bn s m)=true
        ·have hg:=Lib.hid (Hg.out (by unfold bb;rw[hd];simp) hlt)
         rw[hd]at hdi
         clear ha hd Hg Hs
         go_wp2_with (first
          | (go_at_call 200;refine(hal _).mono ?_;rintro e w1 ⟨rfl,rfl⟩)
          | (go_at_call 201;refine(hdi _).mono ?_;rintro e w1 ⟨rfl,rfl⟩))
         go_round
         case rel=>exact⟨m+1,by omega,by omega,by go_num,hg⟩
         case measure=>simp[intOf];omega
        ·have hd:dh (bn s m)=false:=by simpa using hd
         have hs':=Hs.out (λ_=>by unfold bb;rw[ha,hd];rfl)
         rw[hd]at hdi
         clear ha hd Hg Hs
         by_cases hz:m=n+1
         ·have hz1:((m:Int) == (n:Int)+1)=true:=by simp;omega
          have Hres:=Lib.hid (Hout.out (λh=>h.2.2.2 (by rw[hs'];omega)))
          clear hs' hz
          go_wp2_with (first
           | (go_at_call 200;refine(hal _).mono ?_;rintro e w1 ⟨rfl,rfl⟩)
           | (go_at_call 201;refine(hdi _).mono ?_;rintro e w1 ⟨rfl,rfl⟩))
          go_ret
          exact⟨by rw[Hres.out];rfl,rfl⟩
         ·have hz1:((m:Int) == (n:Int)+1)=false:=by simp;omega
          have hr:=Hgo.out ⟨h0,h1,H2.out,by rw[hs'];omega⟩
          rw[hs',show n+1+(m-(n+1))=m from by omega]at hr
          have Hr:=Lib.hid hr
          clear hs' hz hr
          go_wp2_with (first
           | (go_at_call 200;refine(hal _).mono ?_;rintro e w1 ⟨rfl,rfl⟩)
           | (go_at_call 201;refine(hdi _).mono ?_;rintro e w1 ⟨rfl,rfl⟩))
          go_round
          case rel=>exact⟨m,by omega,rfl,Hr⟩
          case measure=>simp[intOf];omega
      ·have hs':=Hs.out (λh=>absurd h hlt)
       clear Hg Hs
       by_cases hz:m=n+1
       ·have hz1:((m:Int) == (n:Int)+1)=true:=by simp;omega
        have Hres:=Lib.hid (Hout.out (λh=>h.2.2.2 (by rw[hs'];omega)))
        clear hs' hz
        go_wp2
        go_ret
        exact⟨by rw[Hres.out];rfl,rfl⟩
       ·have hz1:((m:Int) == (n:Int)+1)=false:=by simp;omega
        have hr:=Hgo.out ⟨h0,h1,H2.out,by rw[hs'];omega⟩
        rw[hs',show n+1+(m-(n+1))=m from by omega]at hr
        have Hr:=Lib.hid hr
        clear hs' hz hr
        go_wp2
        go_round
        case rel=>exact⟨m,by omega,rfl,Hr⟩
        case measure=>simp[intOf];omega
end Go.Proofs.YtoejnneknpoanaaGreatDoor
