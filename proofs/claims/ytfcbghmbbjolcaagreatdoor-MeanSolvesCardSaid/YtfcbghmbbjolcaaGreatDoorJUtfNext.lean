/- The reference's Next: the sign that begins a text at a place -/
import Derived.Test.YtfcbghmbbjolcaaGreatDoorJUtfRef
namespace Go.Proofs.YtfcbghmbbjolcaaGreatDoor
open Go Go.RowKit Um
theorem uv (s:ByteArray) (k L:Nat):(s.extract k (k+L)).toList=(from_ s k).take L:=by
 rw[ByteArray.toList_eq,extract_toList,Nat.add_sub_cancel_left]
theorem jN (s:ByteArray) (k L:Nat) (hL:1<=L) (hk:k+L<=s.size) (hb:isB (bW (from_ s k) L)=true)
  (he:((encS (bW (from_ s k) L)).toList == (s.extract k (k+L)).toList)=true):nx (from_ s k)=((bW (from_ s k) L).toNat,L):=by
 refine E6 _ L hL (by rw[cZ];omega) ⟨hb,?_⟩
 rw[beq_iff_eq,lI,uv]at he
 exact he.symm
theorem mh (s:ByteArray) (k L:Nat) (hL:1<=L) (h:isB (bW (from_ s k) L)=false∨((encS (bW (from_ s k) L)).toList == (s.extract k (k+L)).toList)=false):(nx (from_ s k)).2≠L:=by
 refine G5 _ L hL λ⟨h1,h2⟩=>?_
 rcases h with h|h
 ·rw[h1]at h;cases h
 ·rw[beq_eq_false_iff_ne,lI,uv]at h
  exact h h2.symm
set_option maxHeartbeats 4000000 in
theorem xq (s:ByteArray) (k:Nat) (w:World) (hk:k<s.size) (hs:s.size<=4611686018427387904) :
  Calls Tryz.prog 284 #[.string s,.int .i64 k] w λe w'=>e=.returned (.tuple #[.int .i64 (nx (from_ s k)).1,.int .i64 (nx (from_ s k)).2])/\Below w.heap.size w w':=by
 obtain⟨c1,c2,c3,c4⟩:=G6 s k
 have C1:=Lib.hid c1;have C2:=Lib.hid c2;have C3:=Lib.hid c3;have C4:=Lib.hid c4
 clear c1 c2 c3 c4
 have b0:=gh s k;have b1:=gh s (k+1);have b2:=gh s (k+2);have b3:=gh s (k+3)
 go_enter Tryz.func284,Tryz.ntmps284
 go_wp2
 go_loopw [6] (λi wr=>∃L:Nat,1<=L/\L<=5/\i=.int .i64 L/\Below w.heap.size w wr/\Hid (∀j,1<=j->j<L->(nx (from_ s k)).2≠j)) (λi _=>5-(intOf i).toNat)
 case atStart=>exact⟨1,by omega,by omega,rfl,Below.refl _ _,λj _ _=>by omega⟩
 case round =>
  obtain⟨L,hL1,hL5,rfl,hB,H⟩:=hrel
  by_cases hlt:L<=4/\k+L<=s.size
  ·obtain⟨hL4,hkL⟩:=hlt
   rcases(by omega:L=1∨L=2∨L=3∨L=4) with rfl|rfl|rfl|rfl
   ·go_wp2
    go_rounds 1
    have his:=λW=>te (bn s k:Int) W
    have hby:=λW=>eZ (bn s k:Int) W
    have hyes:=jN s k 1 hL1 hkL
    have hno:=mh s k 1 hL1
    rw[C1.out]at hyes hno
    have Hyes:=Lib.hid hyes
    have Hno:=Lib.hid hno
    clear hyes hno C1 C2 C3 C4
    have e1:(k:Int)<=(k:Int)+1:=by omega
    have e2:(k:Int)+1<=(s.size:Int):=by omega
    by_cases hi:isB (bn s k:Int)=true
    ·replace hby:=λW=>hby W hi
     rw[hi]at his
     refine Rg.wp_region_plan [(true,[0]),(false,[1]),(true,[2,3,6,7,8,9,10,11]),(false,[4]),(false,[5]),(true,[12,13])] _ (by kernel_rfl) (by kernel_rfl)
      (by simp only[List.map_cons,List.map_nil,Rg.pickOps,List.getElem?_toArray,List.getElem?_cons_zero,List.getElem?_cons_succ,Option.getD_some];rfl) (λK hK=>?_)
     refine Rg.plan_quiet ?_
     go_big_quiet_step (fail)
     refine wpQuiet_nil (Rg.plan_chain ?_)
     intro W1 hW1
     go_wp2_with (go_at_call 327;refine(his _).mono ?_;rintro e w1 ⟨rfl,rfl⟩)
     refine⟨Below.refl _ _,Rg.plan_quiet ?_⟩
     iterate 8 go_big_quiet_step (fail)
     refine wpQuiet_nil (Rg.plan_chain ?_)
     intro W2 hW2
     go_wp2_with (go_at_call 328;refine(hby _).mono ?_;rintro e w2 ⟨g,rfl,hb2,hcv⟩)
     refine⟨hb2,Rg.plan_chain ?_⟩
     intro W3 hW3
     have hcv3:=hcv W3 hW3
     go_wp2_with fail
     refine⟨Below.refl _ _,Rg.plan_quiet ?_⟩
     iterate 2 go_big_quiet_step (fail)
     refine wpQuiet_nil (Rg.plan_end ?_)
     intro W4 hW4
     refine hK _ _ ?_
     clear hK hcv hcv3 hby his
     have hall:Below w.heap.size w W4:=hB.trans ((Rg.tr hW1 (Rg.tr hW2 (Rg.tr hb2 (Rg.tr hW3 hW4)))).mono hB.size)
     go_wp2
     ·have hq:((encS (bn s k:Int)).toList == (s.extract k (k+1)).toList)=true:=by assumption
      go_ret2
      refine⟨?_,hall⟩
      rw[Hyes.out hi hq]
      rw[bT]at hi
      simp only[Int.toNat_of_nonneg hi.1.1]
      rfl
     ·have hq:((encS (bn s k:Int)).toList == (s.extract k (k+1)).toList)=false:=by assumption
      have hn:=Hno.out (.inr hq)
      go_roundw
      case rel=>exact⟨1+1,by omega,by omega,by go_num,hall,λj h1 h2=>by
       rcases Nat.lt_or_ge j 1 with h|h
       ·exact H.out j h1 h
       ·have:j=1:=by omega
        subst this;exact hn⟩
      case measure=>simp[intOf]
    ·have hi:isB (bn s k:Int)=false:=by simpa using hi
     rw[hi]at his
     have hn:=Hno.out (.inl hi)
     refine Rg.wp_region_plan [(true,[0]),(false,[1]),(true,[2,3,6,7,8,9,10,11]),(false,[4]),(false,[5]),(true,[12,13])] _ (by kernel_rfl) (by kernel_rfl)
      (by simp only[List.map_cons,List.map_nil,Rg.pickOps,List.getElem?_toArray,List.getElem?_cons_zero,List.getElem?_cons_succ,Option.getD_some];rfl) (λK hK=>?_)
     refine Rg.plan_quiet ?_
     go_big_quiet_step (fail)
     refine wpQuiet_nil (Rg.plan_chain ?_)
     intro W1 hW1
     go_wp2_with (go_at_call 327;refine(his _).mono ?_;rintro e w1 ⟨rfl,rfl⟩)
     refine⟨Below.refl _ _,Rg.plan_quiet ?_⟩
     iterate 8 go_big_quiet_step (fail)
     refine wpQuiet_nil (Rg.plan_chain ?_)
     intro W2 hW2
     go_wp2_with fail
     refine⟨Below.refl _ _,Rg.plan_chain ?_⟩
     intro W3 hW3
     go_wp2_with fail
     refine⟨Below.refl _ _,Rg.plan_quiet ?_⟩
     iterate 2 go_big_quiet_step (fail)
     refine wpQuiet_nil (Rg.plan_end ?_)
     intro W4 hW4
     refine hK _ _ ?_
     clear hK hby his
     have hall:Below w.heap.size w W4:=hB.trans ((Rg.tr hW1 (Rg.tr hW2 (Rg.tr hW3 hW4))).mono hB.size)
     go_wp2
     go_roundw
     case rel=>exact⟨1+1,by omega,by omega,by go_num,hall,λj h1 h2=>by
      rcases Nat.lt_or_ge j 1 with h|h
      ·exact H.out j h1 h
      ·have:j=1:=by omega
       subst this;exact hn⟩
     case measure=>simp[intOf]
   ·go_wp2
    go_rounds 2
    have his:=λW=>te (64*((bn s k:Int)-192)+(bn s (k+1):Int)-128) W
    have hby:=λW=>eZ (64*((bn s k:Int)-192)+(bn s (k+1):Int)-128) W
    have hyes:=jN s k 2 hL1 hkL
    have hno:=mh s k 2 hL1
    rw[C2.out]at hyes hno
    have Hyes:=Lib.hid hyes
    have Hno:=Lib.hid hno
    clear hyes hno C1 C2 C3 C4
    have e1:(k:Int)<=(k:Int)+2:=by omega
    have e2:(k:Int)+2<=(s.size:Int):=by omega
    by_cases hi:isB (64*((bn s k:Int)-192)+(bn s (k+1):Int)-128)=true
    ·replace hby:=λW=>hby W hi
     rw[hi]at his
     refine Rg.wp_region_plan [(true,[0]),(false,[1]),(true,[2,3,6,7,8,9,10,11]),(false,[4]),(false,[5]),(true,[12,13])] _ (by kernel_rfl) (by kernel_rfl)
      (by simp only[List.map_cons,List.map_nil,Rg.pickOps,List.getElem?_toArray,List.getElem?_cons_zero,List.getElem?_cons_succ,Option.getD_some];rfl) (λK hK=>?_)
     refine Rg.plan_quiet ?_
     go_big_quiet_step (fail)
     refine wpQuiet_nil (Rg.plan_chain ?_)
     intro W1 hW1
     go_wp2_with (go_at_call 327;refine(his _).mono ?_;rintro e w1 ⟨rfl,rfl⟩)
     refine⟨Below.refl _ _,Rg.plan_quiet ?_⟩
     iterate 8 go_big_quiet_step (fail)
     refine wpQuiet_nil (Rg.plan_chain ?_)
     intro W2 hW2
     go_wp2_with (go_at_call 328;refine(hby _).mono ?_;rintro e w2 ⟨g,rfl,hb2,hcv⟩)
     refine⟨hb2,Rg.plan_chain ?_⟩
     intro W3 hW3
     have hcv3:=hcv W3 hW3
     go_wp2_with fail
     refine⟨Below.refl _ _,Rg.plan_quiet ?_⟩
     iterate 2 go_big_quiet_step (fail)
     refine wpQuiet_nil (Rg.plan_end ?_)
     intro W4 hW4
     refine hK _ _ ?_
     clear hK hcv hcv3 hby his
     have hall:Below w.heap.size w W4:=hB.trans ((Rg.tr hW1 (Rg.tr hW2 (Rg.tr hb2 (Rg.tr hW3 hW4)))).mono hB.size)
     go_wp2
     ·have hq:((encS (64*((bn s k:Int)-192)+(bn s (k+1):Int)-128)).toList == (s.extract k (k+2)).toList)=true:=by assumption
      go_ret2
      refine⟨?_,hall⟩
      rw[Hyes.out hi hq]
      rw[bT]at hi
      simp only[Int.toNat_of_nonneg hi.1.1]
      rfl
     ·have hq:((encS (64*((bn s k:Int)-192)+(bn s (k+1):Int)-128)).toList == (s.extract k (k+2)).toList)=false:=by assumption
      have hn:=Hno.out (.inr hq)
      go_roundw
      case rel=>exact⟨2+1,by omega,by omega,by go_num,hall,λj h1 h2=>by
       rcases Nat.lt_or_ge j 2 with h|h
       ·exact H.out j h1 h
       ·have:j=2:=by omega
        subst this;exact hn⟩
      case measure=>simp[intOf]
    ·have hi:isB (64*((bn s k:Int)-192)+(bn s (k+1):Int)-128)=false:=by simpa using hi
     rw[hi]at his
     have hn:=Hno.out (.inl hi)
     refine Rg.wp_region_plan [(true,[0]),(false,[1]),(true,[2,3,6,7,8,9,10,11]),(false,[4]),(false,[5]),(true,[12,13])] _ (by kernel_rfl) (by kernel_rfl)
      (by simp only[List.map_cons,List.map_nil,Rg.pickOps,List.getElem?_toArray,List.getElem?_cons_zero,List.getElem?_cons_succ,Option.getD_some];rfl) (λK hK=>?_)
     refine Rg.plan_quiet ?_
     go_big_quiet_step (fail)
     refine wpQuiet_nil (Rg.plan_chain ?_)
     intro W1 hW1
     go_wp2_with (go_at_call 327;refine(his _).mono ?_;rintro e w1 ⟨rfl,rfl⟩)
     refine⟨Below.refl _ _,Rg.plan_quiet ?_⟩
     iterate 8 go_big_quiet_step (fail)
     refine wpQuiet_nil (Rg.plan_chain ?_)
     intro W2 hW2
     go_wp2_with fail
     refine⟨Below.refl _ _,Rg.plan_chain ?_⟩
     intro W3 hW3
     go_wp2_with fail
     refine⟨Below.refl _ _,Rg.plan_quiet ?_⟩
     iterate 2 go_big_quiet_step (fail)
     refine wpQuiet_nil (Rg.plan_end ?_)
     intro W4 hW4
     refine hK _ _ ?_
     clear hK hby his
     have hall:Below w.heap.size w W4:=hB.trans ((Rg.tr hW1 (Rg.tr hW2 (Rg.tr hW3 hW4))).mono hB.size)
     go_wp2
     go_roundw
     case rel=>exact⟨2+1,by omega,by omega,by go_num,hall,λj h1 h2=>by
      rcases Nat.lt_or_ge j 2 with h|h
      ·exact H.out j h1 h
      ·have:j=2:=by omega
       subst this;exact hn⟩
     case measure=>simp[intOf]
   ·go_wp2
    go_rounds 3
    have his:=λW=>te (64*(64*((bn s k:Int)-224)+(bn s (k+1):Int)-128)+(bn s (k+2):Int)-128) W
    have hby:=λW=>eZ (64*(64*((bn s k:Int)-224)+(bn s (k+1):Int)-128)+(bn s (k+2):Int)-128) W
    have hyes:=jN s k 3 hL1 hkL
    have hno:=mh s k 3 hL1
    rw[C3.out]at hyes hno
    have Hyes:=Lib.hid hyes
    have Hno:=Lib.hid hno
    clear hyes hno C1 C2 C3 C4
    have e1:(k:Int)<=(k:Int)+3:=by omega
    have e2:(k:Int)+3<=(s.size:Int):=by omega
    by_cases hi:isB (64*(64*((bn s k:Int)-224)+(bn s (k+1):Int)-128)+(bn s (k+2):Int)-128)=true
    ·replace hby:=λW=>hby W hi
     rw[hi]at his
     refine Rg.wp_region_plan [(true,[0]),(false,[1]),(true,[2,3,6,7,8,9,10,11]),(false,[4]),(false,[5]),(true,[12,13])] _ (by kernel_rfl) (by kernel_rfl)
      (by simp only[List.map_cons,List.map_nil,Rg.pickOps,List.getElem?_toArray,List.getElem?_cons_zero,List.getElem?_cons_succ,Option.getD_some];rfl) (λK hK=>?_)
     refine Rg.plan_quiet ?_
     go_big_quiet_step (fail)
     refine wpQuiet_nil (Rg.plan_chain ?_)
     intro W1 hW1
     go_wp2_with (go_at_call 327;refine(his _).mono ?_;rintro e w1 ⟨rfl,rfl⟩)
     refine⟨Below.refl _ _,Rg.plan_quiet ?_⟩
     iterate 8 go_big_quiet_step (fail)
     refine wpQuiet_nil (Rg.plan_chain ?_)
     intro W2 hW2
     go_wp2_with (go_at_call 328;refine(hby _).mono ?_;rintro e w2 ⟨g,rfl,hb2,hcv⟩)
     refine⟨hb2,Rg.plan_chain ?_⟩
     intro W3 hW3
     have hcv3:=hcv W3 hW3
     go_wp2_with fail
     refine⟨Below.refl _ _,Rg.plan_quiet ?_⟩
     iterate 2 go_big_quiet_step (fail)
     refine wpQuiet_nil (Rg.plan_end ?_)
     intro W4 hW4
     refine hK _ _ ?_
     clear hK hcv hcv3 hby his
     have hall:Below w.heap.size w W4:=hB.trans ((Rg.tr hW1 (Rg.tr hW2 (Rg.tr hb2 (Rg.tr hW3 hW4)))).mono hB.size)
     go_wp2
     ·have hq:((encS (64*(64*((bn s k:Int)-224)+(bn s (k+1):Int)-128)+(bn s (k+2):Int)-128)).toList == (s.extract k (k+3)).toList)=true:=by assumption
      go_ret2
      refine⟨?_,hall⟩
      rw[Hyes.out hi hq]
      rw[bT]at hi
      simp only[Int.toNat_of_nonneg hi.1.1]
      rfl
     ·have hq:((encS (64*(64*((bn s k:Int)-224)+(bn s (k+1):Int)-128)+(bn s (k+2):Int)-128)).toList == (s.extract k (k+3)).toList)=false:=by assumption
      have hn:=Hno.out (.inr hq)
      go_roundw
      case rel=>exact⟨3+1,by omega,by omega,by go_num,hall,λj h1 h2=>by
       rcases Nat.lt_or_ge j 3 with h|h
       ·exact H.out j h1 h
       ·have:j=3:=by omega
        subst this;exact hn⟩
      case measure=>simp[intOf]
    ·have hi:isB (64*(64*((bn s k:Int)-224)+(bn s (k+1):Int)-128)+(bn s (k+2):Int)-128)=false:=by simpa using hi
     rw[hi]at his
     have hn:=Hno.out (.inl hi)
     refine Rg.wp_region_plan [(true,[0]),(false,[1]),(true,[2,3,6,7,8,9,10,11]),(false,[4]),(false,[5]),(true,[12,13])] _ (by kernel_rfl) (by kernel_rfl)
      (by simp only[List.map_cons,List.map_nil,Rg.pickOps,List.getElem?_toArray,List.getElem?_cons_zero,List.getElem?_cons_succ,Option.getD_some];rfl) (λK hK=>?_)
     refine Rg.plan_quiet ?_
     go_big_quiet_step (fail)
     refine wpQuiet_nil (Rg.plan_chain ?_)
     intro W1 hW1
     go_wp2_with (go_at_call 327;refine(his _).mono ?_;rintro e w1 ⟨rfl,rfl⟩)
     refine⟨Below.refl _ _,Rg.plan_quiet ?_⟩
     iterate 8 go_big_quiet_step (fail)
     refine wpQuiet_nil (Rg.plan_chain ?_)
     intro W2 hW2
     go_wp2_with fail
     refine⟨Below.refl _ _,Rg.plan_chain ?_⟩
     intro W3 hW3
     go_wp2_with fail
     refine⟨Below.refl _ _,Rg.plan_quiet ?_⟩
     iterate 2 go_big_quiet_step (fail)
     refine wpQuiet_nil (Rg.plan_end ?_)
     intro W4 hW4
     refine hK _ _ ?_
     clear hK hby his
     have hall:Below w.heap.size w W4:=hB.trans ((Rg.tr hW1 (Rg.tr hW2 (Rg.tr hW3 hW4))).mono hB.size)
     go_wp2
     go_roundw
     case rel=>exact⟨3+1,by omega,by omega,by go_num,hall,λj h1 h2=>by
      rcases Nat.lt_or_ge j 3 with h|h
      ·exact H.out j h1 h
      ·have:j=3:=by omega
       subst this;exact hn⟩
     case measure=>simp[intOf]
   ·go_wp2
    go_rounds 4
    have his:=λW=>te (64*(64*(64*((bn s k:Int)-240)+(bn s (k+1):Int)-128)+(bn s (k+2):Int)-128)+(bn s (k+3):Int)-128) W
    have hby:=λW=>eZ (64*(64*(64*((bn s k:Int)-240)+(bn s (k+1):Int)-128)+(bn s (k+2):Int)-128)+(bn s (k+3):Int)-128) W
    have hyes:=jN s k 4 hL1 hkL
    have hno:=mh s k 4 hL1
    rw[C4.out]at hyes hno
    have Hyes:=Lib.hid hyes
    have Hno:=Lib.hid hno
    clear hyes hno C1 C2 C3 C4
    have e1:(k:Int)<=(k:Int)+4:=by omega
    have e2:(k:Int)+4<=(s.size:Int):=by omega
    by_cases hi:isB (64*(64*(64*((bn s k:Int)-240)+(bn s (k+1):Int)-128)+(bn s (k+2):Int)-128)+(bn s (k+3):Int)-128)=true
    ·replace hby:=λW=>hby W hi
     rw[hi]at his
     refine Rg.wp_region_plan [(true,[0]),(false,[1]),(true,[2,3,6,7,8,9,10,11]),(false,[4]),(false,[5]),(true,[12,13])] _ (by kernel_rfl) (by kernel_rfl)
      (by simp only[List.map_cons,List.map_nil,Rg.pickOps,List.getElem?_toArray,List.getElem?_cons_zero,List.getElem?_cons_succ,Option.getD_some];rfl) (λK hK=>?_)
     refine Rg.plan_quiet ?_
     go_big_quiet_step (fail)
     refine wpQuiet_nil (Rg.plan_chain ?_)
     intro W1 hW1
     go_wp2_with (go_at_call 327;refine(his _).mono ?_;rintro e w1 ⟨rfl,rfl⟩)
     refine⟨Below.refl _ _,Rg.plan_quiet ?_⟩
     iterate 8 go_big_quiet_step (fail)
     refine wpQuiet_nil (Rg.plan_chain ?_)
     intro W2 hW2
     go_wp2_with (go_at_call 328;refine(hby _).mono ?_;rintro e w2 ⟨g,rfl,hb2,hcv⟩)
     refine⟨hb2,Rg.plan_chain ?_⟩
     intro W3 hW3
     have hcv3:=hcv W3 hW3
     go_wp2_with fail
     refine⟨Below.refl _ _,Rg.plan_quiet ?_⟩
     iterate 2 go_big_quiet_step (fail)
     refine wpQuiet_nil (Rg.plan_end ?_)
     intro W4 hW4
     refine hK _ _ ?_
     clear hK hcv hcv3 hby his
     have hall:Below w.heap.size w W4:=hB.trans ((Rg.tr hW1 (Rg.tr hW2 (Rg.tr hb2 (Rg.tr hW3 hW4)))).mono hB.size)
     go_wp2
     ·have hq:((encS (64*(64*(64*((bn s k:Int)-240)+(bn s (k+1):Int)-128)+(bn s (k+2):Int)-128)+(bn s (k+3):Int)-128)).toList == (s.extract k (k+4)).toList)=true:=by assumption
      go_ret2
      refine⟨?_,hall⟩
      rw[Hyes.out hi hq]
      rw[bT]at hi
      simp only[Int.toNat_of_nonneg hi.1.1]
      rfl
     ·have hq:((encS (64*(64*(64*((bn s k:Int)-240)+(bn s (k+1):Int)-128)+(bn s (k+2):Int)-128)+(bn s (k+3):Int)-128)).toList == (s.extract k (k+4)).toList)=false:=by assumption
      have hn:=Hno.out (.inr hq)
      go_roundw
      case rel=>exact⟨4+1,by omega,by omega,by go_num,hall,λj h1 h2=>by
       rcases Nat.lt_or_ge j 4 with h|h
       ·exact H.out j h1 h
       ·have:j=4:=by omega
        subst this;exact hn⟩
      case measure=>simp[intOf]
    ·have hi:isB (64*(64*(64*((bn s k:Int)-240)+(bn s (k+1):Int)-128)+(bn s (k+2):Int)-128)+(bn s (k+3):Int)-128)=false:=by simpa using hi
     rw[hi]at his
     have hn:=Hno.out (.inl hi)
     refine Rg.wp_region_plan [(true,[0]),(false,[1]),(true,[2,3,6,7,8,9,10,11]),(false,[4]),(false,[5]),(true,[12,13])] _ (by kernel_rfl) (by kernel_rfl)
      (by simp only[List.map_cons,List.map_nil,Rg.pickOps,List.getElem?_toArray,List.getElem?_cons_zero,List.getElem?_cons_succ,Option.getD_some];rfl) (λK hK=>?_)
     refine Rg.plan_quiet ?_
     go_big_quiet_step (fail)
     refine wpQuiet_nil (Rg.plan_chain ?_)
     intro W1 hW1
     go_wp2_with (go_at_call 327;refine(his _).mono ?_;rintro e w1 ⟨rfl,rfl⟩)
     refine⟨Below.refl _ _,Rg.plan_quiet ?_⟩
     iterate 8 go_big_quiet_step (fail)
     refine wpQuiet_nil (Rg.plan_chain ?_)
     intro W2 hW2
     go_wp2_with fail
     refine⟨Below.refl _ _,Rg.plan_chain ?_⟩
     intro W3 hW3
     go_wp2_with fail
     refine⟨Below.refl _ _,Rg.plan_quiet ?_⟩
     iterate 2 go_big_quiet_step (fail)
     refine wpQuiet_nil (Rg.plan_end ?_)
     intro W4 hW4
     refine hK _ _ ?_
     clear hK hby his
     have hall:Below w.heap.size w W4:=hB.trans ((Rg.tr hW1 (Rg.tr hW2 (Rg.tr hW3 hW4))).mono hB.size)
     go_wp2
     go_roundw
     case rel=>exact⟨4+1,by omega,by omega,by go_num,hall,λj h1 h2=>by
      rcases Nat.lt_or_ge j 4 with h|h
      ·exact H.out j h1 h
      ·have:j=4:=by omega
       subst this;exact hn⟩
     case measure=>simp[intOf]
  ·have hend:nx (from_ s k)=(0,0):=by
    have hl:=cZ s k
    by_cases h0:(nx (from_ s k)).2=0
    ·have:nx (from_ s k)=(0,0):=by
      unfold nx at h0 ⊢
      split at h0
      ·rename_i h;rw[if_pos h]
      ·rename_i h
       rw[if_neg h]
       split at h0
       ·rename_i h';rw[if_pos h']
       ·exfalso
        have:=gQ (from_ s k).length ((from_ s k).getD 0 0).toNat ((from_ s k).getD 1 0).toNat ((from_ s k).getD 2 0).toNat ((from_ s k).getD 3 0).toNat
        omega
     exact this
    ·have h1:=ra (from_ s k) h0
     exact absurd rfl (H.out (nx (from_ s k)).2 (by omega) (by omega))
   have Hend:=Lib.hid hend
   clear hend H C1 C2 C3 C4
   by_cases h4:L<=4
   ·go_wp2
    go_ret2
    exact⟨by rw[Hend.out];rfl,hB⟩
   ·go_wp2
    go_ret2
    exact⟨by rw[Hend.out];rfl,hB⟩
end Go.Proofs.YtfcbghmbbjolcaaGreatDoor
