/- The program's package lines: Split, whole. -/
import Derived.Test.YtffpgandgajihaaGreatDoorJLn13
import Derived.Stop.RegionWithIn
namespace Go.Proofs.YtffpgandgajihaaGreatDoor
open Go Go.RowKit Go.Maps Go.ChangeMaps Go.Shelf Um Fm Lx Tx
attribute [local go_sem] Oper.semAt_some

theorem strLines (s : ByteArray) (w : World) : Calls Tryz.prog 25 #[.string s] w fun e w' => e = .returned (.func (.func 44) #[] #[.pointer (some ⟨w.heap.size, 0, none⟩)]) ∧ w.alloc (.cells #[.string s] 9) = w' := by
  go_enter Tryz.func25, Tryz.ntmps25
  go_wp2
  go_ret
  exact ⟨rfl, rfl⟩
theorem repB (s old : ByteArray) (w : World) (hC : Ctx w) (hs : s.size ≤ 1000000) (h1 : 1 ≤ old.size) :
    Calls Tryz.prog 24 #[.string s, .string old, .string ⟨#[10]⟩] w fun e w' => e = .returned (.string (mkS (Lib.replaceAll s.data.toList old.data.toList [10]))) ∧ Below w.heap.size w w' := by
  obtain ⟨m, hm⟩ := hC.maxl
  have hc := Lib.countB_le old h1 s.size s (Nat.le_refl _)
  have e10 : (⟨#[10]⟩ : ByteArray).size = 1 := rfl
  exact Tryz.strings_ReplaceAll s old ⟨#[10]⟩ m w (by omega) hm h1 (by rw [e10]; omega)
theorem info_str : (Tryz.prog.info? 9).map (fun i => (i.zero, i.size, i.bytes)) = some (some (.string ⟨#[]⟩), 1, 16) := by kernel_rfl
/-- What Split says. -/
def SplitR (l : List UInt8) (w : World) (e : Ending) (w' : World) : Prop := ∃ v, e = .returned v ∧ w'.ownsRow w.heap.size 9 1 v (splitL l).length ((splitL l).map fun r => Value.string (mkS r)) ∧ Below w.heap.size w w'
set_option maxRecDepth 100000 in
set_option maxHeartbeats 4000000 in
theorem linesSplit (s : ByteArray) (w : World) (hC : Ctx w) (hs : s.size ≤ 100000) : Calls Tryz.prog 9 #[.string s] w (SplitR s.data.toList w) := by
  have hB0 : Below w.heap.size w (w.alloc (.cells #[.slice none 0 0] 27)) := (Below.refl _ w).alloc (Nat.le_refl _) _
  have hx0 : Boxed (w.alloc (.cells #[.slice none 0 0] 27)) w.heap.size 27 (.slice none 0 0) := Boxed.new w _ _
  have hr1 := repB s ⟨#[13, 10]⟩ _ (hC.step hB0) (by omega) (by decide)
  have hl1 : (mkS (Lib.replaceAll s.data.toList [13, 10] [10])).size ≤ s.size := by
    rw [mkS_size, rep_crlf, ← size_toList]; exact crlf_size _
  have hr2 := fun W (hC : Ctx W) => repB (mkS (Lib.replaceAll s.data.toList [13, 10] [10])) ⟨#[13]⟩ W hC (by omega) (by decide)
  have hN : Hid (Lib.replaceAll (mkS (Lib.replaceAll s.data.toList [13, 10] [10])).data.toList [13] [10] = normL s.data.toList) := by
    show _ = _
    rw [← norm_eq]
  have hnl : (normL s.data.toList).length ≤ 100000 := Nat.le_trans (norm_size _) (by rw [size_toList]; exact hs)
  have HC := Lib.hid hC
  have HB0 := Lib.hid hB0
  have HX0 := Lib.hid hx0
  have hsl : Hid (splitL s.data.toList = cutL (normL s.data.toList)) := rfl
  clear hB0 hx0 hC
  refine (callsIn_wide (n := 5)).1 ?_
  refine callsIn_of_wp_marks Tryz.func9 rfl trivial ?_ rfl
  simp only [Tryz.ntmps9, List.size_toArray, List.length_cons, List.length_nil, Nat.reduceAdd, Nat.reduceSub, Array.replicate_succ, Array.replicate_zero, List.push_toArray, List.append_toArray, List.nil_append, List.cons_append]
  gi_wp2_with fail
  refine ⟨trivial, ?_⟩
  refine (callsIn_wide.2 hr1).mono ?_
  rintro e W1 ⟨rfl, b1⟩
  have HB1 := Lib.hid (below_tr HB0.out b1)
  have HX1 : Hid (Boxed W1 w.heap.size 27 (.slice none 0 0)) := below_blk b1 HX0.out
  have hr2 := hr2 W1 (HC.out.step HB1.out)
  have hN' := hN.out
  clear b1
  gi_wp2_with fail
  refine ⟨trivial, ?_⟩
  refine (callsIn_wide.2 hr2).mono ?_
  rintro e W2 ⟨rfl, b2⟩
  rw [hN']
  have HB2 := Lib.hid (below_tr HB1.out b2)
  have HX2 : Hid (Boxed W2 w.heap.size 27 (.slice none 0 0)) := below_blk b2 HX1.out
  have hln := strLines (mkS (normL s.data.toList)) W2
  clear b2 hN' hr1
  gi_wp2_with fail
  refine ⟨trivial, ?_⟩
  refine (callsIn_wide.2 hln).mono ?_
  rintro e W3 ⟨rfl, hW3⟩
  have hb3 : Below W2.heap.size W2 W3 := hW3 ▸ (Below.refl _ _).alloc (Nat.le_refl _) _
  have hS3 : Boxed W3 W2.heap.size 9 (.string (mkS (normL s.data.toList))) := hW3 ▸ Boxed.new W2 _ _
  have hz3 : W3.heap.size = W2.heap.size + 1 := by rw [← hW3]; simp
  have hB3 := below_tr HB2.out hb3
  have hX3 : Boxed W3 w.heap.size 27 (.slice none 0 0) := below_blk hb3 HX2.out
  have hwz : w.heap.size < W2.heap.size := HX2.out.lt
  clear hW3 hln hr2
  gi_wp2
  generalize W2.heap.size = bS at *
  refine wpIn_range_st (F := Fence.wide) (n := 5) rfl ?h1 (gf := 44) (lb := #[.pointer (some ⟨bS, 0, none⟩)]) rfl trivial (enters_of Tryz.func44 (by kernel_rfl) rfl)
    (fun x : ByteArray => #[.string x]) ?hps
    (LnI bS 100000 ((cutL (normL s.data.toList)).map mkS) (OutI w w.heap.size W3.heap.size))
    (LnJ bS 100000 ((cutL (normL s.data.toList)).map mkS) (OutI w w.heap.size W3.heap.size))
    (fun xs => xs.map trimB = (cutL (normL s.data.toList)).map mkS) ?hI ?hJ ?h0
    (fun x => { tmps := #[.string (mkS (normL s.data.toList)), undef, .pointer (some ⟨w.heap.size, 0, none⟩), .string x, .string s, .string (mkS (Lib.replaceAll s.data.toList [13, 10] [10])), .string (mkS (normL s.data.toList)), .string (mkS (normL s.data.toList)), .func (.func 44) #[] #[.pointer (some ⟨bS, 0, none⟩)], .string x, undef, undef, undef, undef, undef, undef], defers := [] })
    ?assign ?body ?iter ?done
  case h1 => omega
  case hps => intro x; rfl
  case hI =>
    rintro pre u A B row ⟨r, hb, hr, ht, ⟨v, hv, ho⟩, hB, hbs⟩ hg hrow
    have hnc : ∀ k, A.heap[k]?.map Obj.isCells = some true → some k ≠ row := fun k hk e => by
      obtain ⟨_, o, ho', hc⟩ := hrow k e.symm
      rw [ho'] at hk
      simp [hc] at hk
    refine ⟨r, hb.kept hg (hnc _ (by rw [show A.heap[bS]? = _ from hb]; rfl)), hr, ht, ⟨v, hv.kept hg (hnc _ (by rw [show A.heap[w.heap.size]? = _ from hv]; rfl)), ?_⟩, hB.grown hg hB.size (fun k e => by have := (hrow k e).1; omega), Nat.le_trans hbs hg.size⟩
    refine ho.kept hg ?_
    rcases ho.2 with ⟨rfl, _⟩ | ⟨g, cap, cur, rfl, _, hgb, _⟩
    · exact .inl rfl
    · exact .inr fun e => hnc g (by rw [hgb]; rfl) (by simpa [Value.ownBlock] using e)
  case hJ =>
    rintro pre x u A B row ⟨r, hb, hr, hx, ht, ⟨v, hv, ho⟩, hB, hbs⟩ hg hrow
    have hnc : ∀ k, A.heap[k]?.map Obj.isCells = some true → some k ≠ row := fun k hk e => by
      obtain ⟨_, o, ho', hc⟩ := hrow k e.symm
      rw [ho'] at hk
      simp [hc] at hk
    refine ⟨r, hb.kept hg (hnc _ (by rw [show A.heap[bS]? = _ from hb]; rfl)), hr, hx, ht, ⟨v, hv.kept hg (hnc _ (by rw [show A.heap[w.heap.size]? = _ from hv]; rfl)), ?_⟩, hB.grown hg hB.size (fun k e => by have := (hrow k e).1; omega), Nat.le_trans hbs hg.size⟩
    refine ho.kept hg ?_
    rcases ho.2 with ⟨rfl, _⟩ | ⟨g, cap, cur, rfl, _, hgb, _⟩
    · exact .inl rfl
    · exact .inr fun e => hnc g (by rw [hgb]; rfl) (by simpa [Value.ownBlock] using e)
  case h0 => exact ⟨_, hS3, hnl, rfl, ⟨_, hX3, World.ownsRow_nil _ _ _ _⟩, hB3, Nat.le_refl _⟩
  case assign =>
    intro l x W K hK
    have e : ∀ (b : Array Value) (v : Value), (#[9].zip #[v]).foldl (fun t (p, v) => t.setIfInBounds p v) b = b.setIfInBounds 9 v := fun b v => by simp
    rw [e]
    gi_wp2
    exact hK
  case body =>
    rintro l pre x W ⟨r, hb, hr, hx, ht, ⟨v, hv, ho⟩, hB, hbs⟩
    rw [hz3] at ho hbs
    have hts := Tryz.strings_TrimSuffix x ⟨#[10]⟩
    have hxs : x.size ≤ 9223372036854775807 := Nat.le_trans hx (by decide)
    have c0 := hv.cell
    have f0 := hv.frozen
    have hzW := hv.lt
    have hpl : pre.length ≤ 100000 := by
      have h1 := congrArg List.length ht
      simp only [List.length_append, List.length_map, List.length_cons, List.length_nil] at h1
      have h2 := (cut_size (normL s.data.toList)).1
      omega
    have own0 : (W.drew.alloc (.cells #[.string (trimB x)] 9)).ownsRow (bS + 1) 9 1 v pre.length ((pre.map trimB).map Value.string) := own_below ho ((Below.refl W.heap.size W).drew.alloc (Nat.le_refl _) _) (Nat.le_refl _)
    have hnew : ∀ (j : Nat) (u : Value), [Value.string (trimB x)][j]? = some u → (W.drew.alloc (.cells #[.string (trimB x)] 9)).cell? ((⟨W.heap.size, 0, none⟩ : Addr).add j) = some u := by
      intro j u hu
      rw [add_zero_spot, Nat.zero_add, World.cell?, show (W.drew.alloc (.cells #[.string (trimB x)] 9)).heap[W.heap.size]? = _ from heap_alloc_new W.drew _]
      simpa using hu
    have hbs0 : bS + 1 ≤ (W.drew.alloc (.cells #[.string (trimB x)] 9)).heap.size := by
      have : (W.drew.alloc (.cells #[.string (trimB x)] 9)).heap.size = W.heap.size + 1 := by simp
      omega
    have HV : Hid (Boxed W.drew w.heap.size 27 v) := hv
    have HO : Hid (W.drew.ownsRow (bS + 1) 9 1 v pre.length ((pre.map trimB).map Value.string)) := own_below ho (Below.refl W.heap.size W).drew (Nat.le_refl _)
    have htx : Hid (mkS (Lib.trimSuffix x.data.toList [10]) = trimB x) := rfl
    obtain ⟨i, hi, hz, hsize, hby⟩ := info_parts info_str
    have hfin : ∀ (A4 : Option Addr) (c4 : Nat) (w4 : World), w4.ownsRow (bS + 1) 9 1 (.slice A4 (pre.length + 1) c4) (pre.length + 1) ((pre.map trimB).map Value.string ++ [.string (trimB x)]) → (W.drew.alloc (.cells #[.string (trimB x)] 9)).grownBy w4 v.ownBlock →
        Boxed (w4.setCell ⟨w.heap.size, 0, none⟩ (.slice A4 (pre.length + 1) c4)) w.heap.size 27 (.slice A4 (pre.length + 1) c4) → KeepsOthers W.drew (w4.setCell ⟨w.heap.size, 0, none⟩ (.slice A4 (pre.length + 1) c4)) → Below w.heap.size W.drew (w4.setCell ⟨w.heap.size, 0, none⟩ (.slice A4 (pre.length + 1) c4)) →
        KeepsOthers W (w4.setCell ⟨w.heap.size, 0, none⟩ (.slice A4 (pre.length + 1) c4)) ∧ LnI bS 100000 ((cutL (normL s.data.toList)).map mkS) (OutI w w.heap.size (bS + 1)) (pre ++ [x]) (w4.setCell ⟨w.heap.size, 0, none⟩ (.slice A4 (pre.length + 1) c4)) := by
      intro A4 c4 w4 own4 hg4 q2 q4 q5
      have hown5 : (w4.setCell ⟨w.heap.size, 0, none⟩ (.slice A4 (pre.length + 1) c4)).ownsRow (bS + 1) 9 1 (.slice A4 (pre.length + 1) c4) (pre.length + 1) ((pre.map trimB).map Value.string ++ [.string (trimB x)]) := own4.kept (grownBy_setCell' w4 w.heap.size _) (.inr (fun e => by
        have h2 := (own4.lt w.heap.size e).1
        omega))
      have hbS : Boxed (w4.setCell ⟨w.heap.size, 0, none⟩ (.slice A4 (pre.length + 1) c4)) bS 9 (.string (mkS r)) := by
        have h1 : Boxed (W.drew.alloc (.cells #[.string (trimB x)] 9)) bS 9 (.string (mkS r)) := Boxed.alloc (W := W.drew) hb _
        have h2 := h1.kept hg4 (fun e => by
          have h2 := (own0.lt bS e.symm).1
          omega)
        exact h2.kept (grownBy_setCell' w4 w.heap.size _) (fun e => by injection e with e; omega)
      refine ⟨(KeepsOthers.drew W).trans q4, r, hbS, hr, ht, ⟨_, q2, ?_⟩, hB.trans ((Below.drew (Below.refl _ W)).trans q5), ?_⟩
      · rw [List.length_append, List.map_append, List.map_append]
        exact hown5
      · have h1 := q4.size
        exact Nat.le_trans hbs h1
    gi_wp2_with fail
    refine wpIn_region_any (by kernel_rfl) ?_
    change wpAnyIn _ _ _ _ _ _ _ _ _ (World.drew _)
    -- REGION BEGIN
    refine wpAnyIn_ready (rs := [0, 1]) (by kernel_rfl) (by simp) ?_
    refine AllReadyIn.cons rfl (fun K hK => ?_) (AllReadyIn.cons rfl (fun K hK => ?_) AllReadyIn.nil)
    · go_simp
      refine hK _ _ ?_
      clear hK K
      refine wpAnyIn_ready (rs := [1]) (by kernel_rfl) (by simp) ?_
      refine AllReadyIn.cons rfl (fun K hK => ?_) AllReadyIn.nil
      go_simp
      refine hK _ _ ?_
      clear hK K
      refine wpAnyIn_ready (rs := [2]) (by kernel_rfl) (by simp) ?_
      refine AllReadyIn.cons rfl (fun K hK => ?_) AllReadyIn.nil
      go_simp
      gi_wp2_with (refine ⟨trivial, ?_⟩; gi_at_call 26; refine (CallsIn.inRound l (callsIn_wide.2 (hts _ hxs))).mono ?_; rintro e W5 ⟨rfl, hW5⟩; subst hW5)
      refine wpAnyIn_ready (rs := [3]) (by kernel_rfl) (by simp) ?_
      refine AllReadyIn.cons rfl (fun K hK => ?_) AllReadyIn.nil
      go_simp
      refine hK _ _ ?_
      clear hK K
      refine wpAnyIn_ready (rs := [4]) (by kernel_rfl) (by simp) ?_
      refine allReadyIn_op (opIn_append rfl rfl _ _ 27 rfl (bS + 1) 9 i _ 1 16 Tryz.underlying27 hi hz hsize hby rfl (by omega) _ pre.length ((pre.map trimB).map Value.string) rfl own0 ⟨W.heap.size, 0, none⟩ 1 1 [.string (trimB x)] rfl rfl hnew (by intro u hu; simp at hu; subst hu; rfl) (by unfold maxLen; omega) (by omega) hbs0 ?_)
      intro v4 w4 own4 hg4
      obtain ⟨A4, c4, rfl, _, _⟩ := own_slice own4
      obtain ⟨q1, q2, q3, q4, q5⟩ := Boxed.appended (W := W.drew) (n₀ := w.heap.size) (B := w.heap.size) HV.out (by decide) (own_downL HO.out (by omega)) (Nat.le_trans (by omega) hbs) (Nat.le_refl _) (own_downL own4 (by omega)) hg4
      have g0 := q1.cell
      have g1 := q1.frozen
      refine wpAnyIn_ready (rs := [5]) (by kernel_rfl) (by simp) ?_
      refine AllReadyIn.cons rfl (fun K hK => ?_) AllReadyIn.nil
      go_simp
      refine hK _ _ ?_
      clear hK K
      refine wpAnyIn_done (by kernel_rfl) ?_ _
      exact hfin A4 c4 w4 own4 hg4 q2 q4 q5
    · go_simp
      refine hK _ _ ?_
      clear hK K
      refine wpAnyIn_ready (rs := [0, 2]) (by kernel_rfl) (by simp) ?_
      refine AllReadyIn.cons rfl (fun K hK => ?_) (AllReadyIn.cons rfl (fun K hK => ?_) AllReadyIn.nil)
      · go_simp
        refine hK _ _ ?_
        clear hK K
        refine wpAnyIn_ready (rs := [2]) (by kernel_rfl) (by simp) ?_
        refine AllReadyIn.cons rfl (fun K hK => ?_) AllReadyIn.nil
        go_simp
        gi_wp2_with (refine ⟨trivial, ?_⟩; gi_at_call 26; refine (CallsIn.inRound l (callsIn_wide.2 (hts _ hxs))).mono ?_; rintro e W5 ⟨rfl, hW5⟩; subst hW5)
        refine wpAnyIn_ready (rs := [3]) (by kernel_rfl) (by simp) ?_
        refine AllReadyIn.cons rfl (fun K hK => ?_) AllReadyIn.nil
        go_simp
        refine hK _ _ ?_
        clear hK K
        refine wpAnyIn_ready (rs := [4]) (by kernel_rfl) (by simp) ?_
        refine allReadyIn_op (opIn_append rfl rfl _ _ 27 rfl (bS + 1) 9 i _ 1 16 Tryz.underlying27 hi hz hsize hby rfl (by omega) _ pre.length ((pre.map trimB).map Value.string) rfl own0 ⟨W.heap.size, 0, none⟩ 1 1 [.string (trimB x)] rfl rfl hnew (by intro u hu; simp at hu; subst hu; rfl) (by unfold maxLen; omega) (by omega) hbs0 ?_)
        intro v4 w4 own4 hg4
        obtain ⟨A4, c4, rfl, _, _⟩ := own_slice own4
        obtain ⟨q1, q2, q3, q4, q5⟩ := Boxed.appended (W := W.drew) (n₀ := w.heap.size) (B := w.heap.size) HV.out (by decide) (own_downL HO.out (by omega)) (Nat.le_trans (by omega) hbs) (Nat.le_refl _) (own_downL own4 (by omega)) hg4
        have g0 := q1.cell
        have g1 := q1.frozen
        refine wpAnyIn_ready (rs := [5]) (by kernel_rfl) (by simp) ?_
        refine AllReadyIn.cons rfl (fun K hK => ?_) AllReadyIn.nil
        go_simp
        refine hK _ _ ?_
        clear hK K
        refine wpAnyIn_done (by kernel_rfl) ?_ _
        exact hfin A4 c4 w4 own4 hg4 q2 q4 q5
      · go_simp
        gi_wp2_with (refine ⟨trivial, ?_⟩; gi_at_call 26; refine (CallsIn.inRound l (callsIn_wide.2 (hts _ hxs))).mono ?_; rintro e W5 ⟨rfl, hW5⟩; subst hW5)
        refine wpAnyIn_ready (rs := [0, 3]) (by kernel_rfl) (by simp) ?_
        refine AllReadyIn.cons rfl (fun K hK => ?_) (AllReadyIn.cons rfl (fun K hK => ?_) AllReadyIn.nil)
        · go_simp
          refine hK _ _ ?_
          clear hK K
          refine wpAnyIn_ready (rs := [3]) (by kernel_rfl) (by simp) ?_
          refine AllReadyIn.cons rfl (fun K hK => ?_) AllReadyIn.nil
          go_simp
          refine hK _ _ ?_
          clear hK K
          refine wpAnyIn_ready (rs := [4]) (by kernel_rfl) (by simp) ?_
          refine allReadyIn_op (opIn_append rfl rfl _ _ 27 rfl (bS + 1) 9 i _ 1 16 Tryz.underlying27 hi hz hsize hby rfl (by omega) _ pre.length ((pre.map trimB).map Value.string) rfl own0 ⟨W.heap.size, 0, none⟩ 1 1 [.string (trimB x)] rfl rfl hnew (by intro u hu; simp at hu; subst hu; rfl) (by unfold maxLen; omega) (by omega) hbs0 ?_)
          intro v4 w4 own4 hg4
          obtain ⟨A4, c4, rfl, _, _⟩ := own_slice own4
          obtain ⟨q1, q2, q3, q4, q5⟩ := Boxed.appended (W := W.drew) (n₀ := w.heap.size) (B := w.heap.size) HV.out (by decide) (own_downL HO.out (by omega)) (Nat.le_trans (by omega) hbs) (Nat.le_refl _) (own_downL own4 (by omega)) hg4
          have g0 := q1.cell
          have g1 := q1.frozen
          refine wpAnyIn_ready (rs := [5]) (by kernel_rfl) (by simp) ?_
          refine AllReadyIn.cons rfl (fun K hK => ?_) AllReadyIn.nil
          go_simp
          refine hK _ _ ?_
          clear hK K
          refine wpAnyIn_done (by kernel_rfl) ?_ _
          exact hfin A4 c4 w4 own4 hg4 q2 q4 q5
        · go_simp
          refine hK _ _ ?_
          clear hK K
          refine wpAnyIn_ready (rs := [0]) (by kernel_rfl) (by simp) ?_
          refine AllReadyIn.cons rfl (fun K hK => ?_) AllReadyIn.nil
          go_simp
          refine hK _ _ ?_
          clear hK K
          refine wpAnyIn_ready (rs := [4]) (by kernel_rfl) (by simp) ?_
          refine allReadyIn_op (opIn_append rfl rfl _ _ 27 rfl (bS + 1) 9 i _ 1 16 Tryz.underlying27 hi hz hsize hby rfl (by omega) _ pre.length ((pre.map trimB).map Value.string) rfl own0 ⟨W.heap.size, 0, none⟩ 1 1 [.string (trimB x)] rfl rfl hnew (by intro u hu; simp at hu; subst hu; rfl) (by unfold maxLen; omega) (by omega) hbs0 ?_)
          intro v4 w4 own4 hg4
          obtain ⟨A4, c4, rfl, _, _⟩ := own_slice own4
          obtain ⟨q1, q2, q3, q4, q5⟩ := Boxed.appended (W := W.drew) (n₀ := w.heap.size) (B := w.heap.size) HV.out (by decide) (own_downL HO.out (by omega)) (Nat.le_trans (by omega) hbs) (Nat.le_refl _) (own_downL own4 (by omega)) hg4
          have g0 := q1.cell
          have g1 := q1.frozen
          refine wpAnyIn_ready (rs := [5]) (by kernel_rfl) (by simp) ?_
          refine AllReadyIn.cons rfl (fun K hK => ?_) AllReadyIn.nil
          go_simp
          refine hK _ _ ?_
          clear hK K
          refine wpAnyIn_done (by kernel_rfl) ?_ _
          exact hfin A4 c4 w4 own4 hg4 q2 q4 q5
    -- REGION END
  case iter =>
    intro l K W hI hk hK hY
    exact linesIter 3 bS 100000 l (by omega) _ _ (fun pre X Y h hg => h.grown hg (by omega) (by omega) (by omega)) K hK hY W hI hk
  case done =>
    rintro D xs W hD hS ⟨r, hb, hr, ht, ⟨v, hv, ho⟩, hB, hbs⟩ hK
    have c0 := hv.cell
    have f0 := hv.frozen
    have hne := hv.not_row (by decide) ho
    have hl : xs.length = (splitL s.data.toList).length := by
      have := congrArg List.length hS
      simp only [List.length_map] at this
      rw [this, hsl.out]
    have hmap : (xs.map trimB).map Value.string = (splitL s.data.toList).map fun r => Value.string (mkS r) := by
      rw [hS, hsl.out, List.map_map]
      rfl
    rw [hl, hmap] at ho
    obtain ⟨A4, c4, rfl, _, _⟩ := own_slice ho
    have Ho := Lib.hid ho
    have Hv := Lib.hid hv
    have HBx := Lib.hid hB
    clear hl hmap ho hS hb hv hB ht
    gi_wp2
    have hK2 := (KeepsOthers.setCell W ⟨w.heap.size, 0, none⟩ (.slice A4 (splitL s.data.toList).length c4)).same D _ hK rfl
    have hb2 := Hv.out.set (.slice A4 (splitL s.data.toList).length c4)
    have hg2 := grownBy_setCell' W w.heap.size (.slice A4 (splitL s.data.toList).length c4)
    have ho2 := Ho.out.kept hg2 (.inr (fun e => by
      have h2 := (Ho.out.lt w.heap.size e).1
      omega))
    have hgp := grownBy_putObj' (W.setCell ⟨w.heap.size, 0, none⟩ (.slice A4 (splitL s.data.toList).length c4)) D (.deferred none)
    refine ⟨by simp, .inl ⟨_, _, rfl, run_takeDeferred hK2, ?_⟩⟩
    have hc3 := cell_kept hb2.cell hgp (fun r e => by cases e; exact ⟨_, hK2, rfl⟩)
    refine ⟨.slice A4 (splitL s.data.toList).length c4, ?_, _, rfl, own_downL (ownsRow_putObj ho2 _ hK2 rfl) (by omega), (HBx.out.setCell (p := ⟨w.heap.size, 0, none⟩) (Nat.le_refl _) _).trans (belowK_b (w := w) (Nat.le_refl _) _ D _ _ (by omega) hK2 rfl rfl)⟩
    simp [results, Tryz.results9, go_sem, hc3]
end Go.Proofs.YtffpgandgajihaaGreatDoor
