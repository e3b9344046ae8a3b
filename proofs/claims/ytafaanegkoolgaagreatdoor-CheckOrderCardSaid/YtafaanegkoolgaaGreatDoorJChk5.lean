/- The library's slices.AppendSeq, slices.Collect over texts that slices.Values goes through. -/
import Derived.Test.YtafaanegkoolgaaGreatDoorJChk4
import Derived.Maps.OwnIn
namespace Go.Proofs.YtafaanegkoolgaaGreatDoor
open Go Go.RowKit Go.Maps Go.ChangeMaps Go.Shelf Um Fm Mt
attribute [local go_sem] Oper.semAt_some

/-- The texts that an iterator of slices.Values goes through. -/
def SeqAt (w : World) (Bp : Nat) (l : List ByteArray) : Prop := ∃ A c, w.cell? ⟨Bp, 0, none⟩ = some (.slice A l.length c) ∧ Rd w A (l.map Value.string)
theorem SeqAt.later {w w' : World} {Bp : Nat} {l : List ByteArray} (h : SeqAt w Bp l) (hb : Below w.heap.size w w') : SeqAt w' Bp l := by
  obtain ⟨A, c, h1, h2⟩ := h
  exact ⟨A, c, cell_on h1 hb, h2.later hb⟩
theorem MetAt.row {base b : Nat} {w : World} {v : Value} {l : List ByteArray} (hM : MetAt base b w v l) {w4 : World} {A4 : Option Addr} {m4 c4 : Nat} {l' : List ByteArray} (own4 : w4.ownsRow base 9 1 (.slice A4 m4 c4) l'.length (l'.map Value.string))
    (d0 : ∃ u, w4.cell? ⟨b, 0, none⟩ = some u) (d1 : w4.frozen? ⟨b, 0, none⟩ = false) (hne4 : (Value.slice A4 m4 c4).ownBlock ≠ some b) : MetAt base b (w4.setCell ⟨b, 0, none⟩ (.slice A4 m4 c4)) (.slice A4 m4 c4) l' := by
  obtain ⟨u, d0⟩ := d0
  exact ⟨World.cell?_setCell_same' _ _ _ (by rw [d0]; rfl), by rw [World.frozen?_setCell]; exact d1, own4.kept (grownBy_setCell' w4 b _) (.inr hne4), hM.lo, hne4⟩
set_option maxRecDepth 100000 in
set_option maxHeartbeats 4000000 in
theorem cAppendSeq (l : List ByteArray) (Bp : Nat) (w : World) (hq : SeqAt w Bp l) (hl : l.length ≤ 1000000) :
    Calls Tryz.prog 168 #[.slice none 0 0, .func (.func 205) #[] #[.pointer (some ⟨Bp, 0, none⟩)]] w (NamesR l w) := by
  refine (callsIn_wide (n := 6)).1 ?_
  generalize hF : Fence.wide = F
  have hd : F.depth = none := by rw [← hF]; rfl
  have hfn : ∀ k, F.fn k := by rw [← hF]; exact fun _ => trivial
  have hro : F.round = none := by rw [← hF]; rfl
  have hdd : ∀ k : Nat, (F.depth.isSome = true → 1 ≤ k) := fun k h => by rw [hd] at h; cases h
  have h0 := hfn 168
  have h5 := hfn 205
  clear hF hfn
  refine callsIn_of_wp_marks Tryz.func168 rfl h0 ?_ hro
  simp only [Tryz.ntmps168, List.size_toArray, List.length_cons, List.length_nil, Nat.reduceAdd, Nat.reduceSub, Array.replicate_succ, Array.replicate_zero, List.push_toArray, List.append_toArray, List.nil_append, List.cons_append]
  gi_wp2
  obtain ⟨W1, hW1⟩ : ∃ W : World, w.alloc (.cells #[.slice none 0 0] 22) = W := ⟨_, rfl⟩
  have hsz : W1.heap.size = w.heap.size + 1 := by rw [← hW1]; simp
  have hB1 : Below w.heap.size w W1 := by rw [← hW1]; exact (by repeat (first | exact Below.refl _ _ | assumption | exact (Below.refl _ _).alloc (Nat.le_refl _) _ | refine below_tr ?_ (by assumption) | refine below_alloc ?_ | refine below_tr ?_ (below_regrown _ _ _)))
  have g0 : W1.heap[w.heap.size]? = some (.cells #[.slice none 0 0] 22 (0, 0)) := by rw [← hW1]; exact heap_alloc_new _ _
  have hI0 : UsedI w w.heap.size [] W1 := ⟨.slice none 0 0, ⟨by rw [World.cell?, g0]; rfl, by simp [World.frozen?, g0], World.ownsRow_nil _ _ _ _, Nat.le_refl _, by simp [Value.ownBlock]⟩, hB1, by omega⟩
  have hcm : CM w (wo (hidU w.heap.size) W1) := fun p u hp => wo_cell.2 ⟨cell_on hp hB1, _, by
    rw [hB1.block _ (cell_lt hp)]; exact Array.getElem?_eq_getElem (cell_lt hp), by have := cell_lt hp; simp; omega⟩
  obtain ⟨A, c, hbp, hr⟩ := hq
  have hs := cVals_stops F hd h5 hro (hidU w.heap.size) (6 - 1) W1 l A c Bp (hr.cm hcm) (by omega) (hcm _ _ hbp)
  simp only [hW1]
  have HW := Lib.hid hW1
  have Hsz := Lib.hid hsz
  clear hW1 hcm g0 hsz hr hbp
  refine wpIn_rangeFunc_ownH hro (by omega) (gf := 205) (lb := #[.pointer (some ⟨Bp, 0, none⟩)]) rfl h5 (enters_of Tryz.func205 (by kernel_rfl) rfl)
    hs (fun h k => h.trans k) (fun W l o o' hl ho hc _ => Kb.put hl ho hc) (Below.refl _ _) (fun _ => rfl)
    (fun pre W => UsedI w w.heap.size pre W ∧ Kb (hidU w.heap.size) W1.heap.size W1 W)
    (fun _ _ _ => False)
    (fun s A B row hs hg hr => ⟨hs.1.grown hB1.size hg hr, hs.2.grown hg hr⟩)
    (fun c s A B row hs hg hr => hs.elim)
    ⟨hI0, Kb.refl _ _ _⟩
    (fun s a' W => a' = { tmps := #[.slice none 0 0, .func (.func 205) #[] #[.pointer (some ⟨Bp, 0, none⟩)], .pointer (some ⟨w.heap.size, 0, none⟩), undef, .slice none 0 0, .string s, .func (.func 205) #[] #[.pointer (some ⟨Bp, 0, none⟩)], .string s, undef, undef, undef, undef, undef], defers := [] })
    ?hAx ?assign ?body ?done ?stop
  case hAx =>
    rintro a a' _ A B row h hg hr
    exact h
  case assign =>
    rintro l' pre a W K ⟨hi, hk⟩ hK
    have e : ∀ (b : Array Value) (v : Value), (#[7].zip #[v]).foldl (fun t (p, v) => t.setIfInBounds p v) b = b.setIfInBounds 7 v := fun b v => by simp
    rw [e]
    have Hfin := Lib.hid (fun a' h => hK a' W (KeepsFrom.refl _ _) (Kb.refl _ _ _) ⟨hi, hk⟩ h)
    clear hK hi hk
    gi_wp2
    exact Hfin.out _ rfl
  case body =>
    rintro l' pre s a' W hl' ⟨rr, hrr⟩ ⟨hi, hk⟩ rfl hlN
    obtain ⟨v, hM, hBw, hbW⟩ := hi
    obtain ⟨A1, c1, rfl, hc1, hr1, hv1⟩ := hM.open_
    have hba : Below W.heap.size W (W.alloc (.cells #[.string s] 9)) := (by repeat (first | exact Below.refl _ _ | assumption | exact (Below.refl _ _).alloc (Nat.le_refl _) _ | refine below_tr ?_ (by assumption) | refine below_alloc ?_ | refine below_tr ?_ (below_regrown _ _ _)))
    have own0 := own_below hM.own hba (Nat.le_refl _)
    have hbne := hM.ne
    have hfr := hM.fr
    have own0' := Lib.hid hM.own.lt
    have hnew : ∀ (j : Nat) (u : Value), [Value.string s][j]? = some u → (W.alloc (.cells #[.string s] 9)).cell? ((⟨W.heap.size, 0, none⟩ : Addr).add j) = some u := by
      intro j u hu
      rw [add_zero_spot, Nat.zero_add, World.cell?, heap_alloc_new]
      simpa using hu
    obtain ⟨i, hi, hz, hsize, hby⟩ := info_parts stringInfo'
    have Hk := Lib.hid hk
    have HBw := Lib.hid hBw
    have HM := Lib.hid hM
    have hbs : w.heap.size ≤ W.heap.size := hBw.size
    have hpl : pre.length ≤ 1000000 := by omega
    clear hk hBw hM hr1 hs
    gi_wp2_with (gi_at_builtin; (refine wpListIn_append_own_at _ rfl _ _ 22 rfl w.heap.size 9 i _ 1 16 Tryz.underlying22 hi hz hsize hby rfl (by omega) _ pre.length (pre.map Value.string) rfl own0 ⟨W.heap.size, 0, none⟩ 1 1 [.string s] rfl rfl hnew (by intro u hu; simp at hu; subst hu; rfl) (by unfold maxLen; omega) (by omega) (by simp; omega) ?_; intro v4 w4 own4 hg4 _ hbk4; obtain ⟨A4, c4, rfl, _, _⟩ := own_slice own4; have d0 := (hg4.cell_far ⟨w.heap.size, 0, none⟩ (by simp; omega) (fun e => hbne e.symm)).trans ((hba.cell (p := ⟨w.heap.size, 0, none⟩) hbW).trans hv1); have d1 := (hg4.frozen_far ⟨w.heap.size, 0, none⟩ (by simp; omega) (fun e => hbne e.symm)).trans ((hba.frozen (p := ⟨w.heap.size, 0, none⟩) hbW).trans hfr)))
    have hM' := HM.out
    have hz4 := hg4.size
    have hblk : (Value.slice A4 (pre.length + 1) c4).ownBlock = (Value.slice A1 pre.length c1).ownBlock ∨ ∀ k, (Value.slice A4 (pre.length + 1) c4).ownBlock = some k → W.heap.size ≤ k := by
      rcases hbk4 with e | e
      · exact .inl e
      · exact .inr fun k hk => by rw [e] at hk; injection hk with hk; simp at hk; omega
    have hne4 : (Value.slice A4 (pre.length + 1) c4).ownBlock ≠ some w.heap.size := by
      rcases hblk with e | e
      · rw [e]; exact hbne
      · intro e2; have := e _ e2; omega
    have hgs := grownBy_setCell' w4 w.heap.size (.slice A4 (pre.length + 1) c4)
    have own5 := own4.kept hgs (.inr hne4)
    have hKp : MetKeeps w.heap.size w.heap.size W (.slice A1 pre.length c1) (w4.setCell ⟨w.heap.size, 0, none⟩ (.slice A4 (pre.length + 1) c4)) (.slice A4 (pre.length + 1) c4) := by
      refine ⟨?_, ?_, ?_, ?_⟩
      · refine Below.setCell ?_ (p := ⟨w.heap.size, 0, none⟩) (Nat.le_refl _) _
        exact Below.grown ((Below.refl _ _).alloc hbs _) hg4 (by simp; omega) fun q e => (own0'.out q e).1
      · intro q hq hqb hqv
        rw [hgs.block q (by simp at hz4; omega) (fun e => hqb (by injection e)), hg4.block q (by simp; omega) hqv, Below.heap_alloc _ _ _ hq]
      · simp at hz4
        have := hgs.size
        omega
      · rcases hblk with e | e
        · exact .inl e
        · exact .inr fun q hq => e q hq
    have hkb : Kb (hidU w.heap.size) W1.heap.size W _ := Kb.of_met hM' hKp
    refine ⟨hKp.from hM' _, hkb, ⟨.slice A4 (pre.length + 1) c4, ⟨World.cell?_setCell_same' _ _ _ (by rw [d0]; rfl), by rw [World.frozen?_setCell]; exact d1, ?_, Nat.le_refl _, hne4⟩, HBw.out.trans hKp.below, Nat.lt_of_lt_of_le hbW hKp.size⟩, Hk.out.trans hkb⟩
    rw [List.length_append, List.map_append]; exact own5
  case done =>
    rintro D ys W hD hS ⟨⟨v, hM, hBw, hbW⟩, hk⟩ hK
    obtain rfl : ys = l := hS
    obtain ⟨A1, c1, rfl, hc1, hr1, hv1⟩ := hM.open_
    have hown := hM.own
    have hfr := hM.fr
    clear hM hk hc1 hr1 hs
    gi_wp2
    refine ⟨by simp, .inl ⟨_, _, rfl, run_takeDeferred hK, ?_⟩⟩
    have hgr := grownBy_putObj' W D (.deferred none)
    have hne : (Value.slice A1 ys.length c1).ownBlock = none ∨ (Value.slice A1 ys.length c1).ownBlock ≠ some D := by
      right
      intro e
      rcases hown.2 with ⟨hv, _⟩ | ⟨g', cap, cur, hv, _, hh, _⟩
      · rw [hv] at e; simp [Value.ownBlock] at e
      · rw [hv] at e
        simp only [Value.ownBlock, Option.some.injEq] at e
        subst e
        rw [hh] at hK
        cases hK
    refine ⟨.slice A1 ys.length c1, ?_, _, rfl, hown.kept hgr hne, hBw.trans (belowK_b (w := w) (Nat.le_refl _) _ D _ _ (by have := Hsz.out; omega) hK rfl rfl)⟩
    simp [results, Tryz.results168, go_sem]
  case stop =>
    rintro D cc pre W hD hS h hK
    exact h.elim
theorem cCollect (l : List ByteArray) (Bp : Nat) (w : World) (hq : SeqAt w Bp l) (hl : l.length ≤ 1000000) :
    Calls Tryz.prog 105 #[.func (.func 205) #[] #[.pointer (some ⟨Bp, 0, none⟩)]] w (NamesR l w) := by
  have hA := cAppendSeq l Bp w hq hl
  clear hq
  go_enter Tryz.func105, Tryz.ntmps105
  go_wp2_with (refine hA.mono ?_; rintro e w1 ⟨v, rfl, own, b1⟩)
  obtain ⟨A1, d1, rfl, _, _⟩ := own_slice own
  go_wp2
  go_ret
  exact ⟨_, rfl, own, b1⟩
end Go.Proofs.YtafaanegkoolgaaGreatDoor
