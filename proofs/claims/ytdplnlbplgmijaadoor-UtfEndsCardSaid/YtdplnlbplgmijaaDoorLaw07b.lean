/- The law's walks: reads, UtfReads. -/
import Derived.Test.YtdplnlbplgmijaaDoorLaw07a
namespace Go.Proofs.YtdplnlbplgmijaaDoor
open Go Go.RowKit Um

theorem own_rd {w : World} {base : Nat} {e : TypeId} {n : Nat} {v : Value} {xs : List Int} (h : w.ownsRow base e 1 v n (xs.map (Value.int .i64))) : ∃ A c, v = .slice A xs.length c ∧ Rd w A (xs.map (Value.int .i64)) := by
  have h1 := h.1
  simp at h1
  obtain ⟨A, c, rfl⟩ := own_form h
  exact ⟨A, c, by rw [h1], Rd.of_own h⟩

theorem sgF_len : ∀ (f : Nat) (l : List UInt8), (sgF f l).1.length ≤ f := by
  intro f
  induction f with
  | zero => intro l; simp [sgF]
  | succ f ih =>
    intro l
    unfold sgF
    split
    · simp
    · split
      · simp
      · have := ih (l.drop (nx l).2)
        simp; omega
theorem sig_bound (l : List UInt8) : (sigR l).1.length ≤ l.length := by
  unfold sigR
  split
  · exact sgF_len _ _
  · simp

theorem signs1 (s : ByteArray) (w : World) (hC : Ctx w) (hs : s.size ≤ 1000000) :
    Calls Tryd.prog 19 #[.string s] w fun e w' => ∃ A c, e = .returned (.tuple #[.slice A (sigR s.data.toList).1.length c, .int .i64 (sigR s.data.toList).2.1, .int .i64 (sigR s.data.toList).2.2]) ∧
      Rd w' A ((sigR s.data.toList).1.map (Value.int .i64)) ∧ Below w.heap.size w w' :=
  (utfSigns s w hC hs).mono fun e w' ⟨v, n, he, ho, hb⟩ => by
    obtain ⟨A, c, rfl, hr⟩ := own_rd ho
    exact ⟨A, c, he, hr, hb⟩

theorem signs2 (s : ByteArray) (w : World) (hs : s.size ≤ 1000000) :
    Calls Tryd.prog 20 #[.string s] w fun e w' => ∃ A c, e = .returned (.tuple #[.slice A (sigR s.data.toList).1.length c, .int .i64 (sigR s.data.toList).2.1, .int .i64 (sigR s.data.toList).2.2]) ∧
      Rd w' A ((sigR s.data.toList).1.map (Value.int .i64)) ∧ Below w.heap.size w w' :=
  (refSigns s w hs).mono fun e w' ⟨v, n, he, ho, hb⟩ => by
    obtain ⟨A, c, rfl, hr⟩ := own_rd ho
    exact ⟨A, c, he, hr, hb⟩

theorem same_self (xs : List Int) (A B : Option Addr) (c d : Nat) (w : World) (ha : Rd w A (xs.map (Value.int .i64))) (hb : Rd w B (xs.map (Value.int .i64))) (hl : xs.length ≤ 1000000000) :
    Calls Tryd.prog 21 #[.slice A xs.length c, .slice B xs.length d] w fun e w' => e = .returned (.bool true) ∧ Below w.heap.size w w' := by
  have h := sameInts xs xs A B c d w ha hb hl hl
  rw [show decide (xs = xs) = true by simp] at h
  exact h

set_option maxHeartbeats 2000000 in
theorem lawreads (s : ByteArray) (w : World) (hC : Ctx w) (hs : s.size ≤ 1000000) :
    Calls Tryd.prog 24 #[.string s] w fun e w' => e = .returned (.bool true) ∧ Below w.heap.size w w' := by
  have hsb : (sigR s.data.toList).1.length ≤ s.size := size_toList s ▸ sig_bound _
  have h1 := fun W hW => signs1 s W hW hs
  have h2 := fun W => signs2 s W hs
  generalize sigR s.data.toList = sg at h1 h2 hsb
  obtain ⟨xs, at_, er⟩ := sg
  dsimp only at h1 h2 hsb
  go_enter Tryd.func24, Tryd.ntmps24
  go_wp2_with (first
    | (go_at_call 19; refine (h1 _ hC).mono ?_; rintro e w1 ⟨A1, c1, rfl, hr1, hb1⟩)
    | (go_at_call 20; refine (h2 _).mono ?_; rintro e w2 ⟨A2, c2, rfl, hr2, hb2⟩; have hB2 := hb1.trans (hb2.mono hb1.size))
    | (go_at_call 21; refine (same_self xs A1 A2 c1 c2 w2 (hr1.of_below hb2) hr2 (by omega)).mono ?_; rintro e w3 ⟨rfl, hb3⟩))
  go_ret
  exact ⟨by simp, hB2.trans (hb3.mono hB2.size)⟩

set_option maxHeartbeats 2000000 in
theorem lawUtfReads (s : ByteArray) (w : World) (hC : Ctx w) (hs : s.size ≤ 281474976710656) :
    Calls Tryd.prog 5 #[.string s] w fun e w' => e = .returned (.bool true) ∧ Below w.heap.size w w' := by
  by_cases hbig : 2000 < s.size
  · go_enter Tryd.func5, Tryd.ntmps5
    go_wp2_with (go_at_call 8; refine (awake _ hC).mono ?_; rintro e w4 ⟨rfl, hb4⟩)
    go_ret
    exact ⟨rfl, hb4⟩
  have hs' : s.size ≤ 1000000 := by omega
  have hsb : (sigR s.data.toList).1.length ≤ s.size := size_toList s ▸ sig_bound _
  have h1 := fun W hW => signs1 s W hW hs'
  have h2 := fun W => signs2 s W hs'
  have h4 := fun W hW => utfLabel s W hW hs'
  have h5 := fun W => refLabel s W hs'
  have h6 := fun W => utfTag s W hs'
  have h7 := fun W => refTag s W hs'
  generalize sigR s.data.toList = sg at h1 h2 hsb
  generalize label s.data.toList = lb at h4 h5
  generalize tag s.data.toList = tg at h6 h7
  obtain ⟨xs, at_, er⟩ := sg
  dsimp only at h1 h2 hsb
  go_enter Tryd.func5, Tryd.ntmps5
  go_wp2_with (first
    | (go_at_call 19; refine (h1 _ hC).mono ?_; rintro e w1 ⟨A1, c1, rfl, hr1, hb1⟩)
    | (go_at_call 20; refine (h2 _).mono ?_; rintro e w2 ⟨A2, c2, rfl, hr2, hb2⟩; have hB2 := hb1.trans (hb2.mono hb1.size))
    | (go_at_call 21; refine (same_self xs A1 A2 c1 c2 w2 (hr1.of_below hb2) hr2 (by omega)).mono ?_; rintro e w3 ⟨rfl, hb3⟩; have hB3 := hB2.trans (hb3.mono hB2.size))
    | (go_at_call 17; refine (h4 _ (hC.step hB3)).mono ?_; rintro e w4 ⟨rfl, hb4⟩; have hB4 := hB3.trans (hb4.mono hB3.size))
    | (go_at_call 22; refine (h5 _).mono ?_; rintro e w5 ⟨rfl, hb5⟩; have hB5 := hB4.trans (hb5.mono hB4.size))
    | (go_at_call 18; refine (h6 _).mono ?_; rintro e w6 ⟨rfl, hb6⟩; have hB6 := hB5.trans (hb6.mono hB5.size))
    | (go_at_call 23; refine (h7 _).mono ?_; rintro e w7 ⟨rfl, rfl⟩)
    | (go_at_call 8; refine (awake _ (hC.step hB6)).mono ?_; rintro e w8 ⟨rfl, hb8⟩))
  go_ret
  exact ⟨by simp, hB6.trans (hb8.mono hB6.size)⟩
end Go.Proofs.YtdplnlbplgmijaaDoor
