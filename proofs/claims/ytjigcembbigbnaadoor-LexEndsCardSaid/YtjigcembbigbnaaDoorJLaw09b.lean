/- Layer 9's laws, walked: tells, LexTells. -/
import Derived.Test.YtjigcembbigbnaaDoorJLaw09a
namespace Go.Proofs.YtjigcembbigbnaaDoor
open Go Go.RowKit Um Lx

set_option maxRecDepth 10000 in
set_option maxHeartbeats 4000000 in
theorem lawTells (s : ByteArray) (w : World) (hC : CtxL w) (hs : s.size ≤ 1000000) : Calls Tryd.prog 8 #[.string s] w fun e w' => e = .returned (.bool true) ∧ Below w.heap.size w w' := by
  have h1 := lexLineS s w hC hs
  have h2 := fun W => refLineS s W hs
  have hlen := line_len s
  unfold LineS at h1 h2
  generalize lineL s.data.toList = r at *
  obtain ⟨ts, at_, er⟩ := r
  simp only at h1 h2 hlen
  obtain ⟨N, hN⟩ : ∃ N, ts.length = N := ⟨_, rfl⟩
  rw [hN] at h1 h2 hlen
  have HN := Lib.hid hN
  have hN2 : N ≤ 1000000 := by omega
  clear hN hC
  go_enter Tryd.func8, Tryd.ntmps8
  go_wp2_with fail
  refine h1.mono ?_
  rintro e w1 ⟨A1, c1, rfl, hc1, hr1, hb1⟩
  go_wp2_with fail
  refine (h2 w1).mono ?_
  rintro e w2 ⟨A2, c2, rfl, hc2, hr2, hb2⟩
  have HB := Lib.hid (below_tr hb1 hb2)
  have HR := Lib.hid (And.intro (hr1.later hb2) hr2)
  clear hr1 hr2 hb1 hb2 h1 h2
  go_wp2
  go_loopw [9] (fun i wr => ∃ k : Nat, k ≤ N ∧ i = .int .i64 k ∧ Below w2.heap.size w2 wr) (fun i _ => N - (intOf i).toNat)
  case atStart => exact ⟨0, by omega, rfl, Below.refl _ _⟩
  case round =>
    obtain ⟨k, hk, rfl, hB⟩ := hrel
    by_cases hlt : k < N
    · have hd1 : decide (k < N) = true := by simp; omega
      obtain ⟨t, ht⟩ : ∃ t, ts[k]? = some t := ⟨_, List.getElem?_eq_getElem (by rw [HN.out]; exact hlt)⟩
      obtain ⟨g, o, rfl, a1, a2, a3⟩ := (HR.out.1.later hB).at3 ht
      obtain ⟨p, q, rfl, b1, b2, b3⟩ := (HR.out.2.later hB).at3 ht
      have u1 : ∀ (d : Nat) (os : Array Obj), (Sort.grow (redrawn wr d) os).cell? ⟨g, o + k * 3, none⟩ = some (.int .i64 t.k) := fun d os => cell_regrown a1 d os
      have HBr := Lib.hid hB
      clear ht hB u1
      go_wp2
      go_quiet (fail)
      go_wp2
      go_roundw
      case rel => exact ⟨k + 1, by omega, by go_num, HBr.out.os, HBr.out.tape, HBr.out.output, HBr.out.size, HBr.out.block⟩
      case measure => simp [intOf]; omega
    · have hd1 : decide (k < N) = false := by simp; omega
      have HBr := Lib.hid hB
      clear hB
      go_wp2
      go_ret
      exact ⟨rfl, below_tr HB.out HBr.out⟩
theorem lawLexTells (s : ByteArray) (w : World) (hC : CtxL w) (_hz : s.size ≤ 281474976710656) : Calls Tryd.prog 3 #[.string s] w fun e w' => e = .returned (.bool true) ∧ Below w.heap.size w w' := by
  have ha := fun W (hW : CtxL W) => lawAwake9 W hW
  by_cases hs : s.size ≤ 3000
  · have hd : decide ((3000 : Int) < s.size) = false := by simp; omega
    have ht := lawTells s w hC (by omega)
    have HC := Lib.hid hC
    clear hC
    go_enter Tryd.func3, Tryd.ntmps3
    go_wp2_with (first
      | (go_at_call 8; refine ht.mono ?_; rintro e w1 ⟨rfl, hb1⟩; have HC1 := Lib.hid (HC.out.step hb1); have HB1 := Lib.hid hb1; clear hb1)
      | (go_at_call 7; refine (ha _ HC1.out).mono ?_; rintro e w2 ⟨rfl, hb2⟩))
    go_ret
    exact ⟨rfl, below_tr HB1.out hb2⟩
  · have hd : decide ((3000 : Int) < s.size) = true := by simp; omega
    have ha0 := ha w hC
    clear hs hC
    go_enter Tryd.func3, Tryd.ntmps3
    go_wp2_with (go_at_call 7; refine ha0.mono ?_; rintro e w2 ⟨rfl, hb2⟩)
    go_ret
    exact ⟨rfl, hb2⟩
end Go.Proofs.YtjigcembbigbnaaDoor
