/- The program's package utf, walked: which signs begin a label, are letters; Is, Raw, at, next. -/
import Derived.Test.YtheeklkcaapkbaaGreatDoorJUtfProg2
namespace Go.Proofs.YtheeklkcaapkbaaGreatDoor
open Go Go.RowKit Um
theorem validRune_isB (n : Int) (h0 : 0 ≤ n) (h1 : n ≤ 1114111) : Lib.validRune n = isB n := by
  simp [Lib.validRune, isB, h0, h1]

theorem utfIs (n : Int) (w : World) :
    Calls Tryz.prog 108 #[.int .i64 n] w fun e w' => e = .returned (.bool (isB n)) ∧ w = w' := by
  have hv := fun W => Tryz.utf8_ValidRune n W
  by_cases h0 : 0 ≤ n
  · by_cases h1 : n ≤ 1114111
    · rw [validRune_isB n h0 h1] at hv
      generalize isB n = q at hv
      go_enter Tryz.func108, Tryz.ntmps108
      go_wp2_with (go_at_call 130; refine (hv _).mono ?_; rintro e w1 ⟨rfl, rfl⟩)
      go_ret
      exact ⟨rfl, rfl⟩
    · have hi : isB n = false := by simp [isB]; omega
      rw [hi]
      clear hi hv
      go_enter Tryz.func108, Tryz.ntmps108
      go_wp2
      go_ret
      exact ⟨rfl, rfl⟩
  · have hi : isB n = false := by simp [isB]; omega
    rw [hi]
    clear hi hv
    go_enter Tryz.func108, Tryz.ntmps108
    go_wp2
    go_ret
    exact ⟨rfl, rfl⟩

theorem encode_enc (n : Int) (h : isB n = true) : (Utf8.encode n).data.toList = Lib.encodeRune n := by
  rw [isB_iff] at h
  have hv : Utf8.valid n = true := by simp [Utf8.valid]; omega
  unfold Utf8.encode
  simp only [hv, if_true]
  by_cases c1 : n ≤ 127
  · rw [if_pos (by omega)]
    unfold Lib.encodeRune
    rw [Lib.encodeRuneZ_one (by omega) c1]
    simp [Nat.toUInt8]
  · rw [if_neg (by omega)]
    by_cases c2 : n ≤ 2047
    · rw [if_pos (by omega)]
      unfold Lib.encodeRune
      rw [Lib.encodeRuneZ_two (by omega) c2]
      simp only [List.map_cons, List.map_nil]
      rw [show (192 + n / 64).toNat = 192 + n.toNat / 64 by omega, show (128 + n % 64).toNat = 128 + n.toNat % 64 by omega]
    · rw [if_neg (by omega)]
      by_cases c3 : n ≤ 65535
      · rw [if_pos (by omega)]
        unfold Lib.encodeRune
        rw [Lib.encodeRuneZ_three (by omega)]
        simp only [List.map_cons, List.map_nil]
        rw [show (224 + n / 4096).toNat = 224 + n.toNat / 4096 by omega, show (128 + n / 64 % 64).toNat = 128 + n.toNat / 64 % 64 by omega, show (128 + n % 64).toNat = 128 + n.toNat % 64 by omega]
      · rw [if_neg (by omega)]
        unfold Lib.encodeRune
        rw [Lib.encodeRuneZ_four (by omega) (by omega)]
        simp only [List.map_cons, List.map_nil]
        rw [show (240 + n / 262144).toNat = 240 + n.toNat / 262144 by omega, show (128 + n / 4096 % 64).toNat = 128 + n.toNat / 4096 % 64 by omega, show (128 + n / 64 % 64).toNat = 128 + n.toNat / 64 % 64 by omega, show (128 + n % 64).toNat = 128 + n.toNat % 64 by omega]

theorem contains_head (s t : List UInt8) (b : UInt8) (h : s.contains b = false) : Lib.contains s (b :: t) = false := by
  have : Lib.index s (b :: t) = -1 := by
    refine Lib.index_none fun j _ => ?_
    unfold Lib.occAt
    cases hd : s.drop j with
    | nil => rfl
    | cons c l =>
      have hc : c ∈ s := List.mem_of_mem_drop (i := j) (by rw [hd]; exact List.mem_cons_self)
      have hne : (b == c) = false := by
        cases hbc : b == c with
        | false => rfl
        | true =>
          have : b = c := by simpa using hbc
          subst this
          have : s.contains b = true := by simpa using hc
          rw [this] at h; cases h
      show ((b == c) && t.isPrefixOf l) = false
      rw [hne]; rfl
  unfold Lib.contains
  rw [this]; rfl

def badU : List UInt8 := [60, 62, 34, 123, 125, 124, 94, 96, 92]
theorem badS_badU : badS.data.toList = badU := rfl
set_option maxRecDepth 10000 in
theorem bad_low : ∀ n : Fin 128, Lib.contains badU [n.val.toUInt8] = badL.contains (n.val : Int) := by decide

theorem bad_contains (n : Int) (h : isB n = true) : Lib.contains badU (Lib.encodeRune n) = badL.contains n := by
  rw [isB_iff] at h
  by_cases c1 : n ≤ 127
  · unfold Lib.encodeRune
    rw [Lib.encodeRuneZ_one (by omega) c1]
    have := bad_low ⟨n.toNat, by omega⟩
    rw [show (((⟨n.toNat, by omega⟩ : Fin 128).val : Nat) : Int) = n by show ((n.toNat : Nat) : Int) = n; omega] at this
    exact this
  · have hb : badL.contains n = false := by
      simp [badL]; omega
    rw [hb]
    have hd : ∃ (b : UInt8) (t : List UInt8), Lib.encodeRune n = b :: t ∧ 128 ≤ b.toNat := by
      unfold Lib.encodeRune
      by_cases c2 : n ≤ 2047
      · rw [Lib.encodeRuneZ_two (by omega) c2]; exact ⟨_, _, rfl, by simp; omega⟩
      · by_cases c3 : n ≤ 65535
        · rw [Lib.encodeRuneZ_three (by omega)]; exact ⟨_, _, rfl, by simp; omega⟩
        · rw [Lib.encodeRuneZ_four (by omega) (by omega)]; exact ⟨_, _, rfl, by simp; omega⟩
    obtain ⟨b, t, he, hb2⟩ := hd
    rw [he]
    apply contains_head
    simp only [badU]
    cases hc : List.contains [60, 62, 34, 123, 125, 124, 94, 96, 92] b with
    | false => rfl
    | true =>
      exfalso
      simp at hc
      rcases hc with h | h | h | h | h | h | h | h | h <;> (subst h; revert hb2; decide)

theorem utfRaw (n : Int) (w : World) (hC : Ctx w) :
    Calls Tryz.prog 76 #[.int .i64 n] w fun e w' => e = .returned (.bool (rawB n)) ∧ w = w' := by
  obtain ⟨m, hm⟩ := hC.maxl
  have his := utfIs n w
  have hsc := fun t => Tryz.strings_Contains badS t m w (by decide) hm
  clear hC
  by_cases h1 : 32 < n
  · by_cases h2 : isB n = true
    · have hr : rawB n = !badL.contains n := by simp [rawB, h1, h2]
      rw [hr]
      replace hsc := hsc (Utf8.encode n)
      rw [encode_enc n h2, badS_badU, bad_contains n h2] at hsc
      rw [h2] at his
      rw [isB_iff] at h2
      obtain ⟨⟨h3, h4⟩, h5⟩ := h2
      clear hr hm h5
      generalize badL.contains n = q at hsc
      unfold badS at hsc
      go_enter Tryz.func76, Tryz.ntmps76
      go_wp2_with (first
        | (go_at_call 108; refine his.mono ?_; rintro e w1 ⟨rfl, rfl⟩)
        | (go_at_call 109; refine hsc.mono ?_; rintro e w1 ⟨rfl, rfl⟩))
      go_ret
      exact ⟨rfl, rfl⟩
    · have h2 : isB n = false := by simpa using h2
      have hr : rawB n = false := by simp [rawB, h2]
      rw [hr]
      rw [h2] at his
      clear hr hm hsc h2
      go_enter Tryz.func76, Tryz.ntmps76
      go_wp2_with (go_at_call 108; refine his.mono ?_; rintro e w1 ⟨rfl, rfl⟩)
      go_ret
      exact ⟨rfl, rfl⟩
  · have hr : rawB n = false := by simp [rawB]; omega
    rw [hr]
    clear hr hm hsc his
    go_enter Tryz.func76, Tryz.ntmps76
    go_wp2
    go_ret
    exact ⟨rfl, rfl⟩
end Go.Proofs.YtheeklkcaapkbaaGreatDoor
