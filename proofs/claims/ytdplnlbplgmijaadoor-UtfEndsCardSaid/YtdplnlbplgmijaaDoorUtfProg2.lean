/- The program's package utf, walked: which signs begin a label, are letters; Is, Raw, at, next. -/
import Derived.Test.YtdplnlbplgmijaaDoorUtfProg
namespace Go.Proofs.YtdplnlbplgmijaaDoor
open Go Go.RowKit Um

theorem beginB_or (r : Int) : beginB r = (firstB r || (r == 95) || (r == 58) || digitB r) := by
  rw [Bool.eq_iff_iff]
  simp only [beginB, beginL, digitB, inB, Bool.or_eq_true, Bool.and_eq_true, decide_eq_true_eq, beq_iff_eq, Bool.or_false]
  by_cases h : firstB r = true
  · simp [h]
  · have h' : firstB r = false := by simpa using h
    simp only [h', Bool.false_eq_true, false_or]; omega
theorem letterB_or (r : Int) : letterB r = (beginB r || (r == 45) || (r == 183) || inB r [768, 879, 8255, 8256]) := by
  rw [Bool.eq_iff_iff]
  simp only [letterB, letterL, beginB, beginL, inB, Bool.or_eq_true, Bool.and_eq_true, decide_eq_true_eq, beq_iff_eq, Bool.or_false]
  by_cases h : firstB r = true
  · simp [h]
  · have h' : firstB r = false := by simpa using h
    simp only [h', Bool.false_eq_true, false_or]; omega

theorem utfBegins (r : Int) (w : World) :
    Calls Tryd.prog 31 #[.int .i32 r] w fun e w' => e = .returned (.bool (beginB r)) ∧ Below w.heap.size w w' := by
  have hf := utfFirst r w
  have hd := fun W => utfDigit r W
  rw [beginB_or]
  generalize firstB r = q1 at hf
  generalize digitB r = q2 at hd
  go_enter Tryd.func31, Tryd.ntmps31
  cases q1
  · by_cases h1 : r = 95
    · have h1' : (r == 95) = true := by simpa using h1
      rw [h1']
      clear h1
      go_wp2_with (go_at_call 48; refine hf.mono ?_; rintro e w1 ⟨rfl, hb⟩)
      go_ret
      exact ⟨by simp, hb⟩
    · have h1' : (r == 95) = false := by simpa using h1
      rw [h1']
      clear h1
      by_cases h2 : r = 58
      · have h2' : (r == 58) = true := by simpa using h2
        rw [h2']
        clear h2
        go_wp2_with (go_at_call 48; refine hf.mono ?_; rintro e w1 ⟨rfl, hb⟩)
        go_ret
        exact ⟨by simp, hb⟩
      · have h2' : (r == 58) = false := by simpa using h2
        rw [h2']
        clear h2
        go_wp2_with (first
          | (go_at_call 48; refine hf.mono ?_; rintro e w1 ⟨rfl, hb⟩)
          | (go_at_call 39; refine (hd _).mono ?_; rintro e w2 ⟨rfl, hb2⟩))
        go_ret
        exact ⟨by simp, hb.trans (hb2.mono hb.size)⟩
  · go_wp2_with (go_at_call 48; refine hf.mono ?_; rintro e w1 ⟨rfl, hb⟩)
    go_ret
    exact ⟨by simp, hb⟩

theorem utfLetter (r : Int) (w : World) :
    Calls Tryd.prog 34 #[.int .i32 r] w fun e w' => e = .returned (.bool (letterB r)) ∧ Below w.heap.size w w' := by
  have hf := utfBegins r w
  have ha := fun (g : Nat) (W : World) h => among r [768, 879, 8255, 8256] 2 (some ⟨g, 0, none⟩) 2 W rfl (by decide) h
  rw [letterB_or]
  generalize beginB r = q1 at hf
  generalize inB r [768, 879, 8255, 8256] = q2 at ha
  go_enter Tryd.func34, Tryd.ntmps34
  cases q1
  · by_cases h1 : r = 45
    · have h1' : (r == 45) = true := by simpa using h1
      rw [h1']
      clear h1
      go_wp2_with (go_at_call 31; refine hf.mono ?_; rintro e w1 ⟨rfl, hb⟩)
      go_ret
      exact ⟨by simp, hb⟩
    · have h1' : (r == 45) = false := by simpa using h1
      rw [h1']
      clear h1
      by_cases h2 : r = 183
      · have h2' : (r == 183) = true := by simpa using h2
        rw [h2']
        clear h2
        go_wp2_with (go_at_call 31; refine hf.mono ?_; rintro e w1 ⟨rfl, hb⟩)
        go_ret
        exact ⟨by simp, hb⟩
      · have h2' : (r == 183) = false := by simpa using h2
        rw [h2']
        clear h2
        go_wp2_with (first
          | (go_at_call 31; refine hf.mono ?_; rintro e w1 ⟨rfl, hb⟩)
          | (go_at_call 36; refine (ha _ _ ?_).mono ?_; exact Rd.of_block (heap_alloc_new w1 _) rfl; rintro e w2 ⟨rfl, hb2⟩))
        go_ret
        exact ⟨by simp, (hb.alloc hb.size _).trans (hb2.mono (by have := hb.size; simp; omega))⟩
  · go_wp2_with (go_at_call 31; refine hf.mono ?_; rintro e w1 ⟨rfl, hb⟩)
    go_ret
    exact ⟨by simp, hb⟩

/-- a letter, or a point -/
theorem utfLabel1 (r : Int) (w : World) :
    Calls Tryd.prog 33 #[.int .i32 r] w fun e w' => e = .returned (.bool (mayB false r)) ∧ Below w.heap.size w w' := by
  have hf := utfLetter r w
  rw [show mayB false r = (letterB r || decide (r = 46)) from rfl]
  generalize letterB r = q1 at hf
  go_enter Tryd.func33, Tryd.ntmps33
  cases q1
  · by_cases h1 : r = 46
    · have h1' : (r == 46) = true := by simpa using h1
      have h1'' : decide (r = 46) = true := by simpa using h1
      rw [h1'']
      clear h1
      go_wp2_with (go_at_call 34; refine hf.mono ?_; rintro e w1 ⟨rfl, hb⟩)
      go_ret
      exact ⟨by simp, hb⟩
    · have h1' : (r == 46) = false := by simpa using h1
      have h1'' : decide (r = 46) = false := by simpa using h1
      rw [h1'']
      clear h1
      go_wp2_with (go_at_call 34; refine hf.mono ?_; rintro e w1 ⟨rfl, hb⟩)
      go_ret
      exact ⟨by simp, hb⟩
  · go_wp2_with (go_at_call 34; refine hf.mono ?_; rintro e w1 ⟨rfl, hb⟩)
    go_ret
    exact ⟨by simp, hb⟩

theorem validRune_isB (n : Int) (h0 : 0 ≤ n) (h1 : n ≤ 1114111) : Lib.validRune n = isB n := by
  simp [Lib.validRune, isB, h0, h1]

theorem utfIs (n : Int) (w : World) :
    Calls Tryd.prog 12 #[.int .i64 n] w fun e w' => e = .returned (.bool (isB n)) ∧ w = w' := by
  have hv := fun W => Tryd.utf8_ValidRune n W
  by_cases h0 : 0 ≤ n
  · by_cases h1 : n ≤ 1114111
    · rw [validRune_isB n h0 h1] at hv
      generalize isB n = q at hv
      go_enter Tryd.func12, Tryd.ntmps12
      go_wp2_with (go_at_call 29; refine (hv _).mono ?_; rintro e w1 ⟨rfl, rfl⟩)
      go_ret
      exact ⟨rfl, rfl⟩
    · have hi : isB n = false := by simp [isB]; omega
      rw [hi]
      clear hi hv
      go_enter Tryd.func12, Tryd.ntmps12
      go_wp2
      go_ret
      exact ⟨rfl, rfl⟩
  · have hi : isB n = false := by simp [isB]; omega
    rw [hi]
    clear hi hv
    go_enter Tryd.func12, Tryd.ntmps12
    go_wp2
    go_ret
    exact ⟨rfl, rfl⟩

theorem encode_enc (n : Int) (h : isB n = true) : (Utf8.encode n).data.toList = Lib.encodeRune n := by
  rw [isB_iff] at h
  have hv : Utf8.valid n = true := by simp [Utf8.valid]; omega
  unfold Utf8.encode
  simp only [hv, if_true]
  by_cases c1 : n ≤ 127
  · rw [if_pos (by omega)]
    unfold Lib.encodeRune
    rw [Lib.encodeRuneZ_one (by omega) c1]
    simp [Nat.toUInt8]
  · rw [if_neg (by omega)]
    by_cases c2 : n ≤ 2047
    · rw [if_pos (by omega)]
      unfold Lib.encodeRune
      rw [Lib.encodeRuneZ_two (by omega) c2]
      simp only [List.map_cons, List.map_nil]
      rw [show (192 + n / 64).toNat = 192 + n.toNat / 64 by omega, show (128 + n % 64).toNat = 128 + n.toNat % 64 by omega]
    · rw [if_neg (by omega)]
      by_cases c3 : n ≤ 65535
      · rw [if_pos (by omega)]
        unfold Lib.encodeRune
        rw [Lib.encodeRuneZ_three (by omega)]
        simp only [List.map_cons, List.map_nil]
        rw [show (224 + n / 4096).toNat = 224 + n.toNat / 4096 by omega, show (128 + n / 64 % 64).toNat = 128 + n.toNat / 64 % 64 by omega, show (128 + n % 64).toNat = 128 + n.toNat % 64 by omega]
      · rw [if_neg (by omega)]
        unfold Lib.encodeRune
        rw [Lib.encodeRuneZ_four (by omega) (by omega)]
        simp only [List.map_cons, List.map_nil]
        rw [show (240 + n / 262144).toNat = 240 + n.toNat / 262144 by omega, show (128 + n / 4096 % 64).toNat = 128 + n.toNat / 4096 % 64 by omega, show (128 + n / 64 % 64).toNat = 128 + n.toNat / 64 % 64 by omega, show (128 + n % 64).toNat = 128 + n.toNat % 64 by omega]

theorem contains_head (s t : List UInt8) (b : UInt8) (h : s.contains b = false) : Lib.contains s (b :: t) = false := by
  have : Lib.index s (b :: t) = -1 := by
    refine Lib.index_none fun j _ => ?_
    unfold Lib.occAt
    cases hd : s.drop j with
    | nil => rfl
    | cons c l =>
      have hc : c ∈ s := List.mem_of_mem_drop (i := j) (by rw [hd]; exact List.mem_cons_self)
      have hne : (b == c) = false := by
        cases hbc : b == c with
        | false => rfl
        | true =>
          have : b = c := by simpa using hbc
          subst this
          have : s.contains b = true := by simpa using hc
          rw [this] at h; cases h
      show ((b == c) && t.isPrefixOf l) = false
      rw [hne]; rfl
  unfold Lib.contains
  rw [this]; rfl

def badU : List UInt8 := [60, 62, 34, 123, 125, 124, 94, 96, 92]
theorem badS_badU : badS.data.toList = badU := rfl
set_option maxRecDepth 10000 in
theorem bad_low : ∀ n : Fin 128, Lib.contains badU [n.val.toUInt8] = badL.contains (n.val : Int) := by decide

theorem bad_contains (n : Int) (h : isB n = true) : Lib.contains badU (Lib.encodeRune n) = badL.contains n := by
  rw [isB_iff] at h
  by_cases c1 : n ≤ 127
  · unfold Lib.encodeRune
    rw [Lib.encodeRuneZ_one (by omega) c1]
    have := bad_low ⟨n.toNat, by omega⟩
    rw [show (((⟨n.toNat, by omega⟩ : Fin 128).val : Nat) : Int) = n by show ((n.toNat : Nat) : Int) = n; omega] at this
    exact this
  · have hb : badL.contains n = false := by
      simp [badL]; omega
    rw [hb]
    have hd : ∃ (b : UInt8) (t : List UInt8), Lib.encodeRune n = b :: t ∧ 128 ≤ b.toNat := by
      unfold Lib.encodeRune
      by_cases c2 : n ≤ 2047
      · rw [Lib.encodeRuneZ_two (by omega) c2]; exact ⟨_, _, rfl, by simp; omega⟩
      · by_cases c3 : n ≤ 65535
        · rw [Lib.encodeRuneZ_three (by omega)]; exact ⟨_, _, rfl, by simp; omega⟩
        · rw [Lib.encodeRuneZ_four (by omega) (by omega)]; exact ⟨_, _, rfl, by simp; omega⟩
    obtain ⟨b, t, he, hb2⟩ := hd
    rw [he]
    apply contains_head
    simp only [badU]
    cases hc : List.contains [60, 62, 34, 123, 125, 124, 94, 96, 92] b with
    | false => rfl
    | true =>
      exfalso
      simp at hc
      rcases hc with h | h | h | h | h | h | h | h | h <;> (subst h; revert hb2; decide)

theorem utfRaw (n : Int) (w : World) (hC : Ctx w) :
    Calls Tryd.prog 14 #[.int .i64 n] w fun e w' => e = .returned (.bool (rawB n)) ∧ w = w' := by
  obtain ⟨m, hm⟩ := hC.maxl
  have his := utfIs n w
  have hsc := fun t => Tryd.strings_Contains badS t m w (by decide) hm
  clear hC
  by_cases h1 : 32 < n
  · by_cases h2 : isB n = true
    · have hr : rawB n = !badL.contains n := by simp [rawB, h1, h2]
      rw [hr]
      replace hsc := hsc (Utf8.encode n)
      rw [encode_enc n h2, badS_badU, bad_contains n h2] at hsc
      rw [h2] at his
      rw [isB_iff] at h2
      obtain ⟨⟨h3, h4⟩, h5⟩ := h2
      clear hr hm h5
      generalize badL.contains n = q at hsc
      unfold badS at hsc
      go_enter Tryd.func14, Tryd.ntmps14
      go_wp2_with (first
        | (go_at_call 12; refine his.mono ?_; rintro e w1 ⟨rfl, rfl⟩)
        | (go_at_call 30; refine hsc.mono ?_; rintro e w1 ⟨rfl, rfl⟩))
      go_ret
      exact ⟨rfl, rfl⟩
    · have h2 : isB n = false := by simpa using h2
      have hr : rawB n = false := by simp [rawB, h2]
      rw [hr]
      rw [h2] at his
      clear hr hm hsc h2
      go_enter Tryd.func14, Tryd.ntmps14
      go_wp2_with (go_at_call 12; refine his.mono ?_; rintro e w1 ⟨rfl, rfl⟩)
      go_ret
      exact ⟨rfl, rfl⟩
  · have hr : rawB n = false := by simp [rawB]; omega
    rw [hr]
    clear hr hm hsc his
    go_enter Tryd.func14, Tryd.ntmps14
    go_wp2
    go_ret
    exact ⟨rfl, rfl⟩
end Go.Proofs.YtdplnlbplgmijaaDoor
