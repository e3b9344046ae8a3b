/- The program's package utf, walked: which signs begin a label, are letters; Is, Raw, at, next. -/
import Derived.Test.YtheeklkcaapkbaaGreatDoorJUtfProg
namespace Go.Proofs.YtheeklkcaapkbaaGreatDoor
open Go Go.RowKit Um

theorem beginB_or (r : Int) : beginB r = (firstB r || (r == 95) || (r == 58) || digitB r) := by
  rw [Bool.eq_iff_iff]
  simp only [beginB, beginL, digitB, inB, Bool.or_eq_true, Bool.and_eq_true, decide_eq_true_eq, beq_iff_eq, Bool.or_false]
  by_cases h : firstB r = true
  · simp [h]
  · have h' : firstB r = false := by simpa using h
    simp only [h', Bool.false_eq_true, false_or]; omega
theorem letterB_or (r : Int) : letterB r = (beginB r || (r == 45) || (r == 183) || inB r [768, 879, 8255, 8256]) := by
  rw [Bool.eq_iff_iff]
  simp only [letterB, letterL, beginB, beginL, inB, Bool.or_eq_true, Bool.and_eq_true, decide_eq_true_eq, beq_iff_eq, Bool.or_false]
  by_cases h : firstB r = true
  · simp [h]
  · have h' : firstB r = false := by simpa using h
    simp only [h', Bool.false_eq_true, false_or]; omega

theorem utfBegins (r : Int) (w : World) :
    Calls Tryz.prog 84 #[.int .i32 r] w fun e w' => e = .returned (.bool (beginB r)) ∧ Below w.heap.size w w' := by
  have hf := utfFirst r w
  have hd := fun W => utfDigit r W
  rw [beginB_or]
  generalize firstB r = q1 at hf
  generalize digitB r = q2 at hd
  go_enter Tryz.func84, Tryz.ntmps84
  cases q1
  · by_cases h1 : r = 95
    · have h1' : (r == 95) = true := by simpa using h1
      rw [h1']
      clear h1
      go_wp2_with (go_at_call 116; refine hf.mono ?_; rintro e w1 ⟨rfl, hb⟩)
      go_ret
      exact ⟨by simp, hb⟩
    · have h1' : (r == 95) = false := by simpa using h1
      rw [h1']
      clear h1
      by_cases h2 : r = 58
      · have h2' : (r == 58) = true := by simpa using h2
        rw [h2']
        clear h2
        go_wp2_with (go_at_call 116; refine hf.mono ?_; rintro e w1 ⟨rfl, hb⟩)
        go_ret
        exact ⟨by simp, hb⟩
      · have h2' : (r == 58) = false := by simpa using h2
        rw [h2']
        clear h2
        go_wp2_with (first
          | (go_at_call 116; refine hf.mono ?_; rintro e w1 ⟨rfl, hb⟩)
          | (go_at_call 92; refine (hd _).mono ?_; rintro e w2 ⟨rfl, hb2⟩))
        go_ret
        exact ⟨by simp, hb.trans (hb2.mono hb.size)⟩
  · go_wp2_with (go_at_call 116; refine hf.mono ?_; rintro e w1 ⟨rfl, hb⟩)
    go_ret
    exact ⟨by simp, hb⟩

theorem utfLetter (r : Int) (w : World) :
    Calls Tryz.prog 87 #[.int .i32 r] w fun e w' => e = .returned (.bool (letterB r)) ∧ Below w.heap.size w w' := by
  have hf := utfBegins r w
  have ha := fun (g : Nat) (W : World) h => among r [768, 879, 8255, 8256] 2 (some ⟨g, 0, none⟩) 2 W rfl (by decide) h
  rw [letterB_or]
  generalize beginB r = q1 at hf
  generalize inB r [768, 879, 8255, 8256] = q2 at ha
  go_enter Tryz.func87, Tryz.ntmps87
  cases q1
  · by_cases h1 : r = 45
    · have h1' : (r == 45) = true := by simpa using h1
      rw [h1']
      clear h1
      go_wp2_with (go_at_call 84; refine hf.mono ?_; rintro e w1 ⟨rfl, hb⟩)
      go_ret
      exact ⟨by simp, hb⟩
    · have h1' : (r == 45) = false := by simpa using h1
      rw [h1']
      clear h1
      by_cases h2 : r = 183
      · have h2' : (r == 183) = true := by simpa using h2
        rw [h2']
        clear h2
        go_wp2_with (go_at_call 84; refine hf.mono ?_; rintro e w1 ⟨rfl, hb⟩)
        go_ret
        exact ⟨by simp, hb⟩
      · have h2' : (r == 183) = false := by simpa using h2
        rw [h2']
        clear h2
        go_wp2_with (first
          | (go_at_call 84; refine hf.mono ?_; rintro e w1 ⟨rfl, hb⟩)
          | (go_at_call 89; refine (ha _ _ ?_).mono ?_; exact Rd.of_block (heap_alloc_new w1 _) rfl; rintro e w2 ⟨rfl, hb2⟩))
        go_ret
        exact ⟨by simp, (hb.alloc hb.size _).trans (hb2.mono (by have := hb.size; simp; omega))⟩
  · go_wp2_with (go_at_call 84; refine hf.mono ?_; rintro e w1 ⟨rfl, hb⟩)
    go_ret
    exact ⟨by simp, hb⟩

/-- a letter, or a point -/
theorem utfLabel1 (r : Int) (w : World) :
    Calls Tryz.prog 86 #[.int .i32 r] w fun e w' => e = .returned (.bool (mayB false r)) ∧ Below w.heap.size w w' := by
  have hf := utfLetter r w
  rw [show mayB false r = (letterB r || decide (r = 46)) from rfl]
  generalize letterB r = q1 at hf
  go_enter Tryz.func86, Tryz.ntmps86
  cases q1
  · by_cases h1 : r = 46
    · have h1' : (r == 46) = true := by simpa using h1
      have h1'' : decide (r = 46) = true := by simpa using h1
      rw [h1'']
      clear h1
      go_wp2_with (go_at_call 87; refine hf.mono ?_; rintro e w1 ⟨rfl, hb⟩)
      go_ret
      exact ⟨by simp, hb⟩
    · have h1' : (r == 46) = false := by simpa using h1
      have h1'' : decide (r = 46) = false := by simpa using h1
      rw [h1'']
      clear h1
      go_wp2_with (go_at_call 87; refine hf.mono ?_; rintro e w1 ⟨rfl, hb⟩)
      go_ret
      exact ⟨by simp, hb⟩
  · go_wp2_with (go_at_call 87; refine hf.mono ?_; rintro e w1 ⟨rfl, hb⟩)
    go_ret
    exact ⟨by simp, hb⟩
end Go.Proofs.YtheeklkcaapkbaaGreatDoor
