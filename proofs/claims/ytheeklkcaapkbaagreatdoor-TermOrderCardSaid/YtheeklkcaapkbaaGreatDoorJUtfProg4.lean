/- The program's package utf, walked: Label. -/
import Derived.Test.YtheeklkcaapkbaaGreatDoorJUtfProg3
namespace Go.Proofs.YtheeklkcaapkbaaGreatDoor
open Go Go.RowKit Um

def bOf : Value → Nat
  | .bool true => 1
  | _ => 0
def mayV : Bool → Value
  | true => .func (.func 84) #[] #[]
  | false => .func (.func 86) #[] #[]

theorem lab_next {l : List UInt8} {k d x best : Nat} (h : labRest l false (k + d) (if x = 46 then best else k + d)) : (((x : Int) != 46) = true → labRest l false (k + d) (k + d)) ∧ (((x : Int) != 46) = false → labRest l false (k + d) best) := by
  constructor
  · intro hx
    have h2 : ¬ x = 46 := by rw [bne_iff_ne] at hx; omega
    rwa [if_neg h2] at h
  · intro hx
    have h2 : x = 46 := by simp at hx; omega
    rwa [if_pos h2] at h

theorem lab_measure {S k d d1 : Nat} (h : k + d + d1 ≤ S) (_h0 : ¬ d = 0) : 2 * (S - (k + d + d1)) + bOf (.bool (decide (0 < d1))) < 2 * (S - (k + d)) + bOf (.bool true) := by
  by_cases h1 : d1 = 0
  · subst h1; simp [bOf]
  · have : bOf (.bool (decide (0 < d1))) ≤ 1 := by simp [show 0 < d1 by omega, bOf]
    simp only [bOf] at *; omega

set_option maxHeartbeats 2000000 in
theorem utfLabel (s : ByteArray) (w : World) (hC : Ctx w) (hs : s.size ≤ 281474976710656) :
    Calls Tryz.prog 56 #[.string s] w fun e w' => e = .returned (.int .i64 (label s.data.toList)) ∧ Below w.heap.size w w' := by
  have hsz : s.data.toList.length = s.size := size_toList s
  have Hsz := Lib.hid hsz
  clear hsz
  have hC1 := hC.step ((Below.refl _ _).alloc (Nat.le_refl _) (.cells #[.string s, .int .i64 0] 118))
  have hn0 := curNext s 0 w.heap.size (w.alloc (.cells #[.string s, .int .i64 0] 118)) hC1 (heap_alloc_new w _) (by omega) hs
  have hk0 : (nx (from_ s 0)).2 ≤ s.size := by
    by_cases h0 : (nx (from_ s 0)).2 = 0
    · omega
    · have := (nx_step s 0 h0).1; omega
  obtain ⟨x0, hx0⟩ : ∃ x, (nx (from_ s 0)).1 = x := ⟨_, rfl⟩
  obtain ⟨d0, hd0⟩ : ∃ x, (nx (from_ s 0)).2 = x := ⟨_, rfl⟩
  rw [hx0, hd0] at hn0
  rw [hd0] at hk0
  have Hx0 := Lib.hid hx0
  have Hd0 := Lib.hid hd0
  clear hx0 hd0 hC1
  go_enter Tryz.func56, Tryz.ntmps56
  go_wp2_with (go_at_call 85; refine hn0.mono ?_; rintro e w1 ⟨rfl, hg1, hc1⟩; have hB1 : Below w.heap.size w w1 := below_grown ((Below.refl _ _).alloc (Nat.le_refl _) _) hg1 (by simp) (Nat.le_refl _))
  go_loopw [2, 4, 5, 6] (fun b may r is wr => ∃ k best d x : Nat, ∃ st : Bool, k + d ≤ s.size ∧ b = .int .i64 best ∧ may = mayV st ∧ r = .int .i32 x ∧ is = .bool (decide (0 < d)) ∧ CurAt wr w.heap.size s (k + d) ∧ Below w.heap.size w wr ∧ Hid ((nx (from_ s k)).1 = x ∧ (nx (from_ s k)).2 = d ∧ labRest s.data.toList st k best))
    (fun _ _ _ is wr => 2 * (s.size - (intOf ((wr.cell? ⟨w.heap.size, 1, none⟩).getD undef)).toNat) + bOf is)
  case atStart => exact ⟨0, 0, d0, x0, true, by omega, rfl, rfl, rfl, by simp, by simpa using hc1, hB1, Hx0.out, Hd0.out, labRest_start _⟩
  case round =>
    clear hn0 Hx0 Hd0 hc1 hg1 hB1
    obtain ⟨k, best, d, x, st, hkd, rfl, rfl, rfl, rfl, hcu, hB, H⟩ := hrel
    have f0 := hcu.c0
    have f1 := hcu.c1
    obtain ⟨hx, hd, hL⟩ := H.out
    by_cases h0 : d = 0
    · have hres := Lib.hid (labRest_end hL (.inr (by rw [show s.data.toList.drop k = from_ s k from rfl, hd]; exact h0)))
      have hz : decide (0 < d) = false := by simp; omega
      rw [hz]
      clear hx hd hL h0 H hz
      go_wp2
      go_ret
      exact ⟨by rw [hres.out]; rfl, hB⟩
    · have hz : decide (0 < d) = true := by simp; omega
      have hout := labRest_out hL
      have hgo := labRest_go hL (by rw [Hsz.out]; omega) (by rw [show s.data.toList.drop k = from_ s k from rfl, hd]; exact h0)
      rw [show s.data.toList.drop k = from_ s k from rfl, hx] at hout hgo
      rw [hd] at hgo
      have Hout := Lib.hid hout
      have Hgo := Lib.hid hgo
      clear hout hgo hx hd hL H
      have hme : ((intOf ((wr.cell? ⟨w.heap.size, 1, none⟩).getD undef)).toNat) = k + d := by rw [hcu.c1]; simp [intOf]; omega
      have Hme := Lib.hid hme
      clear hme
      have hbe := fun W => utfBegins (x : Int) W
      have hla := fun W => utfLabel1 (x : Int) W
      have hnn := fun W h1 h2 => curNext s (k + d) w.heap.size W h1 h2 (by omega) hs
      have hn1 : (k + d) + (nx (from_ s (k + d))).2 ≤ s.size := by
        by_cases h0 : (nx (from_ s (k + d))).2 = 0
        · omega
        · exact (nx_step s (k + d) h0).1
      obtain ⟨x1, hx1⟩ : ∃ y, (nx (from_ s (k + d))).1 = y := ⟨_, rfl⟩
      obtain ⟨d1, hd1⟩ : ∃ y, (nx (from_ s (k + d))).2 = y := ⟨_, rfl⟩
      rw [hx1, hd1] at hnn
      rw [hd1] at hn1
      have H1 := Lib.hid (show (nx (from_ s (k + d))).1 = x1 ∧ (nx (from_ s (k + d))).2 = d1 from ⟨hx1, hd1⟩)
      clear hx1 hd1
      rw [hz]
      clear hz
      cases hm : mayB st x with
      | false =>
        have hres := Lib.hid (Hout.out hm)
        clear Hout Hgo hnn
        cases st with
        | true =>
          rw [show beginB x = false from hm] at hbe
          clear hm
          rw [show mayV true = .func (.func 84) #[] #[] from rfl]
          go_wp2_with (go_at_call 84; refine (hbe _).mono ?_; rintro e w2 ⟨rfl, hb2⟩)
          go_ret
          exact ⟨by rw [hres.out]; rfl, hB.trans (hb2.mono hB.size)⟩
        | false =>
          rw [hm] at hla
          clear hm
          rw [show mayV false = .func (.func 86) #[] #[] from rfl]
          go_wp2_with (go_at_call 86; refine (hla _).mono ?_; rintro e w2 ⟨rfl, hb2⟩)
          go_ret
          exact ⟨by rw [hres.out]; rfl, hB.trans (hb2.mono hB.size)⟩
      | true =>
        have hL2 := lab_next (Hgo.out hm)
        have HL2 := Lib.hid hL2
        clear hL2 Hout Hgo
        cases st with
        | true =>
          rw [show beginB x = true from hm] at hbe
          clear hm
          rw [show mayV true = .func (.func 84) #[] #[] from rfl]
          go_wp2_with (first
            | (go_at_call 84; refine (hbe _).mono ?_; rintro e w2 ⟨rfl, hb2⟩; have hB2 := hB.trans (hb2.mono hB.size); have hcu2 := hcu.below hb2 (Nat.le_refl _); have hC2 := hC.step hB2; have f4 := hcu2.c0; have f5 := hcu2.c1; have f6 := hB2.size)
            | (go_at_call 85; refine (hnn _ ?_ ?_).mono ?_; exact hC2; exact hcu2; rintro e w3 ⟨rfl, hg3, hc3⟩; have hB3 := below_grown hB2 hg3 f6 (Nat.le_refl _)))
          · have hx : ((x : Int) != 46) = true := by assumption
            have hl := HL2.out.1 hx
            have hme2 : ((intOf ((w3.cell? ⟨w.heap.size, 1, none⟩).getD undef)).toNat) = k + d + d1 := by rw [hc3.c1]; simp [intOf]; omega
            go_roundw
            case rel => exact ⟨k+d, k+d, d1, x1, false, hn1, by go_num, rfl, rfl, by simp, hc3, hB3, H1.out.1, H1.out.2, hl⟩
            case measure =>
              simp only [hme2, Hme.out]
              exact lab_measure hn1 h0
          · have hx : ((x : Int) != 46) = false := by assumption
            have hl := HL2.out.2 hx
            have hme2 : ((intOf ((w3.cell? ⟨w.heap.size, 1, none⟩).getD undef)).toNat) = k + d + d1 := by rw [hc3.c1]; simp [intOf]; omega
            go_roundw
            case rel => exact ⟨k+d, best, d1, x1, false, hn1, by rfl, rfl, rfl, by simp, hc3, hB3, H1.out.1, H1.out.2, hl⟩
            case measure =>
              simp only [hme2, Hme.out]
              exact lab_measure hn1 h0
        | false =>
          rw [hm] at hla
          clear hm
          rw [show mayV false = .func (.func 86) #[] #[] from rfl]
          go_wp2_with (first
            | (go_at_call 86; refine (hla _).mono ?_; rintro e w2 ⟨rfl, hb2⟩; have hB2 := hB.trans (hb2.mono hB.size); have hcu2 := hcu.below hb2 (Nat.le_refl _); have hC2 := hC.step hB2; have f4 := hcu2.c0; have f5 := hcu2.c1; have f6 := hB2.size)
            | (go_at_call 85; refine (hnn _ ?_ ?_).mono ?_; exact hC2; exact hcu2; rintro e w3 ⟨rfl, hg3, hc3⟩; have hB3 := below_grown hB2 hg3 f6 (Nat.le_refl _)))
          · have hx : ((x : Int) != 46) = true := by assumption
            have hl := HL2.out.1 hx
            have hme2 : ((intOf ((w3.cell? ⟨w.heap.size, 1, none⟩).getD undef)).toNat) = k + d + d1 := by rw [hc3.c1]; simp [intOf]; omega
            go_roundw
            case rel => exact ⟨k+d, k+d, d1, x1, false, hn1, by go_num, rfl, rfl, by simp, hc3, hB3, H1.out.1, H1.out.2, hl⟩
            case measure =>
              simp only [hme2, Hme.out]
              exact lab_measure hn1 h0
          · have hx : ((x : Int) != 46) = false := by assumption
            have hl := HL2.out.2 hx
            have hme2 : ((intOf ((w3.cell? ⟨w.heap.size, 1, none⟩).getD undef)).toNat) = k + d + d1 := by rw [hc3.c1]; simp [intOf]; omega
            go_roundw
            case rel => exact ⟨k+d, best, d1, x1, false, hn1, by rfl, rfl, rfl, by simp, hc3, hB3, H1.out.1, H1.out.2, hl⟩
            case measure =>
              simp only [hme2, Hme.out]
              exact lab_measure hn1 h0
end Go.Proofs.YtheeklkcaapkbaaGreatDoor
