/- The program's package query, walked: Name, told, Slot, pattern. -/
import Derived.Test.YtmdjffnelkgmpaaDoorTerm1
namespace Go.Proofs.YtmdjffnelkgmpaaDoor
open Go Go.RowKit Um Fm

def oddI (r : Int) : Bool := !(decide (97 ≤ r) && decide (r ≤ 122) || decide (65 ≤ r) && decide (r ≤ 90) || decide (48 ≤ r) && decide (r ≤ 57) || r == 95)
theorem oddI_yes {r : Int} (h : ¬ (97 ≤ r ∧ r ≤ 122) ∧ ¬ (65 ≤ r ∧ r ≤ 90) ∧ ¬ (48 ≤ r ∧ r ≤ 57) ∧ ¬ r = 95) : oddI r = true := by
  have : oddI r = decide (¬ (97 ≤ r ∧ r ≤ 122) ∧ ¬ (65 ≤ r ∧ r ≤ 90) ∧ ¬ (48 ≤ r ∧ r ≤ 57) ∧ ¬ r = 95) := by
    rw [Bool.eq_iff_iff]; simp [oddI]; omega
  rw [this]; exact decide_eq_true h
theorem oddI_no {r : Int} (h : (97 ≤ r ∧ r ≤ 122) ∨ (65 ≤ r ∧ r ≤ 90) ∨ (48 ≤ r ∧ r ≤ 57) ∨ r = 95) : oddI r = false := by
  have : oddI r = !decide ((97 ≤ r ∧ r ≤ 122) ∨ (65 ≤ r ∧ r ≤ 90) ∨ (48 ≤ r ∧ r ≤ 57) ∨ r = 95) := by
    rw [Bool.eq_iff_iff]; simp [oddI]; omega
  rw [this, decide_eq_true h]; rfl
def nameB (s : ByteArray) : Bool := !s.toList.isEmpty && decide (s.size ≤ 40) && decide (Lib.idxFunc (fun x => oddI x) true s < 0)
theorem qName1 (r : Int) (w : World) (h0 : 0 ≤ r) (h1 : r ≤ 1114111) : Calls Tryd.prog 60 #[.int .i32 r] w fun e w' => e = .returned (.bool (oddI r)) ∧ w = w' := by
  obtain ⟨v, hv⟩ : ∃ v, oddI r = v := ⟨_, rfl⟩
  rw [hv]
  have Hv := Lib.hid hv
  clear hv
  by_cases a1 : r < 48
  · have a9 : (r != 95) = true := by simp; omega
    go_enter Tryd.func60, Tryd.ntmps60
    go_wp2
    go_ret
    exact ⟨by first | (rw [← Hv.out, oddI_yes (by omega)]; rfl) | (rw [← Hv.out, oddI_no (by omega)]; rfl), rfl⟩
  by_cases a2 : r ≤ 57
  · go_enter Tryd.func60, Tryd.ntmps60
    go_wp2
    go_ret
    exact ⟨by first | (rw [← Hv.out, oddI_yes (by omega)]; rfl) | (rw [← Hv.out, oddI_no (by omega)]; rfl), rfl⟩
  by_cases a3 : r < 65
  · have a9 : (r != 95) = true := by simp; omega
    go_enter Tryd.func60, Tryd.ntmps60
    go_wp2
    go_ret
    exact ⟨by first | (rw [← Hv.out, oddI_yes (by omega)]; rfl) | (rw [← Hv.out, oddI_no (by omega)]; rfl), rfl⟩
  by_cases a4 : r ≤ 90
  · go_enter Tryd.func60, Tryd.ntmps60
    go_wp2
    go_ret
    exact ⟨by first | (rw [← Hv.out, oddI_yes (by omega)]; rfl) | (rw [← Hv.out, oddI_no (by omega)]; rfl), rfl⟩
  by_cases a5 : r = 95
  · subst a5
    go_enter Tryd.func60, Tryd.ntmps60
    go_wp2
    go_ret
    exact ⟨by rw [← Hv.out]; rfl, rfl⟩
  have a5' : (r != 95) = true := by simpa using a5
  by_cases a6 : r < 97
  · go_enter Tryd.func60, Tryd.ntmps60
    go_wp2
    go_ret
    exact ⟨by first | (rw [← Hv.out, oddI_yes (by omega)]; rfl) | (rw [← Hv.out, oddI_no (by omega)]; rfl), rfl⟩
  by_cases a7 : r ≤ 122
  · go_enter Tryd.func60, Tryd.ntmps60
    go_wp2
    go_ret
    exact ⟨by first | (rw [← Hv.out, oddI_yes (by omega)]; rfl) | (rw [← Hv.out, oddI_no (by omega)]; rfl), rfl⟩
  · go_enter Tryd.func60, Tryd.ntmps60
    go_wp2
    go_ret
    exact ⟨by first | (rw [← Hv.out, oddI_yes (by omega)]; rfl) | (rw [← Hv.out, oddI_no (by omega)]; rfl), rfl⟩
theorem qName (s : ByteArray) (w : World) (hs : s.size ≤ 281474976710656) : Calls Tryd.prog 39 #[.string s] w fun e w' => e = .returned (.bool (nameB s)) ∧ Below w.heap.size w w' := by
  have eg : ∀ args W, (callFunc 60 args).run Tryd.prog W = .ok (.enter 60 args) W := enters_of Tryd.func60 (by kernel_rfl) rfl
  have hI := Tryd.strings_IndexFunc_runes 60 #[] eg (fun x => oddI x) s w (fun W x hx _ => (qName1 x W (by omega) (by omega)).mono fun e w' ⟨h1, h2⟩ => ⟨h1, 0, by rw [← h2]; rfl⟩)
  unfold nameB
  generalize Lib.idxFunc (fun x => oddI x) true s = i at *
  have hz : (s.size : Int) ≤ 281474976710656 := by omega
  clear eg
  cases he : s.toList.isEmpty
  · by_cases hq : (s.size : Int) ≤ 40
    · have hq2 : decide (s.size ≤ 40) = true := by simp; omega
      rw [hq2]
      by_cases hi : i < 0
      · have hi2 : decide (i < 0) = true := by simpa using hi
        go_enter Tryd.func39, Tryd.ntmps39
        go_wp2_with (refine hI.mono ?_; rintro e w2 ⟨rfl, hb2⟩)
        go_ret
        exact ⟨by rw [hi2]; rfl, hb2⟩
      · have hi2 : decide (i < 0) = false := by simpa using hi
        go_enter Tryd.func39, Tryd.ntmps39
        go_wp2_with (refine hI.mono ?_; rintro e w2 ⟨rfl, hb2⟩)
        go_ret
        exact ⟨by rw [hi2]; rfl, hb2⟩
    · have hq2 : decide (s.size ≤ 40) = false := by simp; omega
      rw [hq2]
      go_enter Tryd.func39, Tryd.ntmps39
      go_wp2
      go_ret
      exact ⟨rfl, Below.refl _ _⟩
  · go_enter Tryd.func39, Tryd.ntmps39
    go_wp2
    go_ret
    exact ⟨rfl, Below.refl _ _⟩

/-- May a term stand in a query? -/
def toldB (t : Tm) : Bool := !(t.k == 2) && rightB t
/-- A term's texts are short enough. -/
def szT (t : Tm) : Prop := t.x.size ≤ 281474976710656 ∧ t.l.size < 35184372088832 ∧ t.y.size ≤ 281474976710656
theorem qTold (t : Tm) (w : World) (hC : Ctx w) (hz : szT t) : Calls Tryd.prog 86 #[.agg #[.int .i64 t.k, .string t.x, .string t.l, .string t.y]] w fun e w' => e = .returned (.bool (toldB t)) ∧ Below w.heap.size w w' := by
  have hB0 : Below w.heap.size w (w.alloc (.cells #[.int .i64 t.k, .string t.x, .string t.l, .string t.y] 30)) := (by repeat (first | exact Below.refl _ _ | assumption | exact (Below.refl _ _).alloc (Nat.le_refl _) _ | refine below_tr ?_ (by assumption) | refine below_alloc ?_ | refine below_tr ?_ (below_regrown _ _ _)))
  have hR := termRight t _ (hC.step hB0) hz.1 hz.2.1 hz.2.2
  have HB := Lib.hid hB0
  clear hB0 hC hz
  unfold toldB
  generalize rightB t = q at *
  by_cases h2 : t.k = 2
  · have h2' : (t.k == 2) = true := by simpa using h2
    have h3' : (t.k != 2) = false := by simpa using h2
    rw [h2']
    clear h2 h2'
    go_enter Tryd.func86, Tryd.ntmps86
    go_wp2
    go_ret
    exact ⟨rfl, HB.out⟩
  · have h2' : (t.k == 2) = false := by simpa using h2
    have h3' : (t.k != 2) = true := by simpa using h2
    rw [h2']
    clear h2 h2'
    go_enter Tryd.func86, Tryd.ntmps86
    go_wp2_with (refine hR.mono ?_; rintro e w2 ⟨rfl, hb2⟩)
    go_ret
    exact ⟨rfl, below_tr HB.out hb2⟩
end Go.Proofs.YtmdjffnelkgmpaaDoor
