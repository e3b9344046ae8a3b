/- The program's package query, walked: Name, told, Slot, pattern. The program's package query, walked: Slot, pattern. -/
import Derived.Test.YtafaanegkoolgaaGreatDoorJTerm1
namespace Go.Proofs.YtafaanegkoolgaaGreatDoor
open Go Go.RowKit Um Fm

def oddI (r : Int) : Bool := !(decide (97 ≤ r) && decide (r ≤ 122) || decide (65 ≤ r) && decide (r ≤ 90) || decide (48 ≤ r) && decide (r ≤ 57) || r == 95)
theorem oddI_yes {r : Int} (h : ¬ (97 ≤ r ∧ r ≤ 122) ∧ ¬ (65 ≤ r ∧ r ≤ 90) ∧ ¬ (48 ≤ r ∧ r ≤ 57) ∧ ¬ r = 95) : oddI r = true := by
  have : oddI r = decide (¬ (97 ≤ r ∧ r ≤ 122) ∧ ¬ (65 ≤ r ∧ r ≤ 90) ∧ ¬ (48 ≤ r ∧ r ≤ 57) ∧ ¬ r = 95) := by
    rw [Bool.eq_iff_iff]; simp [oddI]; omega
  rw [this]; exact decide_eq_true h
theorem oddI_no {r : Int} (h : (97 ≤ r ∧ r ≤ 122) ∨ (65 ≤ r ∧ r ≤ 90) ∨ (48 ≤ r ∧ r ≤ 57) ∨ r = 95) : oddI r = false := by
  have : oddI r = !decide ((97 ≤ r ∧ r ≤ 122) ∨ (65 ≤ r ∧ r ≤ 90) ∨ (48 ≤ r ∧ r ≤ 57) ∨ r = 95) := by
    rw [Bool.eq_iff_iff]; simp [oddI]; omega
  rw [this, decide_eq_true h]; rfl
def nameB (s : ByteArray) : Bool := !s.toList.isEmpty && decide (s.size ≤ 40) && decide (Lib.idxFunc (fun x => oddI x) true s < 0)
theorem qName1 (r : Int) (w : World) (h0 : 0 ≤ r) (h1 : r ≤ 1114111) : Calls Tryz.prog 122 #[.int .i32 r] w fun e w' => e = .returned (.bool (oddI r)) ∧ w = w' := by
  obtain ⟨v, hv⟩ : ∃ v, oddI r = v := ⟨_, rfl⟩
  rw [hv]
  have Hv := Lib.hid hv
  clear hv
  by_cases a1 : r < 48
  · have a9 : (r != 95) = true := by simp; omega
    go_enter Tryz.func122, Tryz.ntmps122
    go_wp2
    go_ret
    exact ⟨by first | (rw [← Hv.out, oddI_yes (by omega)]; rfl) | (rw [← Hv.out, oddI_no (by omega)]; rfl), rfl⟩
  by_cases a2 : r ≤ 57
  · go_enter Tryz.func122, Tryz.ntmps122
    go_wp2
    go_ret
    exact ⟨by first | (rw [← Hv.out, oddI_yes (by omega)]; rfl) | (rw [← Hv.out, oddI_no (by omega)]; rfl), rfl⟩
  by_cases a3 : r < 65
  · have a9 : (r != 95) = true := by simp; omega
    go_enter Tryz.func122, Tryz.ntmps122
    go_wp2
    go_ret
    exact ⟨by first | (rw [← Hv.out, oddI_yes (by omega)]; rfl) | (rw [← Hv.out, oddI_no (by omega)]; rfl), rfl⟩
  by_cases a4 : r ≤ 90
  · go_enter Tryz.func122, Tryz.ntmps122
    go_wp2
    go_ret
    exact ⟨by first | (rw [← Hv.out, oddI_yes (by omega)]; rfl) | (rw [← Hv.out, oddI_no (by omega)]; rfl), rfl⟩
  by_cases a5 : r = 95
  · subst a5
    go_enter Tryz.func122, Tryz.ntmps122
    go_wp2
    go_ret
    exact ⟨by rw [← Hv.out]; rfl, rfl⟩
  have a5' : (r != 95) = true := by simpa using a5
  by_cases a6 : r < 97
  · go_enter Tryz.func122, Tryz.ntmps122
    go_wp2
    go_ret
    exact ⟨by first | (rw [← Hv.out, oddI_yes (by omega)]; rfl) | (rw [← Hv.out, oddI_no (by omega)]; rfl), rfl⟩
  by_cases a7 : r ≤ 122
  · go_enter Tryz.func122, Tryz.ntmps122
    go_wp2
    go_ret
    exact ⟨by first | (rw [← Hv.out, oddI_yes (by omega)]; rfl) | (rw [← Hv.out, oddI_no (by omega)]; rfl), rfl⟩
  · go_enter Tryz.func122, Tryz.ntmps122
    go_wp2
    go_ret
    exact ⟨by first | (rw [← Hv.out, oddI_yes (by omega)]; rfl) | (rw [← Hv.out, oddI_no (by omega)]; rfl), rfl⟩
theorem qName (s : ByteArray) (w : World) (hs : s.size ≤ 281474976710656) : Calls Tryz.prog 54 #[.string s] w fun e w' => e = .returned (.bool (nameB s)) ∧ Below w.heap.size w w' := by
  have eg : ∀ args W, (callFunc 122 args).run Tryz.prog W = .ok (.enter 122 args) W := enters_of Tryz.func122 (by kernel_rfl) rfl
  have hI := Tryz.strings_IndexFunc_runes 122 #[] eg (fun x => oddI x) s w (fun W x hx _ => (qName1 x W (by omega) (by omega)).mono fun e w' ⟨h1, h2⟩ => ⟨h1, 0, by rw [← h2]; rfl⟩)
  unfold nameB
  generalize Lib.idxFunc (fun x => oddI x) true s = i at *
  have hz : (s.size : Int) ≤ 281474976710656 := by omega
  clear eg
  cases he : s.toList.isEmpty
  · by_cases hq : (s.size : Int) ≤ 40
    · have hq2 : decide (s.size ≤ 40) = true := by simp; omega
      rw [hq2]
      by_cases hi : i < 0
      · have hi2 : decide (i < 0) = true := by simpa using hi
        go_enter Tryz.func54, Tryz.ntmps54
        go_wp2_with (refine hI.mono ?_; rintro e w2 ⟨rfl, hb2⟩)
        go_ret
        exact ⟨by rw [hi2]; rfl, hb2⟩
      · have hi2 : decide (i < 0) = false := by simpa using hi
        go_enter Tryz.func54, Tryz.ntmps54
        go_wp2_with (refine hI.mono ?_; rintro e w2 ⟨rfl, hb2⟩)
        go_ret
        exact ⟨by rw [hi2]; rfl, hb2⟩
    · have hq2 : decide (s.size ≤ 40) = false := by simp; omega
      rw [hq2]
      go_enter Tryz.func54, Tryz.ntmps54
      go_wp2
      go_ret
      exact ⟨rfl, Below.refl _ _⟩
  · go_enter Tryz.func54, Tryz.ntmps54
    go_wp2
    go_ret
    exact ⟨rfl, Below.refl _ _⟩

/-- May a term stand in a query? -/
def toldB (t : Tm) : Bool := !(t.k == 2) && rightB t
/-- A term's texts are short enough. -/
def szT (t : Tm) : Prop := t.x.size ≤ 281474976710656 ∧ t.l.size ≤ 140737488351232 ∧ t.y.size ≤ 281474976710656
theorem qTold (t : Tm) (w : World) (hC : Ctx w) (hz : szT t) : Calls Tryz.prog 137 #[.agg #[.int .i64 t.k, .string t.x, .string t.l, .string t.y]] w fun e w' => e = .returned (.bool (toldB t)) ∧ Below w.heap.size w w' := by
  have hB0 : Below w.heap.size w (w.alloc (.cells #[.int .i64 t.k, .string t.x, .string t.l, .string t.y] 36)) := (by repeat (first | exact Below.refl _ _ | assumption | exact (Below.refl _ _).alloc (Nat.le_refl _) _ | refine below_tr ?_ (by assumption) | refine below_alloc ?_ | refine below_tr ?_ (below_regrown _ _ _)))
  have hR := termRight t _ (hC.step hB0) hz.1 hz.2.1 hz.2.2
  have HB := Lib.hid hB0
  clear hB0 hC hz
  unfold toldB
  generalize rightB t = q at *
  by_cases h2 : t.k = 2
  · have h2' : (t.k == 2) = true := by simpa using h2
    have h3' : (t.k != 2) = false := by simpa using h2
    rw [h2']
    clear h2 h2'
    go_enter Tryz.func137, Tryz.ntmps137
    go_wp2
    go_ret
    exact ⟨rfl, HB.out⟩
  · have h2' : (t.k == 2) = false := by simpa using h2
    have h3' : (t.k != 2) = true := by simpa using h2
    rw [h2']
    clear h2 h2'
    go_enter Tryz.func137, Tryz.ntmps137
    go_wp2_with (refine hR.mono ?_; rintro e w2 ⟨rfl, hb2⟩)
    go_ret
    exact ⟨rfl, below_tr HB.out hb2⟩
end Go.Proofs.YtafaanegkoolgaaGreatDoor
namespace Go.Proofs.YtafaanegkoolgaaGreatDoor
open Go Go.RowKit Um Fm

/-- A place: a variable's name, a term. -/
structure Sl where
  v : ByteArray
  t : Tm
def slC (s : Sl) : List Value := [.string s.v, .int .i64 s.t.k, .string s.t.x, .string s.t.l, .string s.t.y]
def zeroB (t : Tm) : Bool := t.k == 0 && t.x.toList.isEmpty && t.l.toList.isEmpty && t.y.toList.isEmpty
def slotB (s : Sl) : Bool := if s.v.toList.isEmpty then toldB s.t else nameB s.v && zeroB s.t
def szS (s : Sl) : Prop := s.v.size ≤ 281474976710656 ∧ szT s.t
set_option maxRecDepth 10000 in
set_option maxHeartbeats 1000000 in
theorem qSlot (s : Sl) (w : World) (hC : Ctx w) (hz : szS s) : Calls Tryz.prog 126 #[.agg #[.string s.v, .int .i64 s.t.k, .string s.t.x, .string s.t.l, .string s.t.y]] w fun e w' => e = .returned (.bool (slotB s)) ∧ Below w.heap.size w w' := by
  obtain ⟨v, t⟩ := s
  obtain ⟨hv, hzt⟩ := hz
  simp only at hv hzt ⊢
  have hB0 : Below w.heap.size w (w.alloc (.cells #[.string v, .int .i64 t.k, .string t.x, .string t.l, .string t.y] 49)) := (by repeat (first | exact Below.refl _ _ | assumption | exact (Below.refl _ _).alloc (Nat.le_refl _) _ | refine below_tr ?_ (by assumption) | refine below_alloc ?_ | refine below_tr ?_ (below_regrown _ _ _)))
  have hT := qTold t _ (hC.step hB0) hzt
  have hN := qName v (w.alloc (.cells #[.string v, .int .i64 t.k, .string t.x, .string t.l, .string t.y] 49)) hv
  have HB := Lib.hid hB0
  obtain ⟨k, x, l, y⟩ := t
  unfold slotB zeroB
  simp only at hT hN HB ⊢
  clear hB0 hC hv hzt
  generalize toldB ⟨k, x, l, y⟩ = q1 at *
  generalize nameB v = q2 at *
  cases he : v.toList.isEmpty
  · cases q2
    · go_enter Tryz.func126, Tryz.ntmps126
      go_wp2_with (refine hN.mono ?_; rintro e w2 ⟨rfl, hb2⟩)
      go_ret
      exact ⟨by simp, below_tr HB.out hb2⟩
    · go_enter Tryz.func126, Tryz.ntmps126
      go_wp2_with fail
      refine hN.mono ?_
      rintro e w2 ⟨rfl, hb2⟩
      obtain ⟨hc, hf⟩ := bcell hb2
      have HBB := Lib.hid (below_tr HB.out hb2)
      clear hT hN HB hb2
      go_wp2
      all_goals (go_ret; exact ⟨by simp_all, HBB.out⟩)
  · go_enter Tryz.func126, Tryz.ntmps126
    go_wp2_with (refine hT.mono ?_; rintro e w2 ⟨rfl, hb2⟩)
    go_ret
    exact ⟨by simp, below_tr HB.out hb2⟩

/-- A pattern: three places. -/
structure Pat where
  s : Sl
  p : Sl
  o : Sl
def patC (p : Pat) : List Value := slC p.s ++ slC p.p ++ slC p.o
def patB (p : Pat) : Bool := slotB p.s && slotB p.p && slotB p.o && (!p.p.v.toList.isEmpty || p.p.t.k == 1)
def szP (p : Pat) : Prop := szS p.s ∧ szS p.p ∧ szS p.o
set_option maxRecDepth 10000 in
set_option maxHeartbeats 2000000 in
theorem qPattern (p : Pat) (w : World) (hC : Ctx w) (hz : szP p) : Calls Tryz.prog 57 #[.agg #[.string p.s.v, .int .i64 p.s.t.k, .string p.s.t.x, .string p.s.t.l, .string p.s.t.y, .string p.p.v, .int .i64 p.p.t.k, .string p.p.t.x, .string p.p.t.l, .string p.p.t.y, .string p.o.v, .int .i64 p.o.t.k, .string p.o.t.x, .string p.o.t.l, .string p.o.t.y]] w fun e w' => e = .returned (.bool (patB p)) ∧ Below w.heap.size w w' := by
  obtain ⟨⟨sv, sk, sx, sl, sy⟩, ⟨pv, pk, px, pl, py⟩, ⟨ov, ok, ox, ol, oy⟩⟩ := p
  obtain ⟨res, hres⟩ : ∃ r, patB ⟨⟨sv, sk, sx, sl, sy⟩, ⟨pv, pk, px, pl, py⟩, ⟨ov, ok, ox, ol, oy⟩⟩ = r := ⟨_, rfl⟩
  rw [hres]
  have Hres : Hid (res = (slotB ⟨sv, sk, sx, sl, sy⟩ && slotB ⟨pv, pk, px, pl, py⟩ && slotB ⟨ov, ok, ox, ol, oy⟩ && (!pv.toList.isEmpty || pk == 1))) := by show _ = _; rw [← hres]; rfl
  have hS : ∀ W, Below w.heap.size w W → Calls Tryz.prog 126 #[.agg #[.string sv, .int .i64 sk, .string sx, .string sl, .string sy]] W fun e w' => e = .returned (.bool (slotB ⟨sv, sk, sx, sl, sy⟩)) ∧ Below W.heap.size W w' := fun W hb => qSlot ⟨sv, sk, sx, sl, sy⟩ W (hC.step hb) hz.1
  have hP : ∀ W, Below w.heap.size w W → Calls Tryz.prog 126 #[.agg #[.string pv, .int .i64 pk, .string px, .string pl, .string py]] W fun e w' => e = .returned (.bool (slotB ⟨pv, pk, px, pl, py⟩)) ∧ Below W.heap.size W w' := fun W hb => qSlot ⟨pv, pk, px, pl, py⟩ W (hC.step hb) hz.2.1
  have hO : ∀ W, Below w.heap.size w W → Calls Tryz.prog 126 #[.agg #[.string ov, .int .i64 ok, .string ox, .string ol, .string oy]] W fun e w' => e = .returned (.bool (slotB ⟨ov, ok, ox, ol, oy⟩)) ∧ Below W.heap.size W w' := fun W hb => qSlot ⟨ov, ok, ox, ol, oy⟩ W (hC.step hb) hz.2.2
  have hB0 : Below w.heap.size w (w.alloc (.cells #[.string sv, .int .i64 sk, .string sx, .string sl, .string sy, .string pv, .int .i64 pk, .string px, .string pl, .string py, .string ov, .int .i64 ok, .string ox, .string ol, .string oy] 51)) := (by repeat (first | exact Below.refl _ _ | assumption | exact (Below.refl _ _).alloc (Nat.le_refl _) _ | refine below_tr ?_ (by assumption) | refine below_alloc ?_ | refine below_tr ?_ (below_regrown _ _ _)))
  clear hres hC hz
  simp only at ⊢
  generalize slotB ⟨sv, sk, sx, sl, sy⟩ = q1 at *
  generalize slotB ⟨pv, pk, px, pl, py⟩ = q2 at *
  generalize slotB ⟨ov, ok, ox, ol, oy⟩ = q3 at *
  have hS0 := hS _ hB0
  clear hS
  cases q1
  · clear hP hO
    go_enter Tryz.func57, Tryz.ntmps57
    go_wp2_with (go_at_call 126; refine hS0.mono ?_; rintro e w2 ⟨rfl, hb2⟩)
    go_ret
    exact ⟨by rw [Hres.out]; rfl, below_tr hB0 hb2⟩
  go_enter Tryz.func57, Tryz.ntmps57
  go_wp2_with fail
  refine hS0.mono ?_
  rintro e w2 ⟨rfl, hb2⟩
  have hb02 := below_tr hB0 hb2
  obtain ⟨hc, hf⟩ := bcell hb2
  have hP0 := hP _ hb02
  clear hS0 hP
  cases q2
  · clear hO
    go_wp2_with (go_at_call 126; refine hP0.mono ?_; rintro e w3 ⟨rfl, hb3⟩)
    go_ret
    exact ⟨by rw [Hres.out]; rfl, below_tr hb02 hb3⟩
  go_wp2_with fail
  refine hP0.mono ?_
  rintro e w3 ⟨rfl, hb3⟩
  have hb03 := below_tr hb02 hb3
  have hb23 := below_tr hb2 hb3
  clear hc hf
  obtain ⟨hc, hf⟩ := bcell hb23
  have hO0 := hO _ hb03
  clear hP0 hO hb2 hb3 hb02
  cases q3
  · go_wp2_with (go_at_call 126; refine hO0.mono ?_; rintro e w4 ⟨rfl, hb4⟩)
    go_ret
    exact ⟨by rw [Hres.out]; rfl, below_tr hb03 hb4⟩
  go_wp2_with fail
  refine hO0.mono ?_
  rintro e w4 ⟨rfl, hb4⟩
  have hb04 := below_tr hb03 hb4
  have hb24 := below_tr hb23 hb4
  clear hc hf
  obtain ⟨hc, hf⟩ := bcell hb24
  clear hO0 hb4 hb03 hb23
  cases he : pv.toList.isEmpty
  · go_wp2
    go_ret
    exact ⟨by rw [Hres.out, he]; rfl, hb04⟩
  · by_cases hk : pk = 1
    · subst hk
      go_wp2
      go_ret
      exact ⟨by rw [Hres.out, he]; rfl, hb04⟩
    · have hk2 : (pk == 1) = false := by simpa using hk
      go_wp2
      go_ret
      exact ⟨by rw [Hres.out, he, hk2]; rfl, hb04⟩
end Go.Proofs.YtafaanegkoolgaaGreatDoor
