/- The answer for query (ossuaryref22): Name, told, Slot, pattern. The answer for query (ossuaryref22): a text behind others, if it is not among them. The answer for query (ossuaryref22): is a condition a variable, or a term? Queries whose texts, lists are small. The answer for query (ossuaryref22): part, Expr. -/
import Derived.Test.YtefjhehgpkljcaaGreatDoorJR8a
import Derived.Test.YtefjhehgpkljcaaGreatDoorJQSlot
import Derived.Test.YtefjhehgpkljcaaGreatDoorJLaw22b
import Derived.Test.YtefjhehgpkljcaaGreatDoorJLaw24a
import Derived.Test.YtefjhehgpkljcaaGreatDoorJLaw22g
import Derived.Test.YtefjhehgpkljcaaGreatDoorJQExpr
namespace Go.Proofs.YtefjhehgpkljcaaGreatDoor
open Go Go.RowKit Um Fm

def nameL (l : List UInt8) : Bool := l.all fun b => !oddI (b.toNat : Int)
theorem nameL_at (s : ByteArray) (k : Nat) (h : k < s.size) : nameL (s.data.toList.drop k) = (!oddI (bn s k : Int) && nameL (s.data.toList.drop (k + 1))) := by
  have hl : k < s.data.toList.length := by rw [size_toList]; exact h
  rw [List.drop_eq_getElem_cons hl]
  unfold nameL
  rw [List.all_cons]
  congr 3
  unfold bn
  rw [List.getD_eq_getElem?_getD, List.getElem?_eq_getElem hl]; rfl
theorem nameL_end (s : ByteArray) {k : Nat} (h : s.size ≤ k) : nameL (s.data.toList.drop k) = true := by
  rw [List.drop_eq_nil_of_le (by rw [size_toList]; exact h)]; rfl
theorem decode_far (s : ByteArray) (k : Nat) (h : 128 ≤ bn s k) : 128 ≤ (Utf8.decode s k).1 := by
  rw [← Lib.decodeL_drop, Lib.decodeL_N, bn_drop, Nat.add_zero]
  unfold Lib.decodeN
  repeat' split
  all_goals simp only
  all_goals omega
theorem idx_nameL (s : ByteArray) : ∀ (f pos : Nat), s.size ≤ pos + f → decide (Lib.idxFuncFrom (fun x => oddI x) true s f pos < 0) = nameL (s.data.toList.drop pos)
  | 0, pos, h => by rw [nameL_end s (by omega)]; rfl
  | f + 1, pos, h => by
    by_cases hp : pos < s.size
    · unfold Lib.idxFuncFrom
      rw [if_pos hp, nameL_at s pos hp]
      by_cases hb : bn s pos < 128
      · have hd : Utf8.decode s pos = (bn s pos, 1) := by
          have := decode_ascii s pos hp (by rw [get_bn s pos hp]; exact hb)
          rw [this, get_bn s pos hp]
        rw [hd]
        simp only
        cases ho : oddI (bn s pos : Int)
        · rw [if_neg (by simp), idx_nameL s f (pos + 1) (by omega)]; rfl
        · rw [if_pos rfl]; simp
      · have h1 := decode_far s pos (by omega)
        rw [oddI_yes (r := ((Utf8.decode s pos).1 : Int)) (by omega), oddI_yes (r := (bn s pos : Int)) (by omega), if_pos rfl]
        simp
    · rw [Lib.idxFuncFrom_end _ _ _ _ _ hp, nameL_end s (by omega)]; rfl
theorem nameB_eq (s : ByteArray) : nameB s = (nameL s.data.toList && (decide (1 ≤ s.size) && decide (s.size ≤ 40))) := by
  unfold nameB
  have h1 := idx_nameL s s.size 0 (by omega)
  rw [List.drop_zero] at h1
  unfold Lib.idxFunc
  rw [h1]
  have h2 : (!s.toList.isEmpty) = decide (1 ≤ s.size) := by
    rw [ByteArray.toList_eq, ← size_toList]
    cases s.data.toList <;> simp
  rw [h2]
  cases decide (1 ≤ s.size) <;> cases decide (s.size ≤ 40) <;> cases nameL s.data.toList <;> rfl
set_option maxRecDepth 10000 in
set_option maxHeartbeats 2000000 in
theorem r22Name0 (s : ByteArray) (w : World) (hs : s.size ≤ 281474976710656) : Calls Tryz.prog 123 #[.string s] w fun e w' => e = .returned (.bool (nameB s)) ∧ w = w' := by
  rw [nameB_eq]
  have hz : (s.size : Int) ≤ 281474976710656 := by omega
  go_enter Tryz.func123, Tryz.ntmps123
  go_wp2
  go_loop [3] (fun i => ∃ k : Nat, k ≤ s.size ∧ i = .int .i64 k ∧ Hid (nameL s.data.toList = nameL (s.data.toList.drop k))) (fun i => s.size - (intOf i).toNat)
  case atStart => exact ⟨0, by omega, rfl, rfl⟩
  case round =>
    obtain ⟨k, hk, rfl, H⟩ := hrel
    by_cases hlt : k < s.size
    · have hm := bn_lt s k
      have H2 : Hid (nameL s.data.toList = (!oddI (bn s k : Int) && nameL (s.data.toList.drop (k + 1)))) := by show _ = _; rw [H.out, nameL_at s k hlt]
      clear H
      obtain ⟨m, hbm⟩ : ∃ m, bn s k = m := ⟨_, rfl⟩
      rw [hbm] at hm H2
      by_cases a1 : m < 48
      · have b9 : ((m : Int) == 95) = false := by simp; omega
        have b8 : ¬ (m = 95) := by omega
        have b7 : (m == 95) = false := by simp; omega
        have H3 : Hid (nameL s.data.toList = false) := by show _ = _; rw [H2.out, oddI_yes (by omega)]; rfl
        clear H2
        go_wp2
        go_ret
        exact ⟨by rw [H3.out]; rfl, rfl⟩
      by_cases a2 : m ≤ 57
      · have b9 : ((m : Int) == 95) = false := by simp; omega
        have b8 : ¬ (m = 95) := by omega
        have b7 : (m == 95) = false := by simp; omega
        have H3 : Hid (nameL s.data.toList = nameL (s.data.toList.drop (k + 1))) := by show _ = _; rw [H2.out, oddI_no (by omega)]; rfl
        clear H2
        go_wp2
        go_round
        case rel => exact ⟨k + 1, by omega, by go_num, H3⟩
        case measure => simp [intOf]; omega
      by_cases a3 : m < 65
      · have b9 : ((m : Int) == 95) = false := by simp; omega
        have b8 : ¬ (m = 95) := by omega
        have b7 : (m == 95) = false := by simp; omega
        have d57 : decide ((m : Int) ≤ 57) = false := by simp; omega
        have H3 : Hid (nameL s.data.toList = false) := by show _ = _; rw [H2.out, oddI_yes (by omega)]; rfl
        clear H2
        go_wp2
        go_ret
        exact ⟨by rw [H3.out]; rfl, rfl⟩
      by_cases a4 : m ≤ 90
      · have b9 : ((m : Int) == 95) = false := by simp; omega
        have b8 : ¬ (m = 95) := by omega
        have b7 : (m == 95) = false := by simp; omega
        have H3 : Hid (nameL s.data.toList = nameL (s.data.toList.drop (k + 1))) := by show _ = _; rw [H2.out, oddI_no (by omega)]; rfl
        clear H2
        go_wp2
        go_round
        case rel => exact ⟨k + 1, by omega, by go_num, H3⟩
        case measure => simp [intOf]; omega
      by_cases a5 : m = 95
      · have b9 : ((m : Int) == 95) = true := by simp; omega
        have H3 : Hid (nameL s.data.toList = nameL (s.data.toList.drop (k + 1))) := by show _ = _; rw [H2.out, oddI_no (by omega)]; rfl
        clear H2
        go_wp2
        go_round
        case rel => exact ⟨k + 1, by omega, by go_num, H3⟩
        case measure => simp [intOf]; omega
      by_cases a6 : m < 97
      · have b9 : ((m : Int) == 95) = false := by simp; omega
        have b8 : ¬ (m = 95) := by omega
        have b7 : (m == 95) = false := by simp; omega
        have d57 : decide ((m : Int) ≤ 57) = false := by simp; omega
        have d90 : decide ((m : Int) ≤ 90) = false := by simp; omega
        have H3 : Hid (nameL s.data.toList = false) := by show _ = _; rw [H2.out, oddI_yes (by omega)]; rfl
        clear H2
        go_wp2
        go_ret
        exact ⟨by rw [H3.out]; rfl, rfl⟩
      by_cases a7 : m ≤ 122
      · have b9 : ((m : Int) == 95) = false := by simp; omega
        have b8 : ¬ (m = 95) := by omega
        have b7 : (m == 95) = false := by simp; omega
        have H3 : Hid (nameL s.data.toList = nameL (s.data.toList.drop (k + 1))) := by show _ = _; rw [H2.out, oddI_no (by omega)]; rfl
        clear H2
        go_wp2
        go_round
        case rel => exact ⟨k + 1, by omega, by go_num, H3⟩
        case measure => simp [intOf]; omega
      · have b9 : ((m : Int) == 95) = false := by simp; omega
        have b8 : ¬ (m = 95) := by omega
        have b7 : (m == 95) = false := by simp; omega
        have d1 : decide ((m : Int) ≤ 57) = false := by simp; omega
        have d2 : decide ((m : Int) ≤ 90) = false := by simp; omega
        have d3 : decide ((m : Int) ≤ 122) = false := by simp; omega
        have H3 : Hid (nameL s.data.toList = false) := by show _ = _; rw [H2.out, oddI_yes (by omega)]; rfl
        clear H2
        go_wp2
        go_ret
        exact ⟨by rw [H3.out]; rfl, rfl⟩
    · have H2 : Hid (nameL s.data.toList = true) := by show _ = _; rw [H.out, nameL_end s (by omega)]
      clear H
      by_cases h1 : 1 ≤ s.size
      · by_cases h2 : s.size ≤ 40
        · have h2' : (s.size : Int) ≤ 40 := by omega
          go_wp2
          go_ret
          exact ⟨by first | rfl | (rw [H2.out]; rfl) | simp [H2.out, h1, h2] | (simp; exact H2.out), rfl⟩
        · have h2' : ¬ ((s.size : Int) ≤ 40) := by omega
          go_wp2
          go_ret
          exact ⟨by first | rfl | (rw [H2.out]; rfl) | simp [H2.out, h1, h2] | (simp; exact H2.out), rfl⟩
      · have h0 : (s.size : Int) < 1 := by omega
        go_wp2
        go_ret
        exact ⟨by first | rfl | (rw [H2.out, decide_eq_false h1]; rfl), rfl⟩
theorem r22Name (s : ByteArray) (w : World) (hs : s.size ≤ 281474976710656) : Calls Tryz.prog 123 #[.string s] w fun e w' => e = .returned (.bool (nameB s)) ∧ Below w.heap.size w w' :=
  (r22Name0 s w hs).mono fun _ _ ⟨h1, h2⟩ => ⟨h1, below_of_eq h2⟩
/-- A term's texts are short. -/
def szTs (t : Tm) : Prop := t.x.size ≤ 1048576 ∧ t.l.size ≤ 1048576 ∧ t.y.size ≤ 1048576
theorem r22Told (t : Tm) (w : World) (hz : szTs t) : Calls Tryz.prog 194 #[.agg #[.int .i64 t.k, .string t.x, .string t.l, .string t.y]] w fun e w' => e = .returned (.bool (toldB t)) ∧ Below w.heap.size w w' := by
  have hB0 : Below w.heap.size w (w.alloc (.cells #[.int .i64 t.k, .string t.x, .string t.l, .string t.y] 28)) := (by repeat (first | exact Below.refl _ _ | assumption | exact (Below.refl _ _).alloc (Nat.le_refl _) _ | refine below_tr ?_ (by assumption) | refine below_alloc ?_ | refine below_tr ?_ (below_regrown _ _ _)))
  have r0 : (w.alloc (.cells #[.int .i64 t.k, .string t.x, .string t.l, .string t.y] 28)).cell? ⟨w.heap.size, 0, none⟩ = some (.int .i64 t.k) := by rw [World.cell?, heap_alloc_new]; rfl
  have hR := r08Right t (w.alloc (.cells #[.int .i64 t.k, .string t.x, .string t.l, .string t.y] 28)) hz.1 hz.2.1 hz.2.2
  have HB := Lib.hid hB0
  have HR0 := Lib.hid r0
  clear hB0 hz r0
  unfold toldB
  generalize rightB t = q at *
  cases q
  · go_enter Tryz.func194, Tryz.ntmps194
    go_wp2_with (refine hR.mono ?_; rintro e w2 ⟨rfl, hb2⟩)
    go_ret
    exact ⟨by simp, below_tr HB.out hb2⟩
  · cases h2 : (t.k == 2)
    all_goals
      have h3 : (t.k != 2) = !(t.k == 2) := rfl
      rw [h2] at h3
      go_enter Tryz.func194, Tryz.ntmps194
      go_wp2_with fail
      refine hR.mono ?_
      rintro e w2 ⟨rfl, hb2⟩
      have r0 := cell_on HR0.out hb2
      go_wp2
      go_ret
      exact ⟨rfl, below_tr HB.out hb2⟩
def szSs (s : Sl) : Prop := s.v.size ≤ 1048576 ∧ szTs s.t
def szPs (p : Pat) : Prop := szSs p.s ∧ szSs p.p ∧ szSs p.o
set_option maxRecDepth 10000 in
set_option maxHeartbeats 1000000 in
theorem r22Slot (s : Sl) (w : World) (hz : szSs s) : Calls Tryz.prog 170 #[.agg #[.string s.v, .int .i64 s.t.k, .string s.t.x, .string s.t.l, .string s.t.y]] w fun e w' => e = .returned (.bool (slotB s)) ∧ Below w.heap.size w w' := by
  obtain ⟨v, t⟩ := s
  obtain ⟨hv, hzt⟩ := hz
  simp only at hv hzt ⊢
  have hB0 : Below w.heap.size w (w.alloc (.cells #[.string v, .int .i64 t.k, .string t.x, .string t.l, .string t.y] 55)) := (by repeat (first | exact Below.refl _ _ | assumption | exact (Below.refl _ _).alloc (Nat.le_refl _) _ | refine below_tr ?_ (by assumption) | refine below_alloc ?_ | refine below_tr ?_ (below_regrown _ _ _)))
  have hT := r22Told t (w.alloc (.cells #[.string v, .int .i64 t.k, .string t.x, .string t.l, .string t.y] 55)) hzt
  have hN := r22Name v (w.alloc (.cells #[.string v, .int .i64 t.k, .string t.x, .string t.l, .string t.y] 55)) (by omega)
  have HB := Lib.hid hB0
  obtain ⟨k, x, l, y⟩ := t
  unfold slotB zeroB
  simp only at hT hN HB ⊢
  clear hB0 hv hzt
  generalize toldB ⟨k, x, l, y⟩ = q1 at *
  generalize nameB v = q2 at *
  cases he : v.toList.isEmpty
  · cases q2
    · go_enter Tryz.func170, Tryz.ntmps170
      go_wp2_with (refine hN.mono ?_; rintro e w2 ⟨rfl, hb2⟩)
      go_ret
      exact ⟨by simp, below_tr HB.out hb2⟩
    · go_enter Tryz.func170, Tryz.ntmps170
      go_wp2_with fail
      refine hN.mono ?_
      rintro e w2 ⟨rfl, hb2⟩
      obtain ⟨hc, hf⟩ := bcell hb2
      have HBB := Lib.hid (below_tr HB.out hb2)
      clear hT hN HB hb2
      go_wp2
      all_goals (go_ret; exact ⟨by simp_all, HBB.out⟩)
  · go_enter Tryz.func170, Tryz.ntmps170
    go_wp2_with (refine hT.mono ?_; rintro e w2 ⟨rfl, hb2⟩)
    go_ret
    exact ⟨by simp, below_tr HB.out hb2⟩

set_option maxRecDepth 10000 in
set_option maxHeartbeats 2000000 in
theorem r22Pattern (p : Pat) (w : World) (hz : szPs p) : Calls Tryz.prog 121 #[.agg #[.string p.s.v, .int .i64 p.s.t.k, .string p.s.t.x, .string p.s.t.l, .string p.s.t.y, .string p.p.v, .int .i64 p.p.t.k, .string p.p.t.x, .string p.p.t.l, .string p.p.t.y, .string p.o.v, .int .i64 p.o.t.k, .string p.o.t.x, .string p.o.t.l, .string p.o.t.y]] w fun e w' => e = .returned (.bool (patB p)) ∧ Below w.heap.size w w' := by
  obtain ⟨⟨sv, sk, sx, sl, sy⟩, ⟨pv, pk, px, pl, py⟩, ⟨ov, ok, ox, ol, oy⟩⟩ := p
  obtain ⟨res, hres⟩ : ∃ r, patB ⟨⟨sv, sk, sx, sl, sy⟩, ⟨pv, pk, px, pl, py⟩, ⟨ov, ok, ox, ol, oy⟩⟩ = r := ⟨_, rfl⟩
  rw [hres]
  have Hres : Hid (res = (slotB ⟨sv, sk, sx, sl, sy⟩ && slotB ⟨pv, pk, px, pl, py⟩ && slotB ⟨ov, ok, ox, ol, oy⟩ && (!pv.toList.isEmpty || pk == 1))) := by show _ = _; rw [← hres]; rfl
  have hS : ∀ W, Below w.heap.size w W → Calls Tryz.prog 170 #[.agg #[.string sv, .int .i64 sk, .string sx, .string sl, .string sy]] W fun e w' => e = .returned (.bool (slotB ⟨sv, sk, sx, sl, sy⟩)) ∧ Below W.heap.size W w' := fun W hb => r22Slot ⟨sv, sk, sx, sl, sy⟩ W hz.1
  have hP : ∀ W, Below w.heap.size w W → Calls Tryz.prog 170 #[.agg #[.string pv, .int .i64 pk, .string px, .string pl, .string py]] W fun e w' => e = .returned (.bool (slotB ⟨pv, pk, px, pl, py⟩)) ∧ Below W.heap.size W w' := fun W hb => r22Slot ⟨pv, pk, px, pl, py⟩ W hz.2.1
  have hO : ∀ W, Below w.heap.size w W → Calls Tryz.prog 170 #[.agg #[.string ov, .int .i64 ok, .string ox, .string ol, .string oy]] W fun e w' => e = .returned (.bool (slotB ⟨ov, ok, ox, ol, oy⟩)) ∧ Below W.heap.size W w' := fun W hb => r22Slot ⟨ov, ok, ox, ol, oy⟩ W hz.2.2
  have hB0 : Below w.heap.size w (w.alloc (.cells #[.string sv, .int .i64 sk, .string sx, .string sl, .string sy, .string pv, .int .i64 pk, .string px, .string pl, .string py, .string ov, .int .i64 ok, .string ox, .string ol, .string oy] 58)) := (by repeat (first | exact Below.refl _ _ | assumption | exact (Below.refl _ _).alloc (Nat.le_refl _) _ | refine below_tr ?_ (by assumption) | refine below_alloc ?_ | refine below_tr ?_ (below_regrown _ _ _)))
  clear hres hz
  simp only at ⊢
  generalize slotB ⟨sv, sk, sx, sl, sy⟩ = q1 at *
  generalize slotB ⟨pv, pk, px, pl, py⟩ = q2 at *
  generalize slotB ⟨ov, ok, ox, ol, oy⟩ = q3 at *
  have hS0 := hS _ hB0
  clear hS
  cases q1
  · clear hP hO
    go_enter Tryz.func121, Tryz.ntmps121
    go_wp2_with (go_at_call 170; refine hS0.mono ?_; rintro e w2 ⟨rfl, hb2⟩)
    go_ret
    exact ⟨by rw [Hres.out]; rfl, below_tr hB0 hb2⟩
  go_enter Tryz.func121, Tryz.ntmps121
  go_wp2_with fail
  refine hS0.mono ?_
  rintro e w2 ⟨rfl, hb2⟩
  have hb02 := below_tr hB0 hb2
  obtain ⟨hc, hf⟩ := bcell hb2
  have hP0 := hP _ hb02
  clear hS0 hP
  cases q2
  · clear hO
    go_wp2_with (go_at_call 170; refine hP0.mono ?_; rintro e w3 ⟨rfl, hb3⟩)
    go_ret
    exact ⟨by rw [Hres.out]; rfl, below_tr hb02 hb3⟩
  go_wp2_with fail
  refine hP0.mono ?_
  rintro e w3 ⟨rfl, hb3⟩
  have hb03 := below_tr hb02 hb3
  have hb23 := below_tr hb2 hb3
  clear hc hf
  obtain ⟨hc, hf⟩ := bcell hb23
  have hO0 := hO _ hb03
  clear hP0 hO hb2 hb3 hb02
  cases q3
  · go_wp2_with (go_at_call 170; refine hO0.mono ?_; rintro e w4 ⟨rfl, hb4⟩)
    go_ret
    exact ⟨by rw [Hres.out]; rfl, below_tr hb03 hb4⟩
  go_wp2_with fail
  refine hO0.mono ?_
  rintro e w4 ⟨rfl, hb4⟩
  have hb04 := below_tr hb03 hb4
  have hb24 := below_tr hb23 hb4
  clear hc hf
  obtain ⟨hc, hf⟩ := bcell hb24
  clear hO0 hb4 hb03 hb23
  cases he : pv.toList.isEmpty
  · go_wp2
    go_ret
    exact ⟨by rw [Hres.out, he]; rfl, hb04⟩
  · by_cases hk : pk = 1
    · subst hk
      go_wp2
      go_ret
      exact ⟨by rw [Hres.out, he]; rfl, hb04⟩
    · have hk2 : (pk == 1) = false := by simpa using hk
      go_wp2
      go_ret
      exact ⟨by rw [Hres.out, he, hk2]; rfl, hb04⟩
end Go.Proofs.YtefjhehgpkljcaaGreatDoor
namespace Go.Proofs.YtefjhehgpkljcaaGreatDoor
open Go Go.RowKit Um Fm Mt
set_option maxRecDepth 20000 in
set_option maxHeartbeats 2000000 in
theorem r22With (base : Nat) (l : List ByteArray) (x : ByteArray) (v : Value) (w : World) (hl : l.length ≤ 1000000) (hbase : base ≤ w.heap.size) (own : w.ownsRow base 9 1 v l.length (l.map Value.string)) :
    Calls Tryz.prog 124 #[v, .string x] w fun e w' => ∃ v', e = .returned v' ∧ w'.ownsRow base 9 1 v' (metN l x).length ((metN l x).map Value.string) ∧ Below base w w' := by
  obtain ⟨A, c, rfl, hc, hr⟩ := own_slice own
  have Own := Lib.hid own
  have B2 : Below w.heap.size w (w.alloc (.cells #[.string x] 9)) := (by repeat (first | exact Below.refl _ _ | assumption | exact (Below.refl _ _).alloc (Nat.le_refl _) _ | refine below_tr ?_ (by assumption) | refine below_alloc ?_ | refine below_tr ?_ (below_regrown _ _ _)))
  have own2 := own_below own B2 (Nat.le_refl _)
  have R2 : Rd (w.alloc (.cells #[.string x] 9)) (some ⟨w.heap.size, 0, none⟩) [.string x] := Rd.of_block (heap_alloc_new w _) rfl
  have HB2 := Lib.hid (B2.mono hbase)
  clear own B2
  go_enter Tryz.func124, Tryz.ntmps124
  go_wp2
  go_loop [5] (fun i => ∃ k : Nat, k ≤ l.length ∧ i = .int .i64 k ∧ Hid (hasS l x = hasS (l.drop k) x)) (fun i => l.length - (intOf i).toNat)
  case atStart => exact ⟨0, by omega, rfl, rfl⟩
  case round =>
    obtain ⟨k, hk, rfl, H⟩ := hrel
    by_cases hlt : k < l.length
    · obtain ⟨y, hx⟩ : ∃ x, l[k]? = some x := ⟨_, List.getElem?_eq_getElem hlt⟩
      obtain ⟨g, o, rfl, hcx⟩ := hr.at_ (j := k) (u := .string y) (by simp [hx])
      have hd := drop_cons_of hx
      have H2 : Hid (hasS l x = ((y.toList == x.toList) || hasS (l.drop (k+1)) x)) := by
        show _ = _
        rw [H.out, hd, hasS_cons24]
      clear hx hd H hr own2 R2
      cases hx0 : (y.toList == x.toList)
      · rw [hx0] at H2
        go_wp2
        go_round
        case rel => exact ⟨k+1, by omega, by go_num, H2⟩
        case measure => simp [intOf]; omega
      · rw [hx0] at H2
        go_wp2
        go_ret
        refine ⟨_, rfl, ?_, Below.refl _ _⟩
        rw [metN_has (by rw [H2.out]; rfl)]
        exact Own.out
    · have H2 : Hid (hasS l x = false) := by
        show hasS l x = _
        rw [H.out, List.drop_eq_nil_of_le (by omega)]; rfl
      have Hm : Hid (metN l x = l ++ [x]) := by show _ = _; unfold metN; rw [H2.out]; rfl
      clear H hr
      go_wp2_with (at_builtin; refine wpList_appG rfl rfl Tryz.underlying24 stringInfo' rfl (by omega) rfl own2 rfl R2 rfl (by intro u hu; simp at hu; subst hu; rfl) (by omega) (by omega) (by simp; omega) ?_; intro v5 w5 own5 hb5 _)
      go_ret
      refine ⟨_, rfl, ?_, HB2.out.trans hb5⟩
      rw [Hm.out, List.length_append, List.map_append]
      exact own5
end Go.Proofs.YtefjhehgpkljcaaGreatDoor
namespace Go.Proofs.YtefjhehgpkljcaaGreatDoor
open Go Go.RowKit Um Fm Mt
theorem r22Leaf (k : Int) (s : ByteArray) (t : Tm) (A : Option Addr) (m c : Nat) (w : World) :
    Calls Tryz.prog 195 #[.agg #[.int .i64 k, .string s, .int .i64 t.k, .string t.x, .string t.l, .string t.y, .slice A m c]] w fun e w' => e = .returned (.bool (k == 1 || k == 2)) ∧ Below w.heap.size w w' := by
  have hB0 : Below w.heap.size w (w.alloc (.cells #[.int .i64 k, .string s, .int .i64 t.k, .string t.x, .string t.l, .string t.y, .slice A m c] 31)) := (by repeat (first | exact Below.refl _ _ | assumption | exact (Below.refl _ _).alloc (Nat.le_refl _) _ | refine below_tr ?_ (by assumption) | refine below_alloc ?_ | refine below_tr ?_ (below_regrown _ _ _)))
  have HB0 := Lib.hid hB0
  clear hB0
  cases h1 : (k == 1)
  · cases h2 : (k == 2)
    all_goals
      go_enter Tryz.func195, Tryz.ntmps195
      go_wp2
      go_ret
      exact ⟨rfl, HB0.out⟩
  · go_enter Tryz.func195, Tryz.ntmps195
    go_wp2
    go_ret
    exact ⟨rfl, HB0.out⟩
end Go.Proofs.YtefjhehgpkljcaaGreatDoor
namespace Go.Proofs.YtefjhehgpkljcaaGreatDoor
open Go Go.RowKit Fm
/-- Texts, lists are small. -/
def szTu (t : Tm) : Prop := t.x.size ≤ 1048576 ∧ t.l.size ≤ 1048576 ∧ t.y.size ≤ 1048576
def szU : (n : Nat) → ExT n → Prop
  | 0, _ => True
  | n + 1, (_, s, t, kids) => s.size ≤ 1048576 ∧ szTu t ∧ kids.length ≤ 1048576 ∧ ∀ x ∈ kids, szU n x
def szSu (s : Sl) : Prop := s.v.size ≤ 1048576 ∧ szTu s.t
def szPu (p : Pat) : Prop := szSu p.s ∧ szSu p.p ∧ szSu p.o
def szQu {n : Nat} (q : Qy n) : Prop := q.vars.length ≤ 1048576 ∧ q.pats.length ≤ 1048576 ∧ q.fils.length ≤ 1048576 ∧ q.ord.length ≤ 1048576 ∧ (∀ x ∈ q.vars, x.size ≤ 1048576) ∧ (∀ x ∈ q.pats, szPu x) ∧ (∀ x ∈ q.fils, szU n x) ∧ ∀ x ∈ q.ord, x.v.size ≤ 1048576
theorem szTu.t {t : Tm} (h : szTu t) : szT t := ⟨Nat.le_trans h.1 (by decide), Nat.le_trans h.2.1 (by decide), Nat.le_trans h.2.2 (by decide)⟩
theorem szSu.s {s : Sl} (h : szSu s) : szS s := ⟨Nat.le_trans h.1 (by decide), h.2.t⟩
theorem szPu.p {p : Pat} (h : szPu p) : szP p := ⟨h.1.s, h.2.1.s, h.2.2.s⟩
theorem szU.x : ∀ {n : Nat} {e : ExT n}, szU n e → szX n e
  | 0, _, _ => trivial
  | _ + 1, (_, _, _, _), ⟨h1, h2, h3, h4⟩ => ⟨Nat.le_trans h1 (by decide), h2.t, Nat.le_trans h3 (by decide), fun y hy => (h4 y hy).x⟩
theorem szU.e : ∀ {n : Nat} {e : ExT n}, szU n e → szE n e
  | 0, _, _ => trivial
  | _ + 1, (_, _, _, _), ⟨h1, h2, h3, h4⟩ => ⟨Nat.le_trans h1 (by decide), Nat.le_trans h2.1 (by decide), Nat.le_trans h3 (by decide), fun y hy => (h4 y hy).e⟩
theorem szQu.q {n : Nat} {q : Qy n} (h : szQu q) : szQ q :=
  ⟨Nat.le_trans h.1 (by decide), Nat.le_trans h.2.1 (by decide), Nat.le_trans h.2.2.1 (by decide), Nat.le_trans h.2.2.2.1 (by decide), fun x hx => Nat.le_trans (h.2.2.2.2.1 x hx) (by decide),
    fun x hx => (h.2.2.2.2.2.1 x hx).p, fun x hx => (h.2.2.2.2.2.2.1 x hx).x, fun x hx => Nat.le_trans (h.2.2.2.2.2.2.2 x hx) (by decide)⟩
theorem szQu.l {n : Nat} {q : Qy n} (h : szQu q) : szL q :=
  ⟨Nat.le_trans h.1 (by decide), Nat.le_trans h.2.1 (by decide), Nat.le_trans h.2.2.1 (by decide), Nat.le_trans h.2.2.2.1 (by decide), fun x hx => (h.2.2.2.2.2.2.1 x hx).e⟩
end Go.Proofs.YtefjhehgpkljcaaGreatDoor
namespace Go.Proofs.YtefjhehgpkljcaaGreatDoor
open Go Go.RowKit Go.Maps Go.ChangeMaps Um Fm Mt

theorem partsB_cons (p : Pt) (l : List Pt) : partsB (p :: l) = (partB p.1 p.2 && partsB l) := rfl
theorem parts_head (n : Nat) (k : Int) (s : ByteArray) (t : Tm) (ks : List (ExT n)) : partsB (preE (n + 1) ((k, s, t, ks) : ExT (n + 1))) = (partK k s t ks.length (ks.any fun y => !leafB n y) && partsB (ks.flatMap (preE n))) := rfl
theorem parts_kid {n : Nat} {ks : List (ExT n)} {j : Nat} {x : ExT n} (h : ks[j]? = some x) : partsB ((ks.drop j).flatMap (preE n)) = (partsB (preE n x) && partsB ((ks.drop (j + 1)).flatMap (preE n))) := by
  rw [drop_cons_of h, List.flatMap_cons, partsB_app]
theorem kid_len {n : Nat} {ks : List (ExT n)} {x : ExT n} (h : x ∈ ks) : (preE n x).length ≤ (ks.flatMap (preE n)).length := by
  induction ks with
  | nil => cases h
  | cons a r ih =>
    rw [List.flatMap_cons, List.length_append]
    rcases List.mem_cons.1 h with rfl | h
    · omega
    · have := ih h; omega
theorem preE_pos : ∀ (n : Nat) (x : ExT n), 1 ≤ (preE n x).length
  | 0, x => x.elim
  | n + 1, (k, s, t, ks) => by rw [preE, List.length_cons]; omega
theorem kids_len {n : Nat} : ∀ ks : List (ExT n), ks.length ≤ (ks.flatMap (preE n)).length
  | [] => by simp
  | a :: r => by
    have h1 := preE_pos n a
    have h2 := kids_len r
    rw [List.flatMap_cons, List.length_append, List.length_cons]; omega
/-- A kid is a leaf. -/
theorem r22LeafE (n : Nat) (x : ExT n) (cs : List Value) (w : World) (h : RdE n w cs x) : Calls Tryz.prog 195 #[.agg cs.toArray] w fun e w' => e = .returned (.bool (leafB n x)) ∧ Below w.heap.size w w' := by
  match n, x, h with
  | n + 1, (k, s, t, kids), ⟨A, c, he, _, _⟩ =>
    subst he
    exact r22Leaf k s t A kids.length c w
/-- What the table says of a part with so many kids, these leaves or not. -/
def headB (k : Int) (s : ByteArray) (t : Tm) (m : Nat) (l0 l1 : Bool) : Bool :=
  if k == 1 then m == 0 && nameB s && zeroB t
  else if k == 2 then m == 0 && s.toList.isEmpty && toldB t
  else if k == 3 then m == 1 && s.toList.isEmpty && zeroB t
  else if k == 4 || k == 5 then decide (2 ≤ m) && s.toList.isEmpty && zeroB t
  else if decide (6 ≤ k) && decide (k ≤ 11) then m == 2 && l0 && l1 && s.toList.isEmpty && zeroB t
  else if decide (12 ≤ k) && decide (k ≤ 14) then m == 1 && l0 && s.toList.isEmpty && zeroB t
  else false
def kidL {n : Nat} (ks : List (ExT n)) (i : Nat) : Bool := (ks[i]?.map (leafB n)).getD false
theorem partK_head {n : Nat} (k : Int) (s : ByteArray) (t : Tm) (ks : List (ExT n)) (h : ks.length ≤ 40) : partK k s t ks.length (ks.any fun y => !leafB n y) = headB k s t ks.length (kidL ks 0) (kidL ks 1) := by
  unfold headB
  by_cases h1 : k = 1
  · subst h1; unfold partK leafK; simp [Bool.and_assoc]
  by_cases h2 : k = 2
  · subst h2; unfold partK leafK; simp [Bool.and_assoc]
  have e1 : (k == 1) = false := by simpa using h1
  have e2 : (k == 2) = false := by simpa using h2
  unfold partK leafK
  rw [e1, e2]
  simp only [Bool.or_self, Bool.false_eq_true, if_false]
  unfold ruleOf
  by_cases h3 : k = 3
  · subst h3
    simp only [show ((3 : Int) == 3) = true from rfl, if_true]
    generalize ks.length = m
    by_cases hm : m = 1
    · subst hm; cases s.toList.isEmpty <;> cases zeroB t <;> rfl
    · have f1 : (m == 1) = false := by simpa using hm
      have f2 : (decide ((1 : Int) ≤ m) && decide ((m : Int) ≤ 1)) = false := by simp; omega
      rw [f1]
      cases s.toList.isEmpty <;> cases zeroB t <;> simp only [Bool.false_and, Bool.true_and, Bool.and_false, f2]
  have e3 : (k == 3) = false := by simpa using h3
  rw [e3]
  simp only [Bool.false_eq_true, if_false]
  cases e45 : (k == 4 || k == 5)
  · simp only [Bool.false_eq_true, if_false]
    cases e6 : (decide (6 ≤ k) && decide (k ≤ 11))
    · simp only [Bool.false_eq_true, if_false]
      cases e12 : (decide (12 ≤ k) && decide (k ≤ 14))
      · rfl
      · simp only [if_true]
        match ks, h with
        | [], _ => simp [kidL]
        | [a], _ => cases s.toList.isEmpty <;> cases zeroB t <;> cases ha : leafB n a <;> simp [kidL, ha]
        | a :: b :: r, _ => simp; omega
    · simp only [if_true]
      match ks, h with
      | [], _ => simp [kidL]
      | [a], _ => simp [kidL]
      | [a, b], _ => cases s.toList.isEmpty <;> cases zeroB t <;> cases ha : leafB n a <;> cases hb : leafB n b <;> simp [kidL, ha, hb]
      | a :: b :: c :: r, _ => simp; omega
  · simp only [if_true]
    have hm : decide ((ks.length : Int) ≤ 40) = true := by simp; omega
    rw [hm]
    generalize ks.length = m
    cases s.toList.isEmpty <;> cases zeroB t <;> simp
    omega
end Go.Proofs.YtefjhehgpkljcaaGreatDoor
