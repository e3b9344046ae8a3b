/- Lines, plain: tokens read one by one, with a place at which one can't go on; the two readers of an object, of a triple, tell the same. The answer for lines (ossuaryref10): the reader of tokens. -/
import Derived.Test.YtffpgandgajihaaGreatDoorJR9e
import Derived.Test.YtffpgandgajihaaGreatDoorJR8g
namespace Go.Proofs.YtffpgandgajihaaGreatDoor
open Go Go.RowKit Um Fm Lx Tx

/-- What is left of a line, and where it can't go on. -/
structure Ls where
  r : List LTok
  bad : Option Nat
def headK : List LTok → Nat
  | [] => 0
  | t :: _ => t.k
def placeP (n : Nat) : List LTok → Nat
  | [] => n
  | t :: _ => t.p
def tok0 : LTok := ⟨0, ⟨#[]⟩, 0⟩
/-- The next token, if it is of one of some kinds. -/
def mustP (ks : List Nat) (n : Nat) (s : Ls) : LTok × Ls :=
  match s.bad with
  | some _ => (tok0, s)
  | none => match s.r with
    | [] => (tok0, ⟨[], some n⟩)
    | t :: r => if t.k ∈ ks then (t, ⟨r, none⟩) else (tok0, ⟨t :: r, some t.p⟩)
def namedP (t : LTok) : Tm := if t.k = 2 then ⟨2, t.x, ⟨#[]⟩, ⟨#[]⟩⟩ else ⟨1, t.x, ⟨#[]⟩, ⟨#[]⟩⟩
def objC (n : Nat) (s : Ls) : Tm × Ls :=
  let a := mustP [1, 2, 3] n s
  if a.1.k = 3 then
    if headK a.2.r = 4 then
      let b := mustP [4] n a.2
      (⟨3, a.1.x, lowS b.1.x, ⟨#[]⟩⟩, b.2)
    else if headK a.2.r = 5 then
      let b := mustP [5] n a.2
      let c := mustP [1] n b.2
      (typedT a.1.x c.1.x, c.2)
    else (⟨3, a.1.x, ⟨#[]⟩, ⟨#[]⟩⟩, a.2)
  else (namedP a.1, a.2)
def nodeR (n : Nat) (s : Ls) : Tm × Ls :=
  if headK s.r = 2 then
    let a := mustP [2] n s
    (⟨2, a.1.x, ⟨#[]⟩, ⟨#[]⟩⟩, a.2)
  else
    let a := mustP [1] n s
    (⟨1, a.1.x, ⟨#[]⟩, ⟨#[]⟩⟩, a.2)
def objR (n : Nat) (s : Ls) : Tm × Ls :=
  if headK s.r = 3 then
    let a := mustP [3] n s
    if headK a.2.r = 4 then
      let b := mustP [4] n a.2
      (⟨3, a.1.x, lowS b.1.x, ⟨#[]⟩⟩, b.2)
    else if headK a.2.r = 5 then
      let b := mustP [5] n a.2
      let c := mustP [1] n b.2
      (typedT a.1.x c.1.x, c.2)
    else (⟨3, a.1.x, ⟨#[]⟩, ⟨#[]⟩⟩, a.2)
  else nodeR n s
def stopP (s : Ls) : Ls :=
  match s.bad, s.r with
  | none, t :: r => ⟨t :: r, some t.p⟩
  | _, _ => s
theorem mustP_bad {ks : List Nat} {n : Nat} {s : Ls} {p : Nat} (h : s.bad = some p) : mustP ks n s = (tok0, s) := by
  unfold mustP; rw [h]
theorem obj_eq (n : Nat) (s : Ls) (h0 : s.bad = none) :
    (objC n s).2.bad = (objR n s).2.bad ∧ ((objC n s).2.bad = none → objC n s = objR n s) := by
  obtain ⟨r, b⟩ := s
  cases h0
  cases r with
  | nil => simp [objC, objR, nodeR, mustP, headK, tok0, namedP]
  | cons t r =>
    by_cases h3 : t.k = 3
    · have hc : objC n ⟨t :: r, none⟩ = objR n ⟨t :: r, none⟩ := by
        simp [objC, objR, mustP, headK, h3]
      rw [hc]
      exact ⟨rfl, fun _ => rfl⟩
    · by_cases h2 : t.k = 2
      · simp [objC, objR, nodeR, mustP, headK, namedP, h2]
      · by_cases h1 : t.k = 1
        · simp [objC, objR, nodeR, mustP, headK, namedP, h1]
        · simp [objC, objR, nodeR, mustP, headK, namedP, h1, h2, h3, tok0]
theorem objC_bad {n : Nat} {s : Ls} {p : Nat} (h : s.bad = some p) : (objC n s).2 = s := by
  unfold objC
  rw [mustP_bad h]
  rfl
theorem nodeR_bad {n : Nat} {s : Ls} {p : Nat} (h : s.bad = some p) : (nodeR n s).2 = s := by
  unfold nodeR
  rw [mustP_bad h, mustP_bad h]
  split <;> rfl
theorem objR_bad {n : Nat} {s : Ls} {p : Nat} (h : s.bad = some p) : (objR n s).2 = s := by
  unfold objR
  rw [mustP_bad h]
  dsimp only
  rw [mustP_bad h, mustP_bad h]
  dsimp only
  rw [mustP_bad h]
  split
  · split
    · rfl
    · split <;> rfl
  · exact nodeR_bad h
theorem node_eq (n : Nat) (s : Ls) (h0 : s.bad = none) :
    (mustP [1, 2] n s).2 = (nodeR n s).2 ∧ ((mustP [1, 2] n s).2.bad = none → namedP (mustP [1, 2] n s).1 = (nodeR n s).1) := by
  obtain ⟨r, b⟩ := s
  cases h0
  cases r with
  | nil => simp [nodeR, mustP, headK, tok0]
  | cons t r =>
    by_cases h2 : t.k = 2
    · simp [nodeR, mustP, headK, namedP, h2]
    · by_cases h1 : t.k = 1
      · simp [nodeR, mustP, headK, namedP, h1]
      · simp [nodeR, mustP, headK, h1, h2]
theorem one_eq (n : Nat) (s : Ls) : (mustP [1] n s).2.bad = none → namedP (mustP [1] n s).1 = ⟨1, (mustP [1] n s).1.x, ⟨#[]⟩, ⟨#[]⟩⟩ := by
  intro h
  obtain ⟨r, b⟩ := s
  cases b with
  | some p => simp [mustP] at h
  | none =>
    cases r with
    | nil => simp [mustP] at h
    | cons t r =>
      by_cases h1 : t.k = 1
      · simp [mustP, namedP, h1]
      · simp [mustP, h1] at h
def tripC (n : Nat) (s : Ls) : (Tm × Tm × Tm) × Ls :=
  let a := mustP [1, 2] n s
  let b := mustP [1] n a.2
  let c := objC n b.2
  let d := mustP [6] n c.2
  ((namedP a.1, namedP b.1, c.1), d.2)
def tripR (n : Nat) (s : Ls) : (Tm × Tm × Tm) × Ls :=
  let a := nodeR n s
  let b := mustP [1] n a.2
  let c := objR n b.2
  let d := mustP [6] n c.2
  ((a.1, ⟨1, b.1.x, ⟨#[]⟩, ⟨#[]⟩⟩, c.1), d.2)
theorem must_keeps {ks : List Nat} {n : Nat} {s : Ls} (h : (mustP ks n s).2.bad = none) : s.bad = none := by
  obtain ⟨r, b⟩ := s
  cases b with
  | some p => simp [mustP] at h
  | none => rfl
theorem objC_keeps {n : Nat} {s : Ls} (h : (objC n s).2.bad = none) : s.bad = none := by
  cases hb : s.bad with
  | none => rfl
  | some p => rw [objC_bad hb, hb] at h; cases h
/-- Where one is stuck, what is left does not matter. -/
theorem must_same (ks : List Nat) (n : Nat) (s t : Ls) (h : s.bad = t.bad) (hr : s.bad = none → s = t) :
    (mustP ks n s).2.bad = (mustP ks n t).2.bad ∧ ((mustP ks n s).2.bad = none → mustP ks n s = mustP ks n t) := by
  cases hb : s.bad with
  | none => rw [hr hb]; exact ⟨rfl, fun _ => rfl⟩
  | some p =>
    rw [mustP_bad hb, mustP_bad (h ▸ hb)]
    refine ⟨h, fun hx => ?_⟩
    rw [show (tok0, s).2 = s from rfl, hb] at hx
    cases hx
theorem trip_eq (n : Nat) (s : Ls) (h0 : s.bad = none) :
    (tripC n s).2.bad = (tripR n s).2.bad ∧ ((tripC n s).2.bad = none → tripC n s = tripR n s) := by
  obtain ⟨n1, n2⟩ := node_eq n s h0
  have o1 := one_eq n (mustP [1, 2] n s).2
  unfold tripC tripR
  dsimp only
  rw [← n1]
  generalize ha : mustP [1, 2] n s = a at *
  generalize hb : mustP [1] n a.2 = b at *
  cases hbb : b.2.bad with
  | none =>
    obtain ⟨c1, c2⟩ := obj_eq n b.2 hbb
    have d := must_same [6] n (objC n b.2).2 (objR n b.2).2 c1 (fun h => by rw [c2 h])
    refine ⟨d.1, fun h => ?_⟩
    have hc := must_keeps h
    have hab : a.2.bad = none := must_keeps (by rw [hb]; exact hbb)
    rw [d.2 h, c2 hc, n2 hab, o1 hbb]
  | some p =>
    rw [mustP_bad (s := (objC n b.2).2) (by rw [objC_bad hbb]; exact hbb), mustP_bad (s := (objR n b.2).2) (by rw [objR_bad hbb]; exact hbb)]
    dsimp only
    rw [objC_bad hbb, objR_bad hbb]
    refine ⟨rfl, fun h => ?_⟩
    rw [hbb] at h
    cases h
theorem end_same (s t : Ls) (h : s.bad = t.bad) (hr : s.bad = none → s = t) : (stopP s).bad = (stopP t).bad := by
  cases hb : s.bad with
  | none => rw [hr hb]
  | some p =>
    unfold stopP
    rw [hb, ← h, hb]
    dsimp only
    rw [← h, hb]
end Go.Proofs.YtffpgandgajihaaGreatDoor
namespace Go.Proofs.YtffpgandgajihaaGreatDoor
open Go Go.RowKit Um Fm Lx Tx
/-- The answer's reader in memory: its tokens, where it is, the line's length, where it is stuck. -/
def RkAt (w : World) (b : Nat) (ts : List LTok) (at_ n : Nat) (bad : Int) : Prop := ∃ (A : Option Addr) (c : Nat), w.heap[b]? = some (.cells #[.slice A ts.length c, .int .i64 at_, .int .i64 n, .int .i64 bad] 126 (0, 0)) ∧ (∀ a, A = some a → a.block < b) ∧ RdL 3 (fun cs t => cs = tokC t) w A ts
theorem tok_at {w : World} {A : Option Addr} {l : List LTok} (h : RdL 3 (fun cs t => cs = tokC t) w A l) {j : Nat} {t : LTok} (he : l[j]? = some t) :
    ∃ g o, A = some ⟨g, o, none⟩ ∧ w.cell? ⟨g, o + j * 3, none⟩ = some (.int .i64 t.k) ∧ w.cell? ⟨g, o + j * 3 + 1, none⟩ = some (.string t.x) ∧
      w.cell? ⟨g, o + j * 3 + 2, none⟩ = some (.int .i64 t.p) := by
  obtain ⟨g, o, cs, hA, _, hcs, hx⟩ := RdL.at_ h (by omega) he
  subst hcs
  exact ⟨g, o, hA, hx 0 _ rfl, hx 1 _ rfl, hx 2 _ rfl⟩
theorem RkAt.lt {w : World} {b : Nat} {ts : List LTok} {k n : Nat} {z : Int} (h : RkAt w b ts k n z) : b < w.heap.size := by
  obtain ⟨A, c, hb, _, _⟩ := h
  exact (Array.getElem?_eq_some_iff.1 hb).1
theorem RkAt.below {w w' : World} {b : Nat} {ts : List LTok} {k n : Nat} {z : Int} (h : RkAt w b ts k n z) (hB : Below w.heap.size w w') : RkAt w' b ts k n z := by
  have hlt := h.lt
  obtain ⟨A, c, hb, hA, hR⟩ := h
  exact ⟨A, c, by rw [hB.block b hlt]; exact hb, hA, hR.mono hB fun _ _ _ h => h⟩
theorem RkAt.cells {w : World} {b : Nat} {ts : List LTok} {k n : Nat} {z : Int} (h : RkAt w b ts k n z) : ∃ (A : Option Addr) (c : Nat), RdL 3 (fun cs t => cs = tokC t) w A ts ∧
    (∀ (d : Nat) (os : Array Obj), (Sort.grow (redrawn w d) os).cell? ⟨b, 0, none⟩ = some (.slice A ts.length c)) ∧ (∀ (d : Nat) (os : Array Obj), (Sort.grow (redrawn w d) os).cell? ⟨b, 1, none⟩ = some (.int .i64 k)) ∧
    (∀ (d : Nat) (os : Array Obj), (Sort.grow (redrawn w d) os).cell? ⟨b, 2, none⟩ = some (.int .i64 n)) ∧ (∀ (d : Nat) (os : Array Obj), (Sort.grow (redrawn w d) os).cell? ⟨b, 3, none⟩ = some (.int .i64 z)) := by
  obtain ⟨A, c, hb, _, hR⟩ := h
  exact ⟨A, c, hR, fun d os => cell_regrown (by simp [World.cell?, hb]) d os, fun d os => cell_regrown (by simp [World.cell?, hb]) d os, fun d os => cell_regrown (by simp [World.cell?, hb]) d os, fun d os => cell_regrown (by simp [World.cell?, hb]) d os⟩
theorem rdl_set {w : World} {A : Option Addr} {l : List LTok} (h : RdL 3 (fun cs t => cs = tokC t) w A l) {b : Nat} (hA : ∀ a, A = some a → a.block ≠ b) (i : Nat) (v : Value) : RdL 3 (fun cs t => cs = tokC t) (w.setCell ⟨b, i, none⟩ v) A l := by
  obtain ⟨xs, hr, ha⟩ := h
  exact ⟨xs, rd_set hr hA i v, ha⟩
theorem RkAt.fz {w : World} {b : Nat} {ts : List LTok} {k n : Nat} {z : Int} (h : RkAt w b ts k n z) (i : Nat) : w.frozen? ⟨b, i, none⟩ = false := by
  obtain ⟨A, c, hb, _, _⟩ := h
  simp [World.frozen?, hb]
theorem RkAt.setBad {w : World} {b : Nat} {ts : List LTok} {k n : Nat} {z : Int} (h : RkAt w b ts k n z) (y : Int) : RkAt (w.setCell ⟨b, 3, none⟩ (.int .i64 y)) b ts k n y := by
  obtain ⟨A, c, hb, hA, hR⟩ := h
  exact ⟨A, c, by simp [World.setCell, Array.getElem?_modify, hb], hA, rdl_set hR (fun a e => Nat.ne_of_lt (hA a e)) 3 _⟩
theorem RkAt.setAt {w : World} {b : Nat} {ts : List LTok} {k n : Nat} {z : Int} (h : RkAt w b ts k n z) {k' : Nat} {y : Int} (hy : y = k') : RkAt (w.setCell ⟨b, 1, none⟩ (.int .i64 y)) b ts k' n z := by
  subst hy
  obtain ⟨A, c, hb, hA, hR⟩ := h
  exact ⟨A, c, by simp [World.setCell, Array.getElem?_modify, hb], hA, rdl_set hR (fun a e => Nat.ne_of_lt (hA a e)) 1 _⟩
theorem RkAt.other {w : World} {b : Nat} {ts : List LTok} {k n : Nat} {z : Int} (h : RkAt w b ts k n z) {tb : Nat} (ht : b < tb) (i : Nat) (v : Value) : RkAt (w.setCell ⟨tb, i, none⟩ v) b ts k n z := by
  obtain ⟨A, c, hb, hA, hR⟩ := h
  exact ⟨A, c, by rw [Below.heap_setCell w ⟨tb, i, none⟩ v b (fun e => by simp only at e; omega)]; exact hb, hA, rdl_set hR (fun a e => by have := hA a e; omega) i _⟩
set_option maxHeartbeats 2000000 in
theorem rkKind (ts : List LTok) (k n b : Nat) (z : Int) (w : World) (h : RkAt w b ts k n z) :
    Calls Tryz.prog 104 #[.pointer (some ⟨b, 0, none⟩)] w fun e w' => e = .returned (.int .i64 (headK (ts.drop k))) ∧ Below w.heap.size w w' := by
  obtain ⟨A, c, hR, h0, h1, _, _⟩ := h.cells
  have H := Lib.hid h
  clear h hR
  by_cases hk : k < ts.length
  · have hv : Hid (headK (ts.drop k) = ts[k].k) := by show _ = _; rw [List.drop_eq_getElem_cons hk]; rfl
    have hd : decide (ts.length ≤ k) = false := by simp; omega
    go_enter Tryz.func104, Tryz.ntmps104
    go_wp2
    refine wp_region_quiet_below (by kernel_rfl) (by kernel_rfl) ?_; (repeat (any_goals (go_big_quiet_step (fail)))); all_goals (refine wpQuiet_nil ?_; intro _ hw9; obtain ⟨⟨d9, os9⟩, hw8⟩ := hw9; subst hw8)
    clear h0 h1
    have kq := below_regrown w d9 os9
    generalize Sort.grow (redrawn w d9) os9 = W1 at *
    go_wp2
    obtain ⟨A1, c1, hR1, h0, h1, _, _⟩ := (H.out.below kq).cells
    obtain ⟨g, o, rfl, e1, _, _⟩ := tok_at hR1 (List.getElem?_eq_getElem hk)
    have e2 : ∀ (d : Nat) (os : Array Obj), (Sort.grow (redrawn W1 d) os).cell? ⟨g, o + k * 3, none⟩ = some (.int .i64 ts[k].k) := fun d os => cell_regrown e1 d os
    clear hR1 e1
    refine wp_region_quiet_below (by kernel_rfl) (by kernel_rfl) ?_; (repeat (any_goals (go_big_quiet_step (fail)))); all_goals (refine wpQuiet_nil ?_; intro _ hw9; obtain ⟨⟨d9, os9⟩, hw8⟩ := hw9; subst hw8)
    clear h0 h1 e2
    go_wp2
    go_ret
    exact ⟨by rw [hv.out]; rfl, below_tr kq (below_regrown _ _ _)⟩
  · have hv : Hid (headK (ts.drop k) = 0) := by show _ = _; rw [List.drop_eq_nil_of_le (by omega)]; rfl
    have hd : decide (ts.length ≤ k) = true := by simp; omega
    go_enter Tryz.func104, Tryz.ntmps104
    go_wp2
    refine wp_region_quiet_below (by kernel_rfl) (by kernel_rfl) ?_; (repeat (any_goals (go_big_quiet_step (fail)))); all_goals (refine wpQuiet_nil ?_; intro _ hw9; obtain ⟨⟨d9, os9⟩, hw8⟩ := hw9; subst hw8)
    clear h0 h1
    go_wp2
    go_ret
    exact ⟨by rw [hv.out]; rfl, below_regrown _ _ _⟩
end Go.Proofs.YtffpgandgajihaaGreatDoor
