/- Lines one by one, plainly: what Parse tells of them, of texts behind one another, of lines joined anew. What Parse tells of a text's lines is right: plainly. kit.SameTriples at a list and itself; kit.Pick. -/
import Derived.Test.YtffpgandgajihaaGreatDoorJLnBack
import Derived.Test.YtffpgandgajihaaGreatDoorJLaw10a
namespace Go.Proofs.YtffpgandgajihaaGreatDoor
open Go Go.RowKit Um Fm Lx Tx

theorem line_err (l : List UInt8) : (lineL l).2.2 = 0 ∨ (lineL l).2.2 = 10 ∨ (lineL l).2.2 = 11 := by
  by_cases hv : vld l
  · cases hl : lnL l 0 with
    | ok ts => left; rw [lineL_ok hv hl]
    | error e => right; left; rw [lineL_no hv hl]
  · right; right
    have h2 : (sgn l).2.2 = false := by simpa [vld] using hv
    unfold lineL
    rw [h2]; rfl
theorem told_err {α : Type} (z : α) (o : α × Ls) : (told z o).2.2.2 = 0 ∨ (told z o).2.2.2 = 10 := by
  unfold told
  cases (stopP o.2).bad
  · left; rfl
  · right; rfl
theorem row_err (r : List UInt8) : (rowT r).2.2.2 = 0 ∨ (rowT r).2.2.2 = 10 ∨ (rowT r).2.2.2 = 11 := by
  unfold rowT readL
  split
  · split
    · left; rfl
    · rcases told_err zTp (tripT r.length ⟨(lineL r).1, none⟩) with h | h
      · left; exact h
      · right; left; exact h
  · exact line_err r
theorem row_at {r : List UInt8} (hl : r.length ≤ 100000) : (rowT r).2.2.1 ≤ r.length := by
  unfold rowT readL
  split
  · split
    · exact Nat.zero_le _
    · exact told_at (trip_inl (toks_inl r hl))
  · exact line_at r
theorem row_nil : rowT [] = (zTp, false, 0, 0) := by kernel_rfl
/-- The triples of some lines. -/
def okR (rows : List (List UInt8)) : List Tp := rows.flatMap fun r => if (rowT r).2.1 = true then [(rowT r).1] else []
/-- A line that may stand. -/
def fine (r : List UInt8) : Prop := (rowT r).2.2.2 = 0 ∧ ((rowT r).2.1 = true → longP (rowT r).1 = false)
theorem goP_cons (r : List UInt8) (rs : List (List UInt8)) (k : Nat) (acc : List Tp) (over : Nat) : goP (r :: rs) k acc over = if (rowT r).2.2.2 ≠ 0 then ([], k + 1, (rowT r).2.2.1, (rowT r).2.2.2)
    else goP rs (k + 1) (if (rowT r).2.1 = true then acc ++ [(rowT r).1] else acc) (if over = 0 ∧ (rowT r).2.1 = true ∧ longP (rowT r).1 = true then k + 1 else over) := by rw [goP]
theorem goP_nil (k : Nat) (acc : List Tp) (over : Nat) : goP [] k acc over = if over = 0 then (acc, 0, 0, 0) else ([], over, 0, 3) := by rw [goP]
theorem goP_fine : ∀ (rows : List (List UInt8)) (k : Nat) (acc : List Tp) (rest : List (List UInt8)), (∀ r ∈ rows, fine r) → goP (rows ++ rest) k acc 0 = goP rest (k + rows.length) (acc ++ okR rows) 0
  | [], k, acc, rest, _ => by simp [okR]
  | r :: rows, k, acc, rest, h => by
    obtain ⟨h1, h2⟩ := h r (by simp)
    have ih := goP_fine rows (k + 1) (if (rowT r).2.1 = true then acc ++ [(rowT r).1] else acc) rest (fun x hx => h x (by simp [hx]))
    rw [List.cons_append, goP_cons, if_neg (show ¬ (rowT r).2.2.2 ≠ 0 by rw [h1]; simp), if_neg (show ¬ ((0 : Nat) = 0 ∧ (rowT r).2.1 = true ∧ longP (rowT r).1 = true) by rintro ⟨_, h3, h4⟩; rw [h2 h3] at h4; cases h4), ih, List.length_cons, show k + 1 + rows.length = k + (rows.length + 1) by omega]
    congr 1
    unfold okR
    rw [List.flatMap_cons]
    split
    · rw [List.append_assoc]
    · rfl
theorem goP_ok : ∀ (rows : List (List UInt8)) (k : Nat) (acc : List Tp) (over : Nat), (goP rows k acc over).2.2.2 = 0 → over = 0 ∧ (∀ r ∈ rows, fine r)
  | [], k, acc, over, h => by
    rw [goP] at h
    split at h
    · next h0 => exact ⟨h0, fun r hr => by cases hr⟩
    · cases h
  | r :: rows, k, acc, over, h => by
    rw [goP] at h
    by_cases he : (rowT r).2.2.2 ≠ 0
    · rw [if_pos he] at h
      exact absurd h he
    · rw [if_neg he] at h
      obtain ⟨h1, h2⟩ := goP_ok rows _ _ _ h
      split at h1
      · cases h1
      · next hn =>
        refine ⟨h1, fun x hx => ?_⟩
        rw [List.mem_cons] at hx
        rcases hx with rfl | hx
        · refine ⟨by simpa using he, fun hok => ?_⟩
          cases hq : longP (rowT x).1
          · rfl
          · exact absurd ⟨h1, hok, hq⟩ hn
        · exact h2 x hx
theorem par_ok {l : List UInt8} (h : (parL l).2.2.2 = 0) : (∀ r ∈ splitL l, fine r) ∧ parL l = (okR (splitL l), 0, 0, 0) := by
  have h1 := (goP_ok _ _ _ _ h).2
  refine ⟨h1, ?_⟩
  have := goP_fine (splitL l) 0 [] [] h1
  rw [List.append_nil] at this
  unfold parL
  rw [this, goP_nil, if_pos rfl, List.nil_append]
/-- Numbers of lines shift. -/
def shG (p : List Tp) (d : Nat) (q : List Tp × Nat × Nat × Int) : List Tp × Nat × Nat × Int := if q.2.2.2 = 0 then (p ++ q.1, 0, 0, 0) else ([], q.2.1 + d, q.2.2.1, q.2.2.2)
theorem goP_shift (p : List Tp) (d : Nat) : ∀ (rows : List (List UInt8)) (k : Nat) (acc : List Tp) (over : Nat), goP rows (k + d) (p ++ acc) (if over = 0 then 0 else over + d) = shG p d (goP rows k acc over)
  | [], k, acc, over => by
    rw [goP_nil, goP_nil]
    by_cases h : over = 0
    · rw [if_pos h, if_pos rfl, if_pos h]; rfl
    · rw [if_neg h, if_neg (show ¬ over + d = 0 by omega), if_neg h]; rfl
  | r :: rows, k, acc, over => by
    rw [goP_cons, goP_cons]
    by_cases he : (rowT r).2.2.2 ≠ 0
    · rw [if_pos he, if_pos he]
      unfold shG
      rw [if_neg he, show k + d + 1 = k + 1 + d by omega]
    · rw [if_neg he, if_neg he, ← goP_shift p d rows]
      have e1 : (if (rowT r).2.1 = true then (p ++ acc) ++ [(rowT r).1] else p ++ acc) = p ++ (if (rowT r).2.1 = true then acc ++ [(rowT r).1] else acc) := by
        split
        · rw [List.append_assoc]
        · rfl
      rw [e1, show k + d + 1 = k + 1 + d by omega]
      congr 1
      by_cases hq : (rowT r).2.1 = true ∧ longP (rowT r).1 = true
      · by_cases h : over = 0
        · rw [if_pos h, if_pos (show (0 : Nat) = 0 ∧ (rowT r).2.1 = true ∧ longP (rowT r).1 = true from ⟨rfl, hq⟩), if_pos (show over = 0 ∧ (rowT r).2.1 = true ∧ longP (rowT r).1 = true from ⟨h, hq⟩), if_neg (show ¬ k + 1 = 0 by omega)]
        · rw [if_neg h, if_neg (show ¬ (over + d = 0 ∧ (rowT r).2.1 = true ∧ longP (rowT r).1 = true) from fun x => by have := x.1; omega), if_neg (show ¬ (over = 0 ∧ (rowT r).2.1 = true ∧ longP (rowT r).1 = true) from fun x => h x.1), if_neg h]
      · rw [if_neg (show ¬ ((if over = 0 then 0 else over + d) = 0 ∧ (rowT r).2.1 = true ∧ longP (rowT r).1 = true) from fun x => hq x.2), if_neg (show ¬ (over = 0 ∧ (rowT r).2.1 = true ∧ longP (rowT r).1 = true) from fun x => hq x.2)]
theorem shG_none {p : List Tp} {d : Nat} {q : List Tp × Nat × Nat × Int} (h : q.2.2.2 ≠ 0) : (shG p d q).2 = (q.2.1 + d, q.2.2.1, q.2.2.2) := by unfold shG; rw [if_neg h]
theorem goP_at (p : List Tp) (d : Nat) (rows : List (List UInt8)) : goP rows d p 0 = shG p d (goP rows 0 [] 0) := by
  have := goP_shift p d rows 0 [] 0
  rw [if_pos rfl, List.append_nil, Nat.zero_add] at this
  exact this
/-- A line without a token. -/
def bare (r : List UInt8) : Prop := rowT r = (zTp, false, 0, 0)
theorem bare_fine {r : List UInt8} (h : bare r) : fine r := by
  unfold fine
  rw [h]
  exact ⟨rfl, fun x => by cases x⟩
theorem bare_ok : ∀ {rows : List (List UInt8)}, (∀ r ∈ rows, bare r) → okR rows = []
  | [], _ => rfl
  | r :: rows, h => by
    unfold okR
    rw [List.flatMap_cons, h r (by simp), if_neg (by simp), List.nil_append]
    exact bare_ok fun x hx => h x (by simp [hx])
theorem okR_app (a b : List (List UInt8)) : okR (a ++ b) = okR a ++ okR b := List.flatMap_append
/-- Bare lines at the end change nothing. -/
theorem goP_bare {bl : List (List UInt8)} (hb : ∀ r ∈ bl, bare r) : ∀ (rows : List (List UInt8)) (k : Nat) (acc : List Tp) (over : Nat), goP (rows ++ bl) k acc over = goP rows k acc over
  | [], k, acc, over => by
    rw [List.nil_append]
    induction bl generalizing k with
    | nil => rfl
    | cons r bl ih =>
      have h1 := hb r (by simp)
      unfold bare at h1
      rw [goP_cons, h1]
      show (if (0 : Int) ≠ 0 then _ else goP bl (k + 1) (if false = true then _ else acc) (if over = 0 ∧ false = true ∧ longP zTp = true then k + 1 else over)) = _
      rw [if_neg (show ¬ (0 : Int) ≠ 0 by simp), if_neg (show ¬ false = true by simp), if_neg (show ¬ (over = 0 ∧ false = true ∧ longP zTp = true) from fun x => by cases x.2.1)]
      rw [ih (fun x hx => hb x (by simp [hx])), goP_nil, goP_nil]
  | r :: rows, k, acc, over => by
    rw [List.cons_append, goP_cons, goP_cons]
    split
    · rfl
    · exact goP_bare hb rows _ _ _
theorem bare_nil : bare [] := row_nil
theorem bare_rem : bare [35, 32, 114] := by unfold bare; kernel_rfl
theorem bare_blk : bare [32, 9] := by unfold bare; kernel_rfl
end Go.Proofs.YtffpgandgajihaaGreatDoor
namespace Go.Proofs.YtffpgandgajihaaGreatDoor
open Go Go.RowKit Um Fm Lx Tx

/-- How many tokens an object is. -/
def cntP (o : Tm) (c : Nat) : Prop := (o.k = 3 ∧ o.l.size ≠ 0 → c = 2) ∧ (o.k = 4 → c = 3) ∧ (¬ (o.k = 3 ∧ o.l.size ≠ 0) → o.k ≠ 4 → c = 1 ∨ c = 3)
theorem low_size (x : ByteArray) : (lowS x).size = x.data.toList.length := by unfold lowS; rw [mkS_size, List.length_map]
theorem obj_count {n : Nat} {s : Ls} (hs : ∀ t ∈ s.r, TokG t) (h : (objC n s).2.bad = none) : ∃ c, s.r.length = (objC n s).2.r.length + c ∧ cntP (objC n s).1 c := by
  unfold objC at h ⊢
  dsimp only at h ⊢
  by_cases h3 : (mustP [1, 2, 3] n s).1.k = 3
  · rw [if_pos h3] at h ⊢
    by_cases h4 : headK (mustP [1, 2, 3] n s).2.r = 4
    · rw [if_pos h4] at h ⊢
      dsimp only at h ⊢
      obtain ⟨t2, r2, e2, k2, m2⟩ := must_took h
      obtain ⟨t1, r1, rfl, k1, m1⟩ := must_took (must_keeps h)
      rw [m1] at e2 m2 ⊢
      cases e2
      rw [m2]
      have g2 := hs t2 (by simp)
      have h0 : t2.x.data.toList.length ≠ 0 := fun e => g2.g0 (by simpa using k2) (List.eq_nil_of_length_eq_zero e)
      refine ⟨2, by simp, fun _ => rfl, fun e => (by cases e), fun e => absurd ⟨rfl, ?_⟩ e⟩
      show (lowS t2.x).size ≠ 0
      rw [low_size]
      exact h0
    · rw [if_neg h4] at h ⊢
      by_cases h5 : headK (mustP [1, 2, 3] n s).2.r = 5
      · rw [if_pos h5] at h ⊢
        dsimp only at h ⊢
        obtain ⟨t3, r3, e3, k3, m3⟩ := must_took h
        obtain ⟨t2, r2, e2, k2, m2⟩ := must_took (must_keeps h)
        obtain ⟨t1, r1, rfl, k1, m1⟩ := must_took (must_keeps (must_keeps h))
        rw [m1] at e2 m2 e3 m3 ⊢
        cases e2
        rw [m2] at e3 m3 ⊢
        cases e3
        rw [m3]
        refine ⟨3, by simp, ?_⟩
        cases hq : (t3.x.toList == xsdL)
        · rw [typed_no hq]
          exact ⟨fun e => (by cases e.1), fun _ => rfl, fun _ e => absurd rfl e⟩
        · rw [typed_yes hq]
          exact ⟨fun e => absurd rfl e.2, fun e => (by cases e), fun _ _ => .inr rfl⟩
      · rw [if_neg h5] at h ⊢
        dsimp only at h ⊢
        obtain ⟨t1, r1, rfl, k1, m1⟩ := must_took h
        rw [m1]
        exact ⟨1, by simp, fun e => absurd rfl e.2, fun e => (by cases e), fun _ _ => .inl rfl⟩
  · rw [if_neg h3] at h ⊢
    dsimp only at h ⊢
    obtain ⟨t1, r1, rfl, k1, m1⟩ := must_took h
    rw [m1]
    refine ⟨1, by simp, ?_⟩
    unfold namedP
    split
    · exact ⟨fun e => (by cases e.1), fun e => (by cases e), fun _ _ => .inl rfl⟩
    · exact ⟨fun e => (by cases e.1), fun e => (by cases e), fun _ _ => .inl rfl⟩
theorem stop_nil {s : Ls} (h : (stopP s).bad = none) : s.bad = none ∧ s.r = [] := by
  obtain ⟨r, b⟩ := s
  cases b with
  | some p => simp [stopP] at h
  | none =>
    cases r with
    | nil => exact ⟨rfl, rfl⟩
    | cons t r => simp [stopP] at h
theorem named1 {t : LTok} (h : t.k = 1) : namedP t = ⟨1, t.x, ⟨#[]⟩, ⟨#[]⟩⟩ := by unfold namedP; rw [if_neg (by rw [h]; decide)]
theorem named2 {t : LTok} (h : t.k = 2) : namedP t = ⟨2, t.x, ⟨#[]⟩, ⟨#[]⟩⟩ := by unfold namedP; rw [if_pos h]
theorem trip_right {n : Nat} {s : Ls} (hs : ∀ t ∈ s.r, TokG t) (h : (stopP (tripT n s).2).bad = none) : tripB (tripT n s).1 = true ∧ ∃ c, s.r.length = c + 3 ∧ cntP (tripT n s).1.o c := by
  obtain ⟨h1, h2⟩ := stop_nil h
  unfold tripT tripC at h1 h2 ⊢
  dsimp only at h1 h2 ⊢
  obtain ⟨t4, r4, e4, k4, m4⟩ := must_took h1
  have hb3 : (objC n (mustP [1] n (mustP [1, 2] n s).2).2).2.bad = none := must_keeps h1
  obtain ⟨t2, r2, e2, k2, m2⟩ := must_took (objC_keeps hb3)
  obtain ⟨t1, r1, rfl, k1, m1⟩ := must_took (must_keeps (objC_keeps hb3))
  rw [m1] at e2 m2 ⊢
  cases e2
  rw [m1, m2] at hb3 e4 m4 h2
  rw [m2]
  simp only at hb3 e4 m4 h2 ⊢
  rw [m4] at h2
  simp only at h2
  subst h2
  have hs2 : ∀ t ∈ r2, TokG t := fun t ht => hs t (by simp [ht])
  obtain ⟨c, hc, hcnt⟩ := obj_count (s := ⟨r2, none⟩) hs2 hb3
  obtain ⟨hr, -⟩ := obj_right (s := ⟨r2, none⟩) hs2 hb3
  have g1 := hs t1 (by simp)
  have g2 := hs t2 (by simp)
  have hk2 : t2.k = 1 := by simpa using k2
  have hk1 : t1.k = 1 ∨ t1.k = 2 := by simpa using k1
  refine ⟨?_, c, ?_, hcnt⟩
  · unfold tripB
    dsimp only
    rw [named1 hk2, hr, right1 g2.v]
    rcases hk1 with e | e
    · rw [named1 e, right1 g1.v]; rfl
    · rw [named2 e, right2 (g1.b e)]; rfl
  · simp only [List.length_cons] at hc ⊢
    rw [e4] at hc
    simp only [List.length_cons, List.length_nil] at hc
    omega
/-- What a line without an error says. -/
theorem row_good {r : List UInt8} (hl : r.length ≤ 100000) (h : (rowT r).2.2.2 = 0) : (lineL r).2.2 = 0 ∧ ((lineL r).1 = [] → (rowT r).2.1 = false) ∧
    ((lineL r).1 ≠ [] → (rowT r).2.1 = true ∧ tripB (rowT r).1 = true ∧ ∃ c, (lineL r).1.length = c + 3 ∧ cntP (rowT r).1.o c) := by
  have ht := (line_toks r hl).2.1
  unfold rowT readL at h ⊢
  by_cases h0 : (lineL r).2.2 = 0
  · rw [if_pos h0] at h ⊢
    refine ⟨h0, fun hn => by rw [if_pos ⟨rfl, hn⟩], fun hn => ?_⟩
    rw [if_neg (fun x => hn x.2)] at h ⊢
    unfold told at h ⊢
    cases hb : (stopP (tripT r.length ⟨(lineL r).1, none⟩).2).bad with
    | some p => rw [hb] at h; cases h
    | none => exact ⟨rfl, trip_right ht hb⟩
  · rw [if_neg h0] at h
    exact absurd h h0
theorem right_obj {t : Tp} (h : tripB t = true) : rightB t.o = true := by
  unfold tripB at h
  rw [Bool.and_eq_true] at h
  exact h.2
/-- A fine line's object can be shown. -/
theorem obj_shown {r : List UInt8} (h : fine r) (hk : (rowT r).2.1 = true) (ht : tripB (rowT r).1 = true) : (showP (rowT r).1.o).2 = 0 := by
  have h1 := h.2 hk
  unfold longP at h1
  simp only [List.any_cons, List.any_nil, Bool.or_false, Bool.or_eq_false_iff] at h1
  have h2 := h1.2.2
  unfold longB at h2
  unfold showP at h2 ⊢
  rw [right_obj ht, if_pos rfl] at h2 ⊢
  split
  · next h3 => rw [if_pos h3] at h2; cases h2
  · rfl
/-- One line, parsed. -/
theorem par_one {r : List UInt8} (hr : ∀ b ∈ r, b ≠ 10 ∧ b ≠ 13) : parL r = goP [r] 0 [] 0 := by
  by_cases h : r = []
  · subst h
    rw [goP_cons, row_nil]
    show goP [] 0 [] 0 = goP [] 1 [] 0
    rw [goP_nil, goP_nil]
  · unfold parL
    rw [split_flat hr h]
theorem par_bad {r : List UInt8} (hr : ∀ b ∈ r, b ≠ 10 ∧ b ≠ 13) (h : (rowT r).2.2.2 ≠ 0) : parL r = ([], 1, (rowT r).2.2.1, (rowT r).2.2.2) := by
  rw [par_one hr, goP_cons, if_pos h]
theorem par_long {r : List UInt8} (hr : ∀ b ∈ r, b ≠ 10 ∧ b ≠ 13) (h : (rowT r).2.2.2 = 0) (h1 : (rowT r).2.1 = true) (h2 : longP (rowT r).1 = true) : parL r = ([], 1, 0, 3) := by
  have hq : (0 : Nat) = 0 ∧ (rowT r).2.1 = true ∧ longP (rowT r).1 = true := ⟨rfl, h1, h2⟩
  rw [par_one hr, goP_cons, if_neg (fun x => x h), goP_nil, if_pos hq, if_neg (by omega)]
theorem par_none {r : List UInt8} (hr : ∀ b ∈ r, b ≠ 10 ∧ b ≠ 13) (h : (rowT r).2.2.2 = 0) (h1 : ¬ ((rowT r).2.1 = true ∧ longP (rowT r).1 = true)) : (parL r).2.2.2 = 0 := by
  have hq : ¬ ((0 : Nat) = 0 ∧ (rowT r).2.1 = true ∧ longP (rowT r).1 = true) := fun x => h1 x.2
  rw [par_one hr, goP_cons, if_neg (fun x => x h), goP_nil, if_neg hq, if_pos rfl]
/-- The first bad line, or the first long one. -/
theorem goP_bad : ∀ (rows : List (List UInt8)) (k : Nat) (acc : List Tp) (over : Nat), (goP rows k acc over).2.2.2 ≠ 0 →
    (∃ i r, rows[i]? = some r ∧ (rowT r).2.2.2 ≠ 0 ∧ goP rows k acc over = ([], k + i + 1, (rowT r).2.2.1, (rowT r).2.2.2) ∧ ∀ j q, j < i → rows[j]? = some q → (rowT q).2.2.2 = 0) ∨
    ((∀ q ∈ rows, (rowT q).2.2.2 = 0) ∧ over ≠ 0 ∧ goP rows k acc over = ([], over, 0, 3)) ∨
    ((∀ q ∈ rows, (rowT q).2.2.2 = 0) ∧ over = 0 ∧ ∃ i r, rows[i]? = some r ∧ (rowT r).2.1 = true ∧ longP (rowT r).1 = true ∧ goP rows k acc over = ([], k + i + 1, 0, 3) ∧ ∀ j q, j < i → rows[j]? = some q → ¬ ((rowT q).2.1 = true ∧ longP (rowT q).1 = true))
  | [], k, acc, over, h => by
    rw [goP_nil] at h ⊢
    by_cases h0 : over = 0
    · rw [if_pos h0] at h
      exact absurd rfl h
    · rw [if_neg h0]
      exact .inr (.inl ⟨fun q hq => (by cases hq), h0, rfl⟩)
  | r :: rows, k, acc, over, h => by
    rw [goP_cons] at h ⊢
    by_cases he : (rowT r).2.2.2 ≠ 0
    · rw [if_pos he]
      exact .inl ⟨0, r, rfl, he, rfl, fun j q hj => absurd hj (by omega)⟩
    · rw [if_neg he] at h ⊢
      have he0 : (rowT r).2.2.2 = 0 := by simpa using he
      rcases goP_bad rows _ _ _ h with ⟨i, x, h1, h2, h3, h4⟩ | ⟨h1, h2, h3⟩ | ⟨h1, h2, i, x, h3, h4, h5, h6, h7⟩
      · refine .inl ⟨i + 1, x, by rw [List.getElem?_cons_succ]; exact h1, h2, by rw [h3, show k + 1 + i + 1 = k + (i + 1) + 1 by omega], fun j q hj hq => ?_⟩
        cases j with
        | zero =>
          simp only [List.getElem?_cons_zero, Option.some.injEq] at hq
          subst hq
          exact he0
        | succ j =>
          rw [List.getElem?_cons_succ] at hq
          exact h4 j q (by omega) hq
      · have hall : ∀ q ∈ r :: rows, (rowT q).2.2.2 = 0 := fun q hq => by
          rw [List.mem_cons] at hq
          rcases hq with rfl | hq
          · exact he0
          · exact h1 q hq
        by_cases hq : over = 0 ∧ (rowT r).2.1 = true ∧ longP (rowT r).1 = true
        · rw [if_pos hq] at h3 ⊢
          exact .inr (.inr ⟨hall, hq.1, 0, r, rfl, hq.2.1, hq.2.2, h3, fun j q hj => absurd hj (by omega)⟩)
        · rw [if_neg hq] at h2 h3 ⊢
          exact .inr (.inl ⟨hall, h2, h3⟩)
      · have hall : ∀ q ∈ r :: rows, (rowT q).2.2.2 = 0 := fun q hq => by
          rw [List.mem_cons] at hq
          rcases hq with rfl | hq
          · exact he0
          · exact h1 q hq
        by_cases hq : over = 0 ∧ (rowT r).2.1 = true ∧ longP (rowT r).1 = true
        · rw [if_pos hq] at h2
          exact absurd h2 (by omega)
        · rw [if_neg hq] at h2 h6 ⊢
          refine .inr (.inr ⟨hall, h2, i + 1, x, by rw [List.getElem?_cons_succ]; exact h3, h4, h5, by rw [h6, show k + 1 + i + 1 = k + (i + 1) + 1 by omega], fun j q hj hjq => ?_⟩)
          cases j with
          | zero =>
            simp only [List.getElem?_cons_zero, Option.some.injEq] at hjq
            subst hjq
            exact fun e => hq ⟨h2, e⟩
          | succ j =>
            rw [List.getElem?_cons_succ] at hjq
            exact h7 j q (by omega) hjq
/-- LinesRight where there is an error. -/
theorem right_bad {l : List UInt8} (hl : l.length ≤ 100000) (h : (parL l).2.2.2 ≠ 0) : ∃ i r m, (splitL l)[i]? = some r ∧ parL l = ([], i + 1, m, (parL l).2.2.2) ∧ m ≤ r.length ∧ parL r = ([], 1, m, (parL l).2.2.2) ∧
    ∀ j q, j < i → (splitL l)[j]? = some q → (parL q).2.2.2 = 0 ∨ ((parL l).2.2.2 ≠ 3 ∧ (parL q).2.2.2 = 3) := by
  have hm : ∀ {q : List UInt8} {j : Nat}, (splitL l)[j]? = some q → ∀ b ∈ q, b ≠ 10 ∧ b ≠ 13 := fun hq => split_mem (List.mem_of_getElem? hq)
  have hz : ∀ {q : List UInt8} {j : Nat}, (splitL l)[j]? = some q → q.length ≤ 100000 := fun hq => Nat.le_trans ((split_size l).2 _ (List.mem_of_getElem? hq)) hl
  rcases goP_bad (splitL l) 0 [] 0 h with ⟨i, r, h1, h2, h3, h4⟩ | ⟨_, h2, _⟩ | ⟨h1, _, i, r, h3, h4, h5, h6, h7⟩
  · have e : parL l = ([], i + 1, (rowT r).2.2.1, (rowT r).2.2.2) := by rw [show i + 1 = 0 + i + 1 by omega]; exact h3
    refine ⟨i, r, (rowT r).2.2.1, h1, by rw [e], row_at (hz h1), by rw [par_bad (hm h1) h2, e], fun j q hj hq => ?_⟩
    have hq0 := h4 j q hj hq
    by_cases hlq : (rowT q).2.1 = true ∧ longP (rowT q).1 = true
    · right
      refine ⟨?_, by rw [par_long (hm hq) hq0 hlq.1 hlq.2]⟩
      rw [e]
      show (rowT r).2.2.2 ≠ 3
      rcases row_err r with x | x | x <;> rw [x] <;> decide
    · exact .inl (par_none (hm hq) hq0 hlq)
  · exact absurd rfl h2
  · have e : parL l = ([], i + 1, 0, 3) := by rw [show i + 1 = 0 + i + 1 by omega]; exact h6
    refine ⟨i, r, 0, h3, by rw [e], Nat.zero_le _, by rw [par_long (hm h3) (h1 r (List.mem_of_getElem? h3)) h4 h5, e], fun j q hj hq => .inl (par_none (hm hq) (h1 q (List.mem_of_getElem? hq)) (h7 j q hj hq))⟩
end Go.Proofs.YtffpgandgajihaaGreatDoor
namespace Go.Proofs.YtffpgandgajihaaGreatDoor
open Go Go.RowKit Um Fm Lx Tx

theorem flat12 : ∀ {ts : List Tp} {i : Nat} {t : Tp}, ts[i]? = some t → ∀ j, j < 12 → (ts.flatMap tpL)[i * 12 + j]? = (tpL t)[j]?
  | [], _, _, h, _, _ => by simp at h
  | u :: r, 0, t, h, j, hj => by
    simp only [List.getElem?_cons_zero, Option.some.injEq] at h
    subst h
    rw [List.flatMap_cons, Nat.zero_mul, Nat.zero_add, List.getElem?_append_left (by simpa [tpL] using hj)]
  | u :: r, i + 1, t, h, j, hj => by
    rw [List.getElem?_cons_succ] at h
    have hl : (tpL u).length = 12 := rfl
    rw [List.flatMap_cons, List.getElem?_append_right (by rw [hl]; omega), hl, show (i + 1) * 12 + j - 12 = i * 12 + j by omega]
    exact flat12 h j hj
theorem rd_at12 {w : World} {A : Option Addr} {ts : List Tp} (h : Rd w A (ts.flatMap tpL)) {i : Nat} {t : Tp} (ht : ts[i]? = some t) :
    ∃ g o, A = some ⟨g, o, none⟩ ∧ w.cell? ⟨g, o + i * 12, none⟩ = some (.int .i64 t.s.k) ∧ w.cell? ⟨g, o + i * 12 + 1, none⟩ = some (.string t.s.x) ∧ w.cell? ⟨g, o + i * 12 + 2, none⟩ = some (.string t.s.l) ∧ w.cell? ⟨g, o + i * 12 + 3, none⟩ = some (.string t.s.y) ∧ w.cell? ⟨g, o + i * 12 + 4, none⟩ = some (.int .i64 t.p.k) ∧ w.cell? ⟨g, o + i * 12 + 5, none⟩ = some (.string t.p.x) ∧ w.cell? ⟨g, o + i * 12 + 6, none⟩ = some (.string t.p.l) ∧ w.cell? ⟨g, o + i * 12 + 7, none⟩ = some (.string t.p.y) ∧ w.cell? ⟨g, o + i * 12 + 8, none⟩ = some (.int .i64 t.o.k) ∧ w.cell? ⟨g, o + i * 12 + 9, none⟩ = some (.string t.o.x) ∧ w.cell? ⟨g, o + i * 12 + 10, none⟩ = some (.string t.o.l) ∧ w.cell? ⟨g, o + i * 12 + 11, none⟩ = some (.string t.o.y) := by
  have hf := flat12 ht
  rcases h with h0 | ⟨g, o, hA, hc⟩
  · have h1 := hf 0 (by omega)
    rw [h0] at h1; cases h1
  · exact ⟨g, o, hA, hc _ _ (hf 0 (by omega)), by rw [Nat.add_assoc]; exact hc _ _ (hf 1 (by omega)), by rw [Nat.add_assoc]; exact hc _ _ (hf 2 (by omega)), by rw [Nat.add_assoc]; exact hc _ _ (hf 3 (by omega)), by rw [Nat.add_assoc]; exact hc _ _ (hf 4 (by omega)), by rw [Nat.add_assoc]; exact hc _ _ (hf 5 (by omega)), by rw [Nat.add_assoc]; exact hc _ _ (hf 6 (by omega)), by rw [Nat.add_assoc]; exact hc _ _ (hf 7 (by omega)), by rw [Nat.add_assoc]; exact hc _ _ (hf 8 (by omega)), by rw [Nat.add_assoc]; exact hc _ _ (hf 9 (by omega)), by rw [Nat.add_assoc]; exact hc _ _ (hf 10 (by omega)), by rw [Nat.add_assoc]; exact hc _ _ (hf 11 (by omega))⟩
set_option maxRecDepth 100000 in
set_option maxHeartbeats 2000000 in
theorem run_neTpp (t : Tp) (W : World) : (binOp .neq 37 (.agg #[.int .i64 t.s.k, .string t.s.x, .string t.s.l, .string t.s.y, .int .i64 t.p.k, .string t.p.x, .string t.p.l, .string t.p.y, .int .i64 t.o.k, .string t.o.x, .string t.o.l, .string t.o.y]) (.agg #[.int .i64 t.s.k, .string t.s.x, .string t.s.l, .string t.s.y, .int .i64 t.p.k, .string t.p.x, .string t.p.l, .string t.p.y, .int .i64 t.o.k, .string t.o.x, .string t.o.l, .string t.o.y])).run Tryz.prog W = .ok (.bool false) W := by
  have h0 := Tryz.underlying35
  have h1 := Tryz.underlying33
  have h2 := Tryz.underlying9
  have h3 := Tryz.underlying37
  simp [go_sem, h0, h1, h2, h3]
set_option maxRecDepth 20000 in
set_option maxHeartbeats 4000000 in
theorem kitSameTp (ts : List Tp) (N : Nat) (A1 : Option Addr) (c1 : Nat) (A2 : Option Addr) (c2 : Nat) (w : World) (hN : ts.length = N) (hl : N ≤ 1000000) (hr1 : Rd w A1 (ts.flatMap tpL)) (hr2 : Rd w A2 (ts.flatMap tpL)) :
    Calls Tryz.prog 18 #[.slice A1 N c1, .slice A2 N c2] w fun e w' => e = .returned (.bool true) ∧ Below w.heap.size w w' := by
  have HN := Lib.hid hN
  have HR := Lib.hid (And.intro hr1 hr2)
  clear hN hr1 hr2
  go_enter Tryz.func18, Tryz.ntmps18
  go_wp2
  go_loopw [5] (fun i wr => ∃ k : Nat, k ≤ N ∧ i = .int .i64 k ∧ Below w.heap.size w wr) (fun i _ => N - (intOf i).toNat)
  case atStart => exact ⟨0, by omega, rfl, Below.refl _ _⟩
  case round =>
    obtain ⟨k, hk, rfl, hB⟩ := hrel
    by_cases hlt : k < N
    · have hd1 : decide (k < N) = true := by simp; omega
      obtain ⟨t, ht⟩ : ∃ t, ts[k]? = some t := ⟨_, List.getElem?_eq_getElem (by rw [HN.out]; exact hlt)⟩
      obtain ⟨g, o, rfl, a0, a1, a2, a3, a4, a5, a6, a7, a8, a9, a10, a11⟩ := rd_at12 (HR.out.1.later hB) ht
      obtain ⟨p, q, rfl, b0, b1, b2, b3, b4, b5, b6, b7, b8, b9, b10, b11⟩ := rd_at12 (HR.out.2.later hB) ht
      have hq := run_neTpp t
      have HBr := Lib.hid hB
      clear ht hB
      go_wp2
      go_quiet (fail)
      go_wp2
      go_roundw
      case rel => exact ⟨k + 1, by omega, by go_num, HBr.out.os, HBr.out.tape, HBr.out.output, HBr.out.size, HBr.out.block⟩
      case measure => simp [intOf]; omega
    · have hd1 : decide (k < N) = false := by simp; omega
      have HBr := Lib.hid hB
      clear hB
      go_wp2
      go_ret
      exact ⟨rfl, HBr.out⟩
theorem kitPick10 (x n : Int) (w : World) (h0 : 1 ≤ n) (h1 : n ≤ 1000) :
    Calls Tryz.prog 17 #[.int .i64 x, .int .i64 n] w fun e w' => ∃ k : Nat, e = .returned (.int .i64 k) ∧ (k : Int) < n ∧ w = w' := by
  have b1 : -n < x.tmod n := Int.lt_tmod_of_pos x (by omega)
  have b2 : x.tmod n < n := Int.tmod_lt_of_pos x (by omega)
  go_enter Tryz.func17, Tryz.ntmps17
  go_wp2
  · go_ret
    exact ⟨(x.tmod n + n).toNat, by congr 1; show Value.int .i64 _ = Value.int .i64 _; congr 1; omega, by omega, rfl⟩
  · go_ret
    exact ⟨(x.tmod n).toNat, by congr 1; show Value.int .i64 _ = Value.int .i64 _; congr 1; omega, by omega, rfl⟩
end Go.Proofs.YtffpgandgajihaaGreatDoor
