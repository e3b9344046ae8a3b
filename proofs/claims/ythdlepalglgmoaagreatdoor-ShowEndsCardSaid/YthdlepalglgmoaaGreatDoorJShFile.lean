/- Sets of triples, in order: plainly. A file of triples, read: plainly. -/
import Derived.Test.YthdlepalglgmoaaGreatDoorJTx6
import Derived.Test.YthdlepalglgmoaaGreatDoorJLnRight2
namespace Go.Proofs.YthdlepalglgmoaaGreatDoor.Tx
open Go Go.RowKit Um Fm Lx

/-- Does a triple stand ahead of another one? -/
def ltTp (a b : Tp) : Bool := decide (cmpTp a b < 0)
theorem tp_self (a : Tp) : cmpTp a a = 0 := ordF_Tp.self a
theorem tp_three (a b : Tp) : cmpTp a b < 0 ∨ a = b ∨ cmpTp b a < 0 := by
  have h1 := ordF_Tp.neg a b
  rcases Int.lt_trichotomy (cmpTp a b) 0 with h | h | h
  · exact .inl h
  · exact .inr (.inl (ordF_Tp.zero a b h))
  · exact .inr (.inr (by omega))
theorem tp_irr {a b : Tp} (h : cmpTp a b < 0) : ¬ cmpTp b a < 0 := by have := ordF_Tp.neg a b; omega
theorem tp_ne {a b : Tp} (h : cmpTp a b < 0) : a ≠ b := by rintro rfl; rw [tp_self] at h; omega
/-- Each once, in order. -/
def Rise (l : List Tp) : Prop := l.Pairwise fun a b => cmpTp a b < 0
theorem rise_one : ∀ {a b : List Tp}, Rise a → Rise b → (∀ t, t ∈ a ↔ t ∈ b) → a = b
  | [], [], _, _, _ => rfl
  | [], y :: b, _, _, h => absurd ((h y).2 (by simp)) (by simp)
  | x :: a, [], _, _, h => absurd ((h x).1 (by simp)) (by simp)
  | x :: a, y :: b, ha, hb, h => by
    unfold Rise at ha hb
    rw [List.pairwise_cons] at ha hb
    have hxy : x = y := by
      rcases tp_three x y with h1 | h1 | h1
      · have hx := (h x).1 (by simp)
        rw [List.mem_cons] at hx
        rcases hx with rfl | hx
        · rfl
        · exact absurd h1 (tp_irr (hb.1 x hx))
      · exact h1
      · have hy := (h y).2 (by simp)
        rw [List.mem_cons] at hy
        rcases hy with rfl | hy
        · rfl
        · exact absurd h1 (tp_irr (ha.1 y hy))
    subst hxy
    congr 1
    refine rise_one ha.2 hb.2 fun t => ?_
    have ht := h t
    rw [List.mem_cons, List.mem_cons] at ht
    constructor
    · intro hm
      rcases ht.1 (.inr hm) with rfl | hm2
      · exact absurd rfl (tp_ne (ha.1 t hm))
      · exact hm2
    · intro hm
      rcases ht.2 (.inr hm) with rfl | hm2
      · exact absurd rfl (tp_ne (hb.1 t hm))
      · exact hm2
/-- One more, at its place: as the document's set is made. -/
def insTp : List Tp → Tp → List Tp
  | [], t => [t]
  | x :: r, t => if cmpTp x t < 0 then x :: insTp r t else if cmpTp x t = 0 then x :: r else t :: x :: r
theorem ins_mem (t u : Tp) : ∀ l : List Tp, u ∈ insTp l t ↔ u = t ∨ u ∈ l
  | [] => by simp [insTp]
  | x :: r => by
    rw [insTp]
    have ih := ins_mem t u r
    split
    · rw [List.mem_cons, ih, List.mem_cons]
      constructor
      · rintro (h | h | h)
        · exact .inr (.inl h)
        · exact .inl h
        · exact .inr (.inr h)
      · rintro (h | h | h)
        · exact .inr (.inl h)
        · exact .inl h
        · exact .inr (.inr h)
    · split
      · next h =>
        have := ordF_Tp.zero _ _ h
        subst this
        rw [List.mem_cons]
        constructor
        · exact fun h => .inr h
        · rintro (h | h)
          · exact .inl h
          · exact h
      · rw [List.mem_cons]
theorem ins_rise (t : Tp) : ∀ l : List Tp, Rise l → Rise (insTp l t)
  | [], _ => by simp [insTp, Rise]
  | x :: r, h => by
    unfold Rise at h ⊢
    rw [insTp]
    have hc := List.pairwise_cons.1 h
    split
    · next h1 =>
      rw [List.pairwise_cons]
      refine ⟨fun u hu => ?_, ins_rise t r hc.2⟩
      rw [ins_mem] at hu
      rcases hu with rfl | hu
      · exact h1
      · exact hc.1 u hu
    · split
      · exact h
      · next h1 h2 =>
        have h3 : cmpTp t x < 0 := by
          rcases tp_three x t with h4 | h4 | h4
          · exact absurd h4 h1
          · exact absurd (by rw [h4]; exact tp_self t) h2
          · exact h4
        rw [List.pairwise_cons]
        refine ⟨fun u hu => ?_, h⟩
        rw [List.mem_cons] at hu
        rcases hu with rfl | hu
        · exact h3
        · exact ordF_Tp.tr _ _ _ h3 (hc.1 u hu)
def setTp (l : List Tp) : List Tp := l.foldl insTp []
theorem fold_ins : ∀ (l out : List Tp), Rise out → Rise (l.foldl insTp out) ∧ ∀ u, u ∈ l.foldl insTp out ↔ u ∈ out ∨ u ∈ l
  | [], out, h => ⟨h, fun u => by simp⟩
  | t :: l, out, h => by
    obtain ⟨h1, h2⟩ := fold_ins l (insTp out t) (ins_rise t out h)
    refine ⟨h1, fun u => ?_⟩
    rw [List.foldl_cons, h2, ins_mem, List.mem_cons]
    constructor
    · rintro ((h | h) | h)
      · exact .inr (.inl h)
      · exact .inl h
      · exact .inr (.inr h)
    · rintro (h | h | h)
      · exact .inl (.inr h)
      · exact .inl (.inl h)
      · exact .inr h
theorem set_rise (l : List Tp) : Rise (setTp l) := (fold_ins l [] (by simp [Rise])).1
theorem set_mem (l : List Tp) (u : Tp) : u ∈ setTp l ↔ u ∈ l := by
  have := (fold_ins l [] (by simp [Rise])).2 u
  unfold setTp
  simpa using this
/-- Equal neighbours made one. -/
def compTp : List Tp → List Tp
  | [] => []
  | [x] => [x]
  | x :: y :: r => if cmpTp x y = 0 then compTp (y :: r) else x :: compTp (y :: r)
theorem comp_mem (u : Tp) : ∀ l : List Tp, u ∈ compTp l ↔ u ∈ l := by
  intro l
  induction l using compTp.induct with
  | case1 => simp [compTp]
  | case2 x => simp [compTp]
  | case3 x y r h ih =>
    rw [compTp, if_pos h, ih]
    have := ordF_Tp.zero _ _ h
    subst this
    simp
  | case4 x y r h ih =>
    rw [compTp, if_neg h, List.mem_cons, ih, List.mem_cons (a := u) (b := x)]
theorem comp_rise : ∀ l : List Tp, l.Pairwise (fun a b => cmpTp a b ≤ 0) → Rise (compTp l) := by
  intro l
  induction l using compTp.induct with
  | case1 => intro _; simp [compTp, Rise]
  | case2 x => intro _; simp [compTp, Rise]
  | case3 x y r h ih =>
    intro hp
    rw [compTp, if_pos h]
    exact ih (List.pairwise_cons.1 hp).2
  | case4 x y r h ih =>
    intro hp
    have hc := List.pairwise_cons.1 hp
    rw [compTp, if_neg h]
    unfold Rise
    rw [List.pairwise_cons]
    refine ⟨fun u hu => ?_, ih hc.2⟩
    rw [comp_mem] at hu
    have hxy : cmpTp x y < 0 := by have := hc.1 y (by simp); omega
    rw [List.mem_cons] at hu
    rcases hu with rfl | hu
    · exact hxy
    · have h2 := (List.pairwise_cons.1 hc.2).1 u hu
      rcases Int.lt_or_eq_of_le h2 with h3 | h3
      · exact ordF_Tp.tr _ _ _ hxy h3
      · rw [← ordF_Tp.zero _ _ h3]; exact hxy
/-- Sorted, each once: the document's set. -/
theorem comp_set {l m : List Tp} (hm : ∀ u, u ∈ m ↔ u ∈ l) (hs : m.Pairwise fun a b => cmpTp a b ≤ 0) : compTp m = setTp l :=
  rise_one (comp_rise m hs) (set_rise l) fun t => by rw [comp_mem, set_mem, hm]
/-- One more behind. -/
theorem comp_snoc (y x : Tp) : ∀ l : List Tp, compTp (l ++ [y] ++ [x]) = compTp (l ++ [y]) ++ (if cmpTp y x = 0 then [] else [x])
  | [] => by
    have e1 : compTp ([] ++ [y] ++ [x]) = if cmpTp y x = 0 then [x] else y :: [x] := rfl
    rw [e1]
    by_cases h : cmpTp y x = 0
    · rw [if_pos h, if_pos h, ordF_Tp.zero _ _ h]
      rfl
    · rw [if_neg h, if_neg h]
      rfl
  | [a] => by
    have ih := comp_snoc y x []
    have e1 : compTp ([a] ++ [y] ++ [x]) = if cmpTp a y = 0 then compTp ([] ++ [y] ++ [x]) else a :: compTp ([] ++ [y] ++ [x]) := rfl
    have e2 : compTp ([a] ++ [y]) = if cmpTp a y = 0 then compTp ([] ++ [y]) else a :: compTp ([] ++ [y]) := rfl
    rw [e1, e2, ih]
    by_cases h : cmpTp a y = 0
    · rw [if_pos h, if_pos h]
    · rw [if_neg h, if_neg h]
      rfl
  | a :: b :: l => by
    have ih := comp_snoc y x (b :: l)
    have e1 : compTp (a :: b :: l ++ [y] ++ [x]) = if cmpTp a b = 0 then compTp (b :: l ++ [y] ++ [x]) else a :: compTp (b :: l ++ [y] ++ [x]) := rfl
    have e2 : compTp (a :: b :: l ++ [y]) = if cmpTp a b = 0 then compTp (b :: l ++ [y]) else a :: compTp (b :: l ++ [y]) := rfl
    rw [e1, e2, ih]
    by_cases h : cmpTp a b = 0
    · rw [if_pos h, if_pos h]
    · rw [if_neg h, if_neg h]
      rfl
/-- What is sorted by this order, as the library says it. -/
theorem sort_pair (l : List Tp) : (l.mergeSort fun x y => !ltTp y x).Pairwise fun a b => cmpTp a b ≤ 0 := by
  have h := List.pairwise_mergeSort (le := fun x y => !ltTp y x) (fun a b c h1 h2 => by
    unfold ltTp at h1 h2 ⊢
    simp only [Bool.not_eq_true', decide_eq_false_iff_not] at h1 h2 ⊢
    have n1 := ordF_Tp.neg a b; have n2 := ordF_Tp.neg b c; have n3 := ordF_Tp.neg a c
    have := ordF_Tp.le (a := a) (b := b) (c := c) (by omega) (by omega)
    omega) (fun a b => by
    unfold ltTp
    simp only [Bool.or_eq_true, Bool.not_eq_true', decide_eq_false_iff_not]
    have n1 := ordF_Tp.neg a b
    omega) l
  refine h.imp fun {a b} hab => ?_
  unfold ltTp at hab
  simp only [Bool.not_eq_true', decide_eq_false_iff_not] at hab
  have n1 := ordF_Tp.neg a b
  omega
theorem sort_mem (l : List Tp) (u : Tp) : u ∈ (l.mergeSort fun x y => !ltTp y x) ↔ u ∈ l := List.mem_mergeSort
/-- The program's set is the document's. -/
theorem set_prog (l : List Tp) : compTp (l.mergeSort fun x y => !ltTp y x) = setTp l := comp_set (sort_mem l) (sort_pair l)
/-- The document's way: behind all that stand ahead of it; there already, or put in. -/
theorem ins_hit : ∀ (out : List Tp) (t : Tp) (k : Nat), (∀ j x, j < k → out[j]? = some x → cmpTp x t < 0) → out[k]? = some t → insTp out t = out
  | [], t, k, _, h => by simp at h
  | x :: r, t, 0, _, h => by
    simp only [List.getElem?_cons_zero, Option.some.injEq] at h
    subst h
    rw [insTp, if_neg (by rw [tp_self]; omega), if_pos (tp_self x)]
  | x :: r, t, k + 1, ha, h => by
    rw [List.getElem?_cons_succ] at h
    rw [insTp, if_pos (ha 0 x (by omega) rfl), ins_hit r t k (fun j y hj hy => ha (j + 1) y (by omega) (by rw [List.getElem?_cons_succ]; exact hy)) h]
theorem ins_miss : ∀ (out : List Tp) (t : Tp) (k : Nat), k ≤ out.length → (∀ j x, j < k → out[j]? = some x → cmpTp x t < 0) → (∀ x, out[k]? = some x → ¬ cmpTp x t < 0 ∧ x ≠ t) → insTp out t = out.take k ++ t :: out.drop k
  | [], t, k, hk, _, _ => by
    have : k = 0 := by simpa using hk
    subst this
    rfl
  | x :: r, t, 0, _, _, h => by
    obtain ⟨h1, h2⟩ := h x rfl
    rw [insTp, if_neg h1, if_neg (fun e => h2 (ordF_Tp.zero _ _ e))]
    rfl
  | x :: r, t, k + 1, hk, ha, h => by
    rw [insTp, if_pos (ha 0 x (by omega) rfl), ins_miss r t k (by simpa using hk) (fun j y hj hy => ha (j + 1) y (by omega) (by rw [List.getElem?_cons_succ]; exact hy)) (fun y hy => h y (by rw [List.getElem?_cons_succ]; exact hy))]
    rfl
theorem set_snoc (l : List Tp) (t : Tp) : setTp (l ++ [t]) = insTp (setTp l) t := by unfold setTp; rw [List.foldl_append]; rfl
theorem ins_len (t : Tp) : ∀ l : List Tp, (insTp l t).length ≤ l.length + 1
  | [] => by simp [insTp]
  | x :: r => by
    rw [insTp]
    have := ins_len t r
    split
    · simp; omega
    · split <;> simp
theorem set_len (l : List Tp) : (setTp l).length ≤ l.length := by
  have h : ∀ (l out : List Tp), (l.foldl insTp out).length ≤ out.length + l.length := by
    intro l
    induction l with
    | nil => intro out; exact Nat.le_refl _
    | cons t l ih =>
      intro out
      rw [List.foldl_cons]
      have h1 := ih (insTp out t)
      have h2 := ins_len t out
      rw [List.length_cons]
      omega
  have := h l []
  simpa [setTp] using this
/-- slices.Compact, step by step. -/
theorem comp_take {l : List Tp} {m : Nat} {y x : Tp} (hy : l[m]? = some y) (hx : l[m + 1]? = some x) : compTp (l.take (m + 2)) = compTp (l.take (m + 1)) ++ (if cmpTp y x = 0 then [] else [x]) := by
  have e1 : l.take (m + 1) = l.take m ++ [y] := by rw [List.take_add_one, hy]; rfl
  have e2 : l.take (m + 2) = l.take m ++ [y] ++ [x] := by rw [show m + 2 = (m + 1) + 1 by omega, List.take_add_one, hx, e1]; rfl
  rw [e2, e1, comp_snoc]
theorem comp_first (l : List Tp) : compTp (l.take 1) = l.take 1 := by
  cases l with
  | nil => rfl
  | cons x r => rfl
/-- Compact's row: what is made one, then what was there; one more, put behind. -/
def rowTp (l out : List Tp) : List Tp := out ++ l.drop out.length
theorem row_set {l out : List Tp} {x : Tp} (h : out.length < l.length) : (rowTp l out).set out.length x = rowTp l (out ++ [x]) := by
  unfold rowTp
  rw [List.set_append_right _ _ (Nat.le_refl _), Nat.sub_self, List.length_append, List.length_cons, List.length_nil, List.append_assoc, Nat.zero_add, List.drop_eq_getElem_cons h]
  rfl
theorem row_get {l out : List Tp} {j : Nat} (h : out.length ≤ j) : (rowTp l out)[j]? = l[j]? := by
  unfold rowTp
  rw [List.getElem?_append_right h, List.getElem?_drop]
  congr 1
  omega
theorem row_len {l out : List Tp} (h : out.length ≤ l.length) : (rowTp l out).length = l.length := by
  unfold rowTp
  rw [List.length_append, List.length_drop]
  omega
theorem row_take (l out : List Tp) : (rowTp l out).take out.length = out := by unfold rowTp; exact List.take_left' rfl
end Go.Proofs.YthdlepalglgmoaaGreatDoor.Tx
namespace Go.Proofs.YthdlepalglgmoaaGreatDoor
open Go Go.RowKit Um Fm Lx Tx

/-- A triple's line. -/
def lineB (t : Tp) : List UInt8 := textL t.s ++ (32 :: (textL t.p ++ (32 :: (textL t.o ++ [32, 46]))))
/-- Why a triple is no line. -/
def errTp (t : Tp) : Int := if tripB t = true then (if longP t = true then 3 else 0) else 2
theorem trip_parts {t : Tp} (h : tripB t = true) : (t.s.k = 1 ∨ t.s.k = 2) ∧ t.p.k = 1 ∧ rightB t.s = true ∧ rightB t.p = true ∧ rightB t.o = true := by
  unfold tripB at h
  simp only [Bool.and_eq_true, Bool.or_eq_true, beq_iff_eq] at h
  exact ⟨h.1.1.1.1, h.1.1.1.2, h.1.1.2, h.1.2, h.2⟩
/-- A file of triples that may stand. -/
def bodyTp (l : List Tp) : List UInt8 := l.flatMap fun t => lineB t ++ [10]
theorem err_none {t : Tp} (h : errTp t = 0) : tripB t = true ∧ longP t = false := by
  unfold errTp at h
  split at h
  · next h1 =>
    refine ⟨h1, ?_⟩
    split at h
    · cases h
    · next h2 => simpa using h2
  · cases h
/-- The first error of some triples. -/
def errF : List Tp → Int
  | [] => 0
  | t :: r => if errTp t = 0 then errF r else errTp t
theorem errF_snoc (t : Tp) : ∀ l : List Tp, errF (l ++ [t]) = if errF l = 0 then errTp t else errF l
  | [] => by
    show (if errTp t = 0 then errF [] else errTp t) = if errF [] = 0 then errTp t else errF []
    rw [show errF [] = 0 from rfl, if_pos rfl]
    split
    · next h => exact h.symm
    · rfl
  | u :: l => by
    have ih := errF_snoc t l
    have e1 : errF (u :: l ++ [t]) = if errTp u = 0 then errF (l ++ [t]) else errTp u := rfl
    have e2 : errF (u :: l) = if errTp u = 0 then errF l else errTp u := rfl
    rw [e1, e2, ih]
    by_cases h : errTp u = 0
    · rw [if_pos h, if_pos h]
    · rw [if_neg h, if_neg h, if_neg h]
theorem errF_zero : ∀ l : List Tp, errF l = 0 ↔ ∀ t ∈ l, errTp t = 0
  | [] => by simp [errF]
  | u :: l => by
    have ih := errF_zero l
    rw [errF]
    constructor
    · intro h
      split at h
      · next h1 =>
        intro t ht
        rw [List.mem_cons] at ht
        rcases ht with rfl | ht
        · exact h1
        · exact ih.1 h t ht
      · next h1 => exact absurd h h1
    · intro h
      rw [if_pos (h u (by simp))]
      exact ih.2 fun t ht => h t (by simp [ht])
theorem errF_set {l : List Tp} (h : errF l = 0) : ∀ t ∈ setTp l, errTp t = 0 := fun t ht => (errF_zero l).1 h t ((set_mem l t).1 ht)
theorem body_snoc (l : List Tp) (t : Tp) : bodyTp (l ++ [t]) = bodyTp l ++ (lineB t ++ [10]) := by unfold bodyTp; rw [List.flatMap_append]; simp
/-- A file, or its error. -/
def fileP (l : List Tp) : ByteArray × Int := if errF l = 0 then (mkS (bodyTp (setTp l)), 0) else (⟨#[]⟩, errF l)
end Go.Proofs.YthdlepalglgmoaaGreatDoor
