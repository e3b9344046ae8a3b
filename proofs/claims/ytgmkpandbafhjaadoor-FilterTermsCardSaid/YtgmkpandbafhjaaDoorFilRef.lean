/- The document's layer 25, walked: terms, numbers. -/
import Derived.Test.YtgmkpandbafhjaaDoorFilProg4
namespace Go.Proofs.YtgmkpandbafhjaaDoor
open Go Go.RowKit Fm

theorem refTold (q : Bool) (w : World) :
    Calls Tryd.prog 42 #[.bool q] w fun e w' => e = .returned (.int .i64 (toldI q)) ∧ w = w' := by
  cases q <;> (go_enter Tryd.func42, Tryd.ntmps42; go_wp2; go_ret; exact ⟨rfl, rfl⟩)
theorem refNot (t : Int) (w : World) :
    Calls Tryd.prog 18 #[.int .i64 t] w fun e w' => e = .returned (.int .i64 (notI t)) ∧ w = w' := by
  go_enter Tryd.func18, Tryd.ntmps18
  go_wp2
  all_goals (go_ret; exact ⟨by simp_all [notI], rfl⟩)
theorem refOf (k : Int) (x l y ty : ByteArray) (w : World) :
    Calls Tryd.prog 40 #[.agg #[.int .i64 k, .string x, .string l, .string y], .string ty] w fun e w' => e = .returned (.bool (typedB ⟨k, x, l, y⟩ ty)) ∧ Below w.heap.size w w' := by
  go_enter Tryd.func40, Tryd.ntmps40
  go_wp2
  all_goals (go_ret; exact ⟨by simp_all [typedB], (by repeat (first | exact Below.refl _ _ | assumption | exact (Below.refl _ _).alloc (Nat.le_refl _) _ | refine below_tr ?_ (by assumption) | refine below_alloc ?_ | refine below_tr ?_ (below_regrown _ _ _)))⟩)
theorem refLiteral (k : Int) (x l y : ByteArray) (w : World) :
    Calls Tryd.prog 44 #[.agg #[.int .i64 k, .string x, .string l, .string y]] w fun e w' => e = .returned (.bool (litB ⟨k, x, l, y⟩)) ∧ Below w.heap.size w w' := by
  go_enter Tryd.func44, Tryd.ntmps44
  go_wp2
  all_goals (go_ret; exact ⟨by simp_all [litB], (by repeat (first | exact Below.refl _ _ | assumption | exact (Below.refl _ _).alloc (Nat.le_refl _) _ | refine below_tr ?_ (by assumption) | refine below_alloc ?_ | refine below_tr ?_ (below_regrown _ _ _)))⟩)
theorem refPlain (k : Int) (x l y : ByteArray) (w : World) :
    Calls Tryd.prog 45 #[.agg #[.int .i64 k, .string x, .string l, .string y]] w fun e w' => e = .returned (.bool (plainB ⟨k, x, l, y⟩)) ∧ Below w.heap.size w w' := by
  go_enter Tryd.func45, Tryd.ntmps45
  go_wp2
  all_goals (go_ret; exact ⟨by simp_all [plainB], (by repeat (first | exact Below.refl _ _ | assumption | exact (Below.refl _ _).alloc (Nat.le_refl _) _ | refine below_tr ?_ (by assumption) | refine below_alloc ?_ | refine below_tr ?_ (below_regrown _ _ _)))⟩)

/-! numbers -/
def stripT (l : List UInt8) : List UInt8 := if (l.dropWhile (· == 48)).isEmpty then [48] else l.dropWhile (· == 48)
theorem stripT_zero (l : List UInt8) : stripT (48 :: l) = stripT l := by
  unfold stripT
  rw [List.dropWhile_cons]
  simp
theorem stripT_stop (c : UInt8) (l : List UInt8) (h : c ≠ 48) : stripT (c :: l) = c :: l := by
  unfold stripT
  rw [List.dropWhile_cons]
  simp [h]
theorem stripT_one : stripT [48] = [48] := rfl
theorem numR_of (m : Bool) (r : List UInt8) (h : r.isEmpty = false) (h2 : r.all digs.contains = true) : numV (numR m r) = .tuple #[.bool (m && !(stripT r == [48])), .string ⟨(stripT r).toArray⟩, .bool true] := by
  unfold stripT
  cases hz : (r.dropWhile (· == 48)).isEmpty
  · rw [numR_yes h h2 hz]
    have hne : (r.dropWhile (· == 48) == [48]) = false := by
      rw [beq_eq_false_iff_ne]
      intro hc
      have := List.head?_dropWhile_not (· == 48) r
      rw [hc] at this
      simp at this
    simp [hne]
  · rw [numR_zero h h2 hz]
    simp
theorem bn_toList (s : ByteArray) (i : Nat) (h : i < s.size) : ∃ c : UInt8, s.toList[i]? = some c ∧ bn s i = c.toNat := by
  rw [ByteArray.toList_eq]
  have hl : i < s.data.toList.length := by rw [size_toList]; exact h
  exact ⟨s.data.toList[i], List.getElem?_eq_getElem hl, by rw [bn, List.getD_eq_getElem?_getD, List.getElem?_eq_getElem hl]; rfl⟩
theorem toList_cons (s : ByteArray) (h : 0 < s.size) : ∃ c : UInt8, s.toList = c :: (s.extract 1 s.size).toList ∧ bn s 0 = c.toNat := by
  obtain ⟨c, h1, h2⟩ := bn_toList s 0 h
  refine ⟨c, ?_, h2⟩
  rw [ByteArray.toList_eq] at *
  rw [ByteArray.toList_eq, extract_toList, List.take_of_length_le (by simp)]
  cases hs : s.data.toList with
  | nil => rw [hs] at h1; cases h1
  | cons a r => rw [hs] at h1; simp at h1; rw [h1]; rfl
theorem u8_ofNat (c : UInt8) (n : Nat) (h : c.toNat = n) (hn : n < 256) : c = n.toUInt8 := by
  apply UInt8.toNat_inj.1
  rw [h]; simp; omega
def vsz : Value → Nat
  | .string s => s.size
  | _ => 0
theorem isDig_iff (c : UInt8) : digs.contains c = (decide (48 ≤ c.toNat) && decide (c.toNat ≤ 57)) := by
  have h : ∀ n : Fin 256, digs.contains n.val.toUInt8 = (decide (48 ≤ n.val) && decide (n.val ≤ 57)) := by decide +kernel
  have := h ⟨c.toNat, c.toNat_lt⟩
  rwa [show (⟨c.toNat, c.toNat_lt⟩ : Fin 256).val.toUInt8 = c from by simp] at this

/-- Number's second half: what stands behind the sign. -/
def allD (s : ByteArray) (k : Nat) : Prop := ∀ j, j < k → 48 ≤ bn s j ∧ bn s j ≤ 57
theorem all_digs (s : ByteArray) (h : allD s s.size) : s.toList.all digs.contains = true := by
  rw [List.all_eq_true]
  intro c hc
  obtain ⟨i, hi, rfl⟩ := List.getElem_of_mem hc
  have hsz : s.toList.length = s.size := by rw [ByteArray.toList_eq]; exact size_toList s
  obtain ⟨c, h1, h2⟩ := bn_toList s i (by omega)
  have := h i (by omega)
  rw [List.getElem?_eq_getElem hi] at h1
  injection h1 with h1
  rw [h1, isDig_iff]
  simp; omega
theorem not_digs (s : ByteArray) (i : Nat) (hi : i < s.size) (h : bn s i < 48 ∨ 57 < bn s i) : s.toList.all digs.contains = false := by
  obtain ⟨c, h1, h2⟩ := bn_toList s i hi
  cases hb : s.toList.all digs.contains with
  | false => rfl
  | true =>
    have := List.all_eq_true.1 hb c (List.mem_of_getElem? h1)
    rw [isDig_iff] at this
    simp at this
    omega
theorem numL_minus (x : ByteArray) (h : 0 < x.size) (hb : bn x 0 = 45) : numL x.toList = numR true (x.extract 1 x.size).toList := by
  obtain ⟨c, h1, h2⟩ := toList_cons x h
  have : c = 45 := by have := u8_ofNat c 45 (by omega) (by omega); exact this
  rw [h1, this]; rfl
theorem numL_plus (x : ByteArray) (h : 0 < x.size) (hb : bn x 0 = 43) : numL x.toList = numR false (x.extract 1 x.size).toList := by
  obtain ⟨c, h1, h2⟩ := toList_cons x h
  have : c = 43 := by have := u8_ofNat c 43 (by omega) (by omega); exact this
  rw [h1, this]; rfl
theorem numL_bare (x : ByteArray) (h : 0 < x.size) (hb : bn x 0 ≠ 45) (hb2 : bn x 0 ≠ 43) : numL x.toList = numR false x.toList := by
  obtain ⟨c, h1, h2⟩ := toList_cons x h
  have n1 : c ≠ 45 := fun e => hb (by rw [h2, e]; rfl)
  have n2 : c ≠ 43 := fun e => hb2 (by rw [h2, e]; rfl)
  rw [h1]
  unfold numL
  split
  · rename_i e; injection e with e _; exact (n1 e).elim
  · rename_i e; injection e with e _; exact (n2 e).elim
  · rfl
theorem numL_none (x : ByteArray) (h : x.size = 0) : numV (numL x.toList) = .tuple #[.bool false, .string ⟨#[]⟩, .bool false] := by
  have : x.toList = [] := by
    have hsz : x.toList.length = x.size := by rw [ByteArray.toList_eq]; exact size_toList x
    exact List.eq_nil_of_length_eq_zero (by omega)
  rw [this]; rfl
end Go.Proofs.YtgmkpandbafhjaaDoor
