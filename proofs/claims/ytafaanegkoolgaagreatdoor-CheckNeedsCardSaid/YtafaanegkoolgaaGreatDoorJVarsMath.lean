/- Patterns' variables, conditions' variables, in plain words. -/
import Derived.Test.YtafaanegkoolgaaGreatDoorJQWalk
import Derived.Test.YtafaanegkoolgaaGreatDoorJMetMath
namespace Go.Proofs.YtafaanegkoolgaaGreatDoor
open Go Go.RowKit Um Fm Mt

/-- The names of places that have one. -/
def occS (l : List Sl) : List ByteArray := (l.map (·.v)).filter fun v => !v.toList.isEmpty
def occP (p : Pat) : List ByteArray := occS [p.s, p.p, p.o]
def varsN (l : List Pat) : List ByteArray := metsN [] (l.flatMap occP)
theorem occS_cons (x : Sl) (l : List Sl) : occS (x :: l) = (if x.v.toList.isEmpty then [] else [x.v]) ++ occS l := by
  unfold occS
  rw [List.map_cons, List.filter_cons]
  cases x.v.toList.isEmpty <;> simp
theorem occS_len (l : List Sl) : (occS l).length ≤ l.length := by
  unfold occS
  exact Nat.le_trans (List.length_filter_le _ _) (by simp)
theorem occP_len (p : Pat) : (occP p).length ≤ 3 := occS_len _
theorem occ_len : ∀ l : List Pat, (l.flatMap occP).length ≤ 3 * l.length
  | [] => by simp
  | p :: l => by
    have h1 := occ_len l
    have h2 := occP_len p
    rw [List.flatMap_cons, List.length_append, List.length_cons]; omega
theorem varsN_len (l : List Pat) : (varsN l).length ≤ 3 * l.length := by
  have h1 := metsN_len (l.flatMap occP) []
  have h2 := occ_len l
  unfold varsN
  rw [List.length_nil] at h1; omega
theorem varsN_more (l : List Pat) (p : Pat) : ∃ r, varsN (l ++ [p]) = varsN l ++ r ∧ r.length ≤ 3 := by
  unfold varsN
  rw [List.flatMap_append, metsN_app]
  obtain ⟨r, h, k⟩ := metsN_ext ([p].flatMap occP) (metsN [] (l.flatMap occP))
  have := occP_len p
  exact ⟨r, h, by rw [List.flatMap_cons, List.flatMap_nil, List.append_nil] at k; omega⟩
theorem varsN_turn (l : List Pat) : (varsN l.reverse).length = (varsN l).length := mets_same fun x => by simp
theorem varsN_mem {l : List Pat} {x : ByteArray} : x ∈ varsN l ↔ ∃ p ∈ l, x ∈ occP p := by
  unfold varsN; rw [metsN_mem]; simp
theorem varsN_turn_mem {l : List Pat} {x : ByteArray} : x ∈ varsN l.reverse ↔ x ∈ varsN l := by rw [varsN_mem, varsN_mem]; simp
theorem occS_ne {l : List Sl} {x : ByteArray} (h : x ∈ occS l) : x.toList.isEmpty = false := by
  unfold occS at h
  simpa using (List.mem_filter.1 h).2
theorem varsN_ne {l : List Pat} {x : ByteArray} (h : x ∈ varsN l) : x.toList.isEmpty = false := by
  obtain ⟨p, _, hp⟩ := varsN_mem.1 h
  exact occS_ne hp
theorem varsN_nodup (l : List Pat) : (varsN l).Nodup := metsN_nodup _ List.nodup_nil
/-- The names of parts that are variables. -/
def ptV : Pt → List ByteArray
  | ⟨0, _⟩ => []
  | ⟨_ + 1, (k, s, _, _)⟩ => if k == 1 then [s] else []
def usedN (n : Nat) (l : List (ExT n)) : List ByteArray := metsN [] ((l.flatMap (preE n)).flatMap ptV)
theorem usedN_nodup (n : Nat) (l : List (ExT n)) : (usedN n l).Nodup := metsN_nodup _ List.nodup_nil
theorem ptV_len (p : Pt) : (ptV p).length ≤ 1 := by
  obtain ⟨n, x⟩ := p
  cases n with
  | zero => simp [ptV]
  | succ n => obtain ⟨k, s, t, kids⟩ := x; simp only [ptV]; split <;> simp
/-- How many there are so far. -/
def nAt (pre : List ByteArray) : Nat := (metsN [] pre).length
theorem occ_empty {x : Sl} (r : List Sl) (h : x.v.toList.isEmpty = true) : occS (x :: r) = occS r := by rw [occS_cons, h]; rfl
theorem occ_named {x : Sl} (r : List Sl) (h : x.v.toList.isEmpty = false) : occS (x :: r) = x.v :: occS r := by rw [occS_cons, h]; rfl
theorem nAt_take {all pre post : List ByteArray} (h : all = pre ++ post) : (metsN [] all).take (nAt pre) = metsN [] pre ∧ nAt pre ≤ (metsN [] all).length := by
  subst h
  refine ⟨mets_take _ _, ?_⟩
  obtain ⟨r, hr, _⟩ := metsN_ext post (metsN [] pre)
  unfold nAt
  rw [metsN_app, hr, List.length_append]; omega
theorem nAt_has {pre : List ByteArray} {s : ByteArray} (h : hasS (metsN [] pre) s = true) : nAt (pre ++ [s]) = nAt pre := by
  unfold nAt; rw [metsN_app, metsN_one, metN_has h]
theorem nAt_new {all pre post : List ByteArray} {s : ByteArray} (h : all = pre ++ s :: post) (hs : hasS (metsN [] pre) s = false) : (metsN [] all)[nAt pre]? = some s ∧ nAt pre < (metsN [] all).length ∧ nAt (pre ++ [s]) = nAt pre + 1 := by
  have e : all = pre ++ [s] ++ post := by rw [h]; simp
  subst e
  refine ⟨(mets_next hs).1, (mets_next hs).2, ?_⟩
  unfold nAt; rw [metsN_app, metsN_one, metN_new hs]; simp
theorem ptV_flat : ∀ l : List Pt, (l.flatMap ptV).length ≤ l.length
  | [] => by simp
  | p :: l => by have h1 := ptV_flat l; have h2 := ptV_len p; rw [List.flatMap_cons, List.length_append, List.length_cons]; omega
theorem usedN_len (n : Nat) (l : List (ExT n)) : (usedN n l).length ≤ (l.flatMap (preE n)).length := by
  have h1 := metsN_len ((l.flatMap (preE n)).flatMap ptV) []
  have h2 := ptV_flat (l.flatMap (preE n))
  rw [List.length_nil] at h1
  unfold usedN; omega
end Go.Proofs.YtafaanegkoolgaaGreatDoor
