/- Queries turned, with less, with more: the plain part. -/
import Derived.Test.YtafaanegkoolgaaGreatDoorJChk7
import Derived.Test.YtafaanegkoolgaaGreatDoorJLaw22p
namespace Go.Proofs.YtafaanegkoolgaaGreatDoor
open Go Go.RowKit Um Fm Mt

/-- A list, turned. -/
def rot {α : Type} (k : Nat) (l : List α) : List α := l.drop k ++ l.take k
theorem rot_perm {α : Type} (k : Nat) (l : List α) : (rot k l).Perm l := by
  unfold rot
  exact List.perm_append_comm.trans (by rw [List.take_append_drop])
theorem rot_len {α : Type} (k : Nat) (l : List α) : (rot k l).length = l.length := (rot_perm k l).length_eq
theorem rot_mem {α : Type} {k : Nat} {l : List α} {x : α} : x ∈ rot k l ↔ x ∈ l := (rot_perm k l).mem_iff
theorem rot_all {α : Type} (k : Nat) (l : List α) (p : α → Bool) : (rot k l).all p = l.all p := by
  rw [Bool.eq_iff_iff, List.all_eq_true, List.all_eq_true]
  exact ⟨fun h x hx => h x (rot_mem.2 hx), fun h x hx => h x (rot_mem.1 hx)⟩
theorem usedN_mem {n : Nat} {l : List (ExT n)} {x : ByteArray} : x ∈ usedN n l ↔ ∃ e ∈ l, ∃ p ∈ preE n e, x ∈ ptV p := by
  unfold usedN
  rw [metsN_mem]
  simp only [List.not_mem_nil, false_or, List.mem_flatMap]
  constructor
  · rintro ⟨p, ⟨e, he, hp⟩, hx⟩
    exact ⟨e, he, p, hp, hx⟩
  · rintro ⟨e, he, p, hp, hx⟩
    exact ⟨p, ⟨e, he, hp⟩, hx⟩
def turnQ {n : Nat} (q : Qy n) (k f o v : Nat) : Qy n := { q with vars := rot v q.vars, pats := rot k q.pats, fils := rot f q.fils, ord := rot o q.ord }
theorem right_turn {n : Nat} (q : Qy n) (k f o v : Nat) : rightQ (turnQ q k f o v) = rightQ q := by
  rw [Bool.eq_iff_iff, right_parts, right_parts]
  unfold turnQ
  simp only [rot_len, rot_all]
theorem err_turn {n : Nat} (q : Qy n) (k f o v : Nat) : errOf (turnQ q k f o v) = errOf q := by
  unfold errOf
  refine errQ_congr (right_turn q k f o v) (rot_perm v q.vars) ?_ (fun x => ?_) (fun x => ?_)
  · exact (rot_perm o q.ord).map _
  · rw [usedN_mem, usedN_mem]
    exact ⟨fun ⟨e, he, h⟩ => ⟨e, rot_mem.1 he, h⟩, fun ⟨e, he, h⟩ => ⟨e, rot_mem.2 he, h⟩⟩
  · rw [varsN_mem, varsN_mem]
    exact ⟨fun ⟨e, he, h⟩ => ⟨e, rot_mem.1 he, h⟩, fun ⟨e, he, h⟩ => ⟨e, rot_mem.2 he, h⟩⟩
theorem err_right {n : Nat} (q : Qy n) : (errOf q == 2) = !rightQ q := by
  cases h : rightQ q
  · rw [errOf_no h]; rfl
  · have : errOf q ≠ 2 := fun e => by
      have := errQ_arg.1 e
      rw [h] at this; cases this
    simpa using this
/-- Without some of the last filters, keys, names. -/
def lessQ {n : Nat} (q : Qy n) (f o v : Nat) : Qy n := { q with vars := q.vars.take v, fils := q.fils.take f, ord := q.ord.take o }
theorem all_take {α : Type} {p : α → Bool} {l : List α} (h : l.all p = true) (k : Nat) : (l.take k).all p = true := by
  rw [List.all_eq_true] at h ⊢
  exact fun x hx => h x (List.mem_of_mem_take hx)
theorem take_le {α : Type} (k : Nat) (l : List α) : (l.take k).length ≤ l.length := by rw [List.length_take]; omega
theorem right_take {n : Nat} {q : Qy n} (h : rightQ q = true) (f o v : Nat) : rightQ (lessQ q f o v) = true := by
  obtain ⟨h1, h2, h3, h4, h5, h6, h7⟩ := right_parts.1 h
  exact right_parts.2 ⟨fit_le h1 (Nat.le_refl _) (take_le _ _) (take_le _ _) (take_le _ _), h2, ask_le h3 (take_le _ _) (take_le _ _), h4, all_take h5 _, all_take h6 _, all_take h7 _⟩
theorem err_take {n : Nat} {q : Qy n} (h : errOf q = 0) (f o v : Nat) : errOf (lessQ q f o v) = 0 := by
  obtain ⟨h1, h2, h3, h4⟩ := errQ_zero.1 h
  refine errQ_zero.2 ⟨right_take h1 f o v, h2.sublist (List.take_sublist _ _), ?_, fun s hs => h4 s ?_⟩
  · have : keysN (lessQ q f o v).ord = (keysN q.ord).take o := by unfold lessQ keysN; simp [List.map_take]
    rw [this]
    exact h3.sublist (List.take_sublist _ _)
  · simp only [List.mem_append] at hs ⊢
    rcases hs with (hs | hs) | hs
    · exact .inl (.inl (List.mem_of_mem_take hs))
    · refine .inl (.inr ?_)
      unfold keysN at hs ⊢
      obtain ⟨y, hy, e⟩ := List.mem_map.1 hs
      exact List.mem_map.2 ⟨y, List.mem_of_mem_take hy, e⟩
    · refine .inr ?_
      rw [usedN_mem] at hs ⊢
      obtain ⟨e, he, h⟩ := hs
      exact ⟨e, List.mem_of_mem_take he, h⟩
/-- With a pattern more. -/
def moreQ {n : Nat} (q : Qy n) (p : Pat) : Qy n := { q with pats := q.pats ++ [p] }
theorem err_more {n : Nat} {q : Qy n} {p : Pat} (h : errOf q = 0) (hr : rightQ (moreQ q p) = true) : errOf (moreQ q p) = 0 := by
  obtain ⟨h1, h2, h3, h4⟩ := errQ_zero.1 h
  refine errQ_zero.2 ⟨hr, h2, h3, fun s hs => ?_⟩
  obtain ⟨r, e, _⟩ := varsN_more q.pats p
  show s ∈ varsN (q.pats ++ [p])
  rw [e]
  exact List.mem_append_left _ (h4 s hs)

/-! sizes -/
theorem szQ_turn {n : Nat} {q : Qy n} (h : szQ q) (k f o v : Nat) : szQ (turnQ q k f o v) := by
  obtain ⟨h1, h2, h3, h4, h5, h6, h7, h8⟩ := h
  unfold turnQ
  exact ⟨by simpa [rot_len] using h1, by simpa [rot_len] using h2, by simpa [rot_len] using h3, by simpa [rot_len] using h4, fun x hx => h5 x (rot_mem.1 hx), fun x hx => h6 x (rot_mem.1 hx), fun x hx => h7 x (rot_mem.1 hx), fun x hx => h8 x (rot_mem.1 hx)⟩
theorem flat_rot {α β : Type} (k : Nat) (l : List α) (f : α → List β) : ((rot k l).flatMap f).length = (l.flatMap f).length := by
  unfold rot
  rw [List.flatMap_append, List.length_append, Nat.add_comm, ← List.length_append, ← List.flatMap_append, List.take_append_drop]
theorem few_turn {n : Nat} {q : Qy n} (h : fewQ q) (k f o v : Nat) : fewQ (turnQ q k f o v) := by
  obtain ⟨h1, h2, h3, h4, h5, h6⟩ := h
  unfold turnQ
  exact ⟨by simpa [rot_len] using h1, by simpa [rot_len] using h2, by simpa [rot_len] using h3, by simpa [rot_len] using h4, fun x hx => h5 x (rot_mem.1 hx), by show ((rot f q.fils).flatMap (preE n)).length ≤ _; rw [flat_rot]; exact h6⟩
theorem szQ_take {n : Nat} {q : Qy n} (h : szQ q) (f o v : Nat) : szQ (lessQ q f o v) := by
  obtain ⟨h1, h2, h3, h4, h5, h6, h7, h8⟩ := h
  exact ⟨Nat.le_trans (take_le _ _) h1, h2, Nat.le_trans (take_le _ _) h3, Nat.le_trans (take_le _ _) h4, fun x hx => h5 x (List.mem_of_mem_take hx), h6, fun x hx => h7 x (List.mem_of_mem_take hx), fun x hx => h8 x (List.mem_of_mem_take hx)⟩
theorem few_take {n : Nat} {q : Qy n} (h : fewQ q) (f o v : Nat) : fewQ (lessQ q f o v) := by
  obtain ⟨h1, h2, h3, h4, h5, h6⟩ := h
  exact ⟨Nat.le_trans (take_le _ _) h1, h2, Nat.le_trans (take_le _ _) h3, Nat.le_trans (take_le _ _) h4, fun x hx => h5 x (List.mem_of_mem_take hx), Nat.le_trans (take_flat_le _ _) h6⟩
theorem szQ_more {n : Nat} {q : Qy n} {p : Pat} (h : szQ q) (hp : szP p) (hl : q.pats.length ≤ 1000) : szQ (moreQ q p) := by
  obtain ⟨h1, h2, h3, h4, h5, h6, h7, h8⟩ := h
  refine ⟨h1, ?_, h3, h4, h5, fun x hx => ?_, h7, h8⟩
  · show (q.pats ++ [p]).length ≤ _
    simp; omega
  · rcases List.mem_append.1 hx with hx | hx
    · exact h6 x hx
    · obtain rfl : x = p := by simpa using hx
      exact hp
theorem few_more {n : Nat} {q : Qy n} {p : Pat} (h : fewQ q) (hl : q.pats.length ≤ 1000) : fewQ (moreQ q p) := by
  obtain ⟨h1, h2, h3, h4, h5, h6⟩ := h
  refine ⟨h1, ?_, h3, h4, h5, h6⟩
  show (q.pats ++ [p]).length ≤ _
  simp; omega

/-! rows, in parts -/
def subK (k sz c : Nat) (s : Option Addr) : Option Addr := if c = k then s else s.map fun x => x.add (k * sz)
theorem Rd.part {w : World} {s : Option Addr} {xs : List Value} (h : Rd w s xs) (m : Nat) : Rd w (s.map fun x => x.add m) (xs.drop m) := by
  rcases h with rfl | ⟨b, o, rfl, hx⟩
  · exact .inl (by simp)
  · refine .inr ⟨b, o + m, by simp [Addr.add], fun j u hu => ?_⟩
    rw [List.getElem?_drop] at hu
    have := hx _ _ hu
    rwa [show o + m + j = o + (m + j) by omega]
theorem Rd.cut {w : World} {s : Option Addr} {xs : List Value} (h : Rd w s xs) (m : Nat) : Rd w s (xs.take m) := by
  rcases h with rfl | ⟨b, o, rfl, hx⟩
  · exact .inl (by simp)
  · refine .inr ⟨b, o, rfl, fun j u hu => hx j u ?_⟩
    rw [List.getElem?_take] at hu
    split at hu
    · exact hu
    · cases hu
theorem RdL.partK {α : Type} {sz : Nat} {R : List Value → α → Prop} {w : World} {s : Option Addr} {l : List α} {c : Nat} (h : RdL sz R w s l) (hl : l.length ≤ c) (k : Nat) : RdL sz R w (subK k sz c s) (l.drop k) := by
  obtain ⟨xs, hr, ha⟩ := h
  unfold subK
  split
  · rename_i e
    have : l.drop k = [] := List.drop_eq_nil_of_le (by omega)
    rw [this]
    exact RdL.nil _ _ _ _
  · exact ⟨_, hr.part (k * sz), ha.drop k⟩
theorem RdL.cutK {α : Type} {sz : Nat} {R : List Value → α → Prop} {w : World} {s : Option Addr} {l : List α} (h : RdL sz R w s l) (k : Nat) : RdL sz R w s (l.take k) := by
  obtain ⟨xs, hr, ha⟩ := h
  exact ⟨_, hr.cut (k * sz), ha.take k⟩
end Go.Proofs.YtafaanegkoolgaaGreatDoor
