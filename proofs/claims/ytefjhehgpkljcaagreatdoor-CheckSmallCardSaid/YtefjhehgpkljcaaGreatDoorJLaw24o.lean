/- Queries turned, with less, with more: the plain part. A region that draws its order, whose last operation (a store) stands behind all others by its edges: that one may write to whatever block. CheckOrder: for every query the law returns true. -/
import Derived.Test.YtefjhehgpkljcaaGreatDoorJChk7
import Derived.Test.YtefjhehgpkljcaaGreatDoorJLaw22p
import Derived.Test.YtefjhehgpkljcaaGreatDoorJMet
import Derived.Test.YtefjhehgpkljcaaGreatDoorJLaw24b
namespace Go.Proofs.YtefjhehgpkljcaaGreatDoor
open Go Go.RowKit Um Fm Mt

/-- A list, turned. -/
def rot {α : Type} (k : Nat) (l : List α) : List α := l.drop k ++ l.take k
theorem rot_perm {α : Type} (k : Nat) (l : List α) : (rot k l).Perm l := by
  unfold rot
  exact List.perm_append_comm.trans (by rw [List.take_append_drop])
theorem rot_len {α : Type} (k : Nat) (l : List α) : (rot k l).length = l.length := (rot_perm k l).length_eq
theorem rot_mem {α : Type} {k : Nat} {l : List α} {x : α} : x ∈ rot k l ↔ x ∈ l := (rot_perm k l).mem_iff
theorem rot_all {α : Type} (k : Nat) (l : List α) (p : α → Bool) : (rot k l).all p = l.all p := by
  rw [Bool.eq_iff_iff, List.all_eq_true, List.all_eq_true]
  exact ⟨fun h x hx => h x (rot_mem.2 hx), fun h x hx => h x (rot_mem.1 hx)⟩
theorem usedN_mem {n : Nat} {l : List (ExT n)} {x : ByteArray} : x ∈ usedN n l ↔ ∃ e ∈ l, ∃ p ∈ preE n e, x ∈ ptV p := by
  unfold usedN
  rw [metsN_mem]
  simp only [List.not_mem_nil, false_or, List.mem_flatMap]
  constructor
  · rintro ⟨p, ⟨e, he, hp⟩, hx⟩
    exact ⟨e, he, p, hp, hx⟩
  · rintro ⟨e, he, p, hp, hx⟩
    exact ⟨p, ⟨e, he, hp⟩, hx⟩
def turnQ {n : Nat} (q : Qy n) (k f o v : Nat) : Qy n := { q with vars := rot v q.vars, pats := rot k q.pats, fils := rot f q.fils, ord := rot o q.ord }
theorem right_turn {n : Nat} (q : Qy n) (k f o v : Nat) : rightQ (turnQ q k f o v) = rightQ q := by
  rw [Bool.eq_iff_iff, right_parts, right_parts]
  unfold turnQ
  simp only [rot_len, rot_all]
theorem err_turn {n : Nat} (q : Qy n) (k f o v : Nat) : errOf (turnQ q k f o v) = errOf q := by
  unfold errOf
  refine errQ_congr (right_turn q k f o v) (rot_perm v q.vars) ?_ (fun x => ?_) (fun x => ?_)
  · exact (rot_perm o q.ord).map _
  · rw [usedN_mem, usedN_mem]
    exact ⟨fun ⟨e, he, h⟩ => ⟨e, rot_mem.1 he, h⟩, fun ⟨e, he, h⟩ => ⟨e, rot_mem.2 he, h⟩⟩
  · rw [varsN_mem, varsN_mem]
    exact ⟨fun ⟨e, he, h⟩ => ⟨e, rot_mem.1 he, h⟩, fun ⟨e, he, h⟩ => ⟨e, rot_mem.2 he, h⟩⟩
theorem err_right {n : Nat} (q : Qy n) : (errOf q == 2) = !rightQ q := by
  cases h : rightQ q
  · rw [errOf_no h]; rfl
  · have : errOf q ≠ 2 := fun e => by
      have := errQ_arg.1 e
      rw [h] at this; cases this
    simpa using this
/-- Without some of the last filters, keys, names. -/
def lessQ {n : Nat} (q : Qy n) (f o v : Nat) : Qy n := { q with vars := q.vars.take v, fils := q.fils.take f, ord := q.ord.take o }
theorem all_take {α : Type} {p : α → Bool} {l : List α} (h : l.all p = true) (k : Nat) : (l.take k).all p = true := by
  rw [List.all_eq_true] at h ⊢
  exact fun x hx => h x (List.mem_of_mem_take hx)
theorem take_le {α : Type} (k : Nat) (l : List α) : (l.take k).length ≤ l.length := by rw [List.length_take]; omega
theorem right_take {n : Nat} {q : Qy n} (h : rightQ q = true) (f o v : Nat) : rightQ (lessQ q f o v) = true := by
  obtain ⟨h1, h2, h3, h4, h5, h6, h7⟩ := right_parts.1 h
  exact right_parts.2 ⟨fit_le h1 (Nat.le_refl _) (take_le _ _) (take_le _ _) (take_le _ _), h2, ask_le h3 (take_le _ _) (take_le _ _), h4, all_take h5 _, all_take h6 _, all_take h7 _⟩
theorem err_take {n : Nat} {q : Qy n} (h : errOf q = 0) (f o v : Nat) : errOf (lessQ q f o v) = 0 := by
  obtain ⟨h1, h2, h3, h4⟩ := errQ_zero.1 h
  refine errQ_zero.2 ⟨right_take h1 f o v, h2.sublist (List.take_sublist _ _), ?_, fun s hs => h4 s ?_⟩
  · have : keysN (lessQ q f o v).ord = (keysN q.ord).take o := by unfold lessQ keysN; simp [List.map_take]
    rw [this]
    exact h3.sublist (List.take_sublist _ _)
  · simp only [List.mem_append] at hs ⊢
    rcases hs with (hs | hs) | hs
    · exact .inl (.inl (List.mem_of_mem_take hs))
    · refine .inl (.inr ?_)
      unfold keysN at hs ⊢
      obtain ⟨y, hy, e⟩ := List.mem_map.1 hs
      exact List.mem_map.2 ⟨y, List.mem_of_mem_take hy, e⟩
    · refine .inr ?_
      rw [usedN_mem] at hs ⊢
      obtain ⟨e, he, h⟩ := hs
      exact ⟨e, List.mem_of_mem_take he, h⟩
/-- With a pattern more. -/
def moreQ {n : Nat} (q : Qy n) (p : Pat) : Qy n := { q with pats := q.pats ++ [p] }
theorem err_more {n : Nat} {q : Qy n} {p : Pat} (h : errOf q = 0) (hr : rightQ (moreQ q p) = true) : errOf (moreQ q p) = 0 := by
  obtain ⟨h1, h2, h3, h4⟩ := errQ_zero.1 h
  refine errQ_zero.2 ⟨hr, h2, h3, fun s hs => ?_⟩
  obtain ⟨r, e, _⟩ := varsN_more q.pats p
  show s ∈ varsN (q.pats ++ [p])
  rw [e]
  exact List.mem_append_left _ (h4 s hs)

/-! sizes -/
theorem szQ_turn {n : Nat} {q : Qy n} (h : szQ q) (k f o v : Nat) : szQ (turnQ q k f o v) := by
  obtain ⟨h1, h2, h3, h4, h5, h6, h7, h8⟩ := h
  unfold turnQ
  exact ⟨by simpa [rot_len] using h1, by simpa [rot_len] using h2, by simpa [rot_len] using h3, by simpa [rot_len] using h4, fun x hx => h5 x (rot_mem.1 hx), fun x hx => h6 x (rot_mem.1 hx), fun x hx => h7 x (rot_mem.1 hx), fun x hx => h8 x (rot_mem.1 hx)⟩
theorem flat_rot {α β : Type} (k : Nat) (l : List α) (f : α → List β) : ((rot k l).flatMap f).length = (l.flatMap f).length := by
  unfold rot
  rw [List.flatMap_append, List.length_append, Nat.add_comm, ← List.length_append, ← List.flatMap_append, List.take_append_drop]
theorem few_turn {n : Nat} {q : Qy n} (h : fewQ q) (k f o v : Nat) : fewQ (turnQ q k f o v) := by
  obtain ⟨h1, h2, h3, h4, h5, h6⟩ := h
  unfold turnQ
  exact ⟨by simpa [rot_len] using h1, by simpa [rot_len] using h2, by simpa [rot_len] using h3, by simpa [rot_len] using h4, fun x hx => h5 x (rot_mem.1 hx), by show ((rot f q.fils).flatMap (preE n)).length ≤ _; rw [flat_rot]; exact h6⟩
theorem szQ_take {n : Nat} {q : Qy n} (h : szQ q) (f o v : Nat) : szQ (lessQ q f o v) := by
  obtain ⟨h1, h2, h3, h4, h5, h6, h7, h8⟩ := h
  exact ⟨Nat.le_trans (take_le _ _) h1, h2, Nat.le_trans (take_le _ _) h3, Nat.le_trans (take_le _ _) h4, fun x hx => h5 x (List.mem_of_mem_take hx), h6, fun x hx => h7 x (List.mem_of_mem_take hx), fun x hx => h8 x (List.mem_of_mem_take hx)⟩
theorem few_take {n : Nat} {q : Qy n} (h : fewQ q) (f o v : Nat) : fewQ (lessQ q f o v) := by
  obtain ⟨h1, h2, h3, h4, h5, h6⟩ := h
  exact ⟨Nat.le_trans (take_le _ _) h1, h2, Nat.le_trans (take_le _ _) h3, Nat.le_trans (take_le _ _) h4, fun x hx => h5 x (List.mem_of_mem_take hx), Nat.le_trans (take_flat_le _ _) h6⟩
theorem szQ_more {n : Nat} {q : Qy n} {p : Pat} (h : szQ q) (hp : szP p) (hl : q.pats.length ≤ 1000) : szQ (moreQ q p) := by
  obtain ⟨h1, h2, h3, h4, h5, h6, h7, h8⟩ := h
  refine ⟨h1, ?_, h3, h4, h5, fun x hx => ?_, h7, h8⟩
  · show (q.pats ++ [p]).length ≤ _
    simp; omega
  · rcases List.mem_append.1 hx with hx | hx
    · exact h6 x hx
    · obtain rfl : x = p := by simpa using hx
      exact hp
theorem few_more {n : Nat} {q : Qy n} {p : Pat} (h : fewQ q) (hl : q.pats.length ≤ 1000) : fewQ (moreQ q p) := by
  obtain ⟨h1, h2, h3, h4, h5, h6⟩ := h
  refine ⟨h1, ?_, h3, h4, h5, h6⟩
  show (q.pats ++ [p]).length ≤ _
  simp; omega

/-! rows, in parts -/
def subK (k sz c : Nat) (s : Option Addr) : Option Addr := if c = k then s else s.map fun x => x.add (k * sz)
theorem Rd.part {w : World} {s : Option Addr} {xs : List Value} (h : Rd w s xs) (m : Nat) : Rd w (s.map fun x => x.add m) (xs.drop m) := by
  rcases h with rfl | ⟨b, o, rfl, hx⟩
  · exact .inl (by simp)
  · refine .inr ⟨b, o + m, by simp [Addr.add], fun j u hu => ?_⟩
    rw [List.getElem?_drop] at hu
    have := hx _ _ hu
    rwa [show o + m + j = o + (m + j) by omega]
theorem Rd.cut {w : World} {s : Option Addr} {xs : List Value} (h : Rd w s xs) (m : Nat) : Rd w s (xs.take m) := by
  rcases h with rfl | ⟨b, o, rfl, hx⟩
  · exact .inl (by simp)
  · refine .inr ⟨b, o, rfl, fun j u hu => hx j u ?_⟩
    rw [List.getElem?_take] at hu
    split at hu
    · exact hu
    · cases hu
theorem RdL.partK {α : Type} {sz : Nat} {R : List Value → α → Prop} {w : World} {s : Option Addr} {l : List α} {c : Nat} (h : RdL sz R w s l) (hl : l.length ≤ c) (k : Nat) : RdL sz R w (subK k sz c s) (l.drop k) := by
  obtain ⟨xs, hr, ha⟩ := h
  unfold subK
  split
  · rename_i e
    have : l.drop k = [] := List.drop_eq_nil_of_le (by omega)
    rw [this]
    exact RdL.nil _ _ _ _
  · exact ⟨_, hr.part (k * sz), ha.drop k⟩
theorem RdL.cutK {α : Type} {sz : Nat} {R : List Value → α → Prop} {w : World} {s : Option Addr} {l : List α} (h : RdL sz R w s l) (k : Nat) : RdL sz R w s (l.take k) := by
  obtain ⟨xs, hr, ha⟩ := h
  exact ⟨_, hr.cut (k * sz), ha.take k⟩
end Go.Proofs.YtefjhehgpkljcaaGreatDoor
namespace Go.Proofs.YtefjhehgpkljcaaGreatDoor.Rl
open Go Go.Sort Go.RowKit Rg Rh Rf

section
variable {P : Program} {ops : Array Oper}

/-- Whatever order is drawn from here on; operation L may turn older blocks. -/
def AnyL (P : Program) (ops : Array Oper) (B L : Nat) (Q : Act → World → Prop) : Nat → Array Bool → Act → World → Prop
  | 0, listed, a, w => Region.ready .any ops listed = [] ∧ Q a w
  | fuel + 1, listed, a, w => (Region.ready .any ops listed = [] → Q a w) ∧
      ∀ i ∈ Region.ready .any ops listed, wpOp P ops Bot i (fun a' W' => (i = L ∨ Below B w W') ∧ AnyL P ops B L Q fuel (listed.setIfInBounds i true) a' W') a w
theorem AnyL.sound {B L : Nat} {Q : Act → World → Prop} {Q' : Exit → Act → World → Prop} (hQ : ∀ a w, Q a w → Q' .normal a w) : ∀ (fuel : Nat) (listed : Array Bool) (a : Act) (w : World),
    AnyL P ops B L Q fuel listed a w → wpAny P .any ops Q' fuel listed a w
  | 0, _, _, _, h => ⟨h.1, hQ _ _ h.2⟩
  | fuel + 1, _, a, w, h => by
    obtain ⟨h0, h1⟩ := h
    exact ⟨fun e => hQ _ _ (h0 e), fun i hi => wpOp_bot (wpOp_mono (fun a' W' h2 => AnyL.sound hQ fuel _ a' W' h2.2) (h1 i hi))⟩

/-- L stands behind all others. -/
def lastB (ops : Array Oper) (L : Nat) : Bool := match ops[L]? with
  | none => false
  | some o => (List.range ops.size).all fun k => k == L || o.after.any fun e => Region.binds .any e && e.on == k
theorem last_spec {L : Nat} (h : lastB ops L = true) {listed : Array Bool} (hL : L ∈ Region.ready .any ops listed) {i : Nat} (hi : i ∈ Region.ready .any ops listed) : i = L := by
  obtain ⟨_, o, ho, hall⟩ := mem_ready.1 hL
  obtain ⟨h0, oi, hoi, _⟩ := mem_ready.1 hi
  unfold lastB at h
  rw [ho] at h
  simp only at h
  have hlt : i < ops.size := (Array.getElem?_eq_some_iff.1 hoi).1
  have := List.all_eq_true.1 h i (by simpa using hlt)
  rw [Bool.or_eq_true, beq_iff_eq] at this
  rcases this with e | e
  · exact e
  · obtain ⟨x, hx, hb⟩ := Array.any_eq_true'.1 e
    rw [Bool.and_eq_true, beq_iff_eq] at hb
    have h1 := hall x hx hb.1
    rw [hb.2] at h1
    rcases Nat.lt_or_ge i listed.size with h' | h'
    · simp [h'] at h0 h1; rw [h0] at h1; cases h1
    · simp [Array.getElem?_eq_none h'] at h1

theorem AnyL.first {B L : Nat} (hlast : lastB ops L = true) {Q : Act → World → Prop} {i : Nat} {oi : Oper} {v : Value} (hi : ops[i]? = some oi) (hsel : ∀ (j : Nat) (o : Oper) cs b, ops[j]? = some o → o.op ≠ .select cs b) :
    ∀ (fuel : Nat) (listed : Array Bool) (a : Act) (w : World),
      (∀ j oj, ops[j]? = some oj → j ≠ i → listed.getD j true = false → (∀ e ∈ oj.after, Region.binds .any e = true → e.on ≠ i) → oi.apart ops oj = true) →
      i ∈ Region.ready .any ops listed → YB P ops B oi v a w →
      AnyL P ops B L Q fuel (listed.setIfInBounds i true) (a.put oi.dst v) w → AnyL P ops B L Q (fuel + 1) listed a w := by
  intro fuel
  induction fuel with
  | zero =>
    intro listed a w _ hr hy H
    refine ⟨fun h => (by rw [h] at hr; cases hr), fun j hj => ?_⟩
    by_cases hji : j = i
    · subst hji; exact hy.wpOp hi ⟨.inr (Below.refl _ _), H⟩
    · have := ready_mono hj hji
      rw [H.1] at this
      cases this
  | succ fuel ih =>
    intro listed a w hfree hr hy H
    refine ⟨fun h => (by rw [h] at hr; cases hr), fun j hj => ?_⟩
    by_cases hji : j = i
    · subst hji; exact hy.wpOp hi ⟨.inr (Below.refl _ _), H⟩
    · have hjL : j ≠ L := fun e => hji (by subst e; exact (last_spec hlast hj hr).symm)
      have h1 := H.2 j (ready_mono hj hji)
      obtain ⟨hjun, oj, hoj, hall⟩ := mem_ready.1 hj
      have hnot : ∀ e ∈ oj.after, Region.binds .any e = true → e.on ≠ i := fun e he hb heq => by
        have h1 := hall e he hb
        have h0 := (mem_ready.1 hr).1
        rw [heq] at h1
        rcases Nat.lt_or_ge i listed.size with h' | h'
        · simp [h'] at h0 h1; rw [h0] at h1; cases h1
        · simp [Array.getElem?_eq_none h'] at h1
      have h2 := wpOp_putB hoj (hfree j oj hoj hji hjun hnot) (fun cs b => hsel i oi cs b hi) (fun cs b => hsel j oj cs b hoj) hy h1
      have hfree' : ∀ k ok, ops[k]? = some ok → k ≠ i → (listed.setIfInBounds j true).getD k true = false →
          (∀ e ∈ ok.after, Region.binds .any e = true → e.on ≠ i) → oi.apart ops ok = true := fun k ok hk hki hun hno => by
        refine hfree k ok hk hki ?_ hno
        by_cases hjk : j = k
        · subst hjk; exact hjun
        · rw [getD_set_ne true hjk] at hun; exact hun
      refine wpOp_mono (fun a' W' h3 => ?_) h2
      obtain ⟨hy', hb1, h4⟩ := h3
      have hb1' := hb1.resolve_left hjL
      refine ⟨hb1, ih (listed.setIfInBounds j true) a' W' hfree' (ready_mono hr (Ne.symm hji)) (hy'.later hb1') ?_⟩
      rw [Array.setIfInBounds_comm _ _ hji]
      exact h4

theorem quiet_soundL {B L : Nat} (hlast : lastB ops L = true) {Q : Act → World → Prop} (hs : Region.noSelect ops = true) {w : World} {K : Act → Prop} {fuel : Nat} {l' : Array Bool} (hK : ∀ a, K a → AnyL P ops B L Q fuel l' a w) :
    ∀ (is : List Nat) (listed : Array Bool) (a : Act), quietSeq ops is listed = some l' → wpQuiet P ops (ClsB B w) K (pickOps ops is) a → AnyL P ops B L Q (is.length + fuel) listed a w
  | [], listed, a, hq, h => by
    simp only [quietSeq, Option.some.injEq] at hq
    subst hq
    simp only [List.length_nil, Nat.zero_add]
    exact hK a h
  | i :: is, listed, a, hq, h => by
    simp only [quietSeq] at hq
    split at hq
    case isFalse => cases hq
    rename_i hc
    simp only [Bool.and_eq_true] at hc
    obtain ⟨⟨hr, hf⟩, hb⟩ := hc
    cases ho : ops[i]? with
    | none => simp [ho] at hb
    | some o =>
      simp only [ho, Option.map_some, Option.getD_some] at hb
      simp only [pickOps, List.map_cons, ho, Option.getD_some] at h
      obtain ⟨v, hy, hn⟩ := yb_of_quiet (K := wpQuiet P ops (ClsB B w) K (pickOps ops is)) hb h
      have := quiet_soundL hlast hs hK is _ _ hq hn
      rw [List.length_cons, Nat.add_right_comm]
      exact AnyL.first hlast ho (Region.noSelect_spec hs) _ listed a w (Region.free_spec ho hf) (by simpa using hr) hy this

/-- The steps: readers (true), or one operation alone (false); then the last one. -/
def wpSteps (P : Program) (ops : Array Oper) (B : Nat) (Q : Act → World → Prop) (last : Oper) : List (Bool × List Oper) → Act → World → Prop
  | [], a, w => wpList P ops (Exit.then Q Bot) [last] a w
  | (true, l) :: r, a, w => wpQuiet P ops (ClsB B w) (fun a' => wpSteps P ops B Q last r a' w) l a
  | (false, l) :: r, a, w => wpList P ops (Exit.then (fun a' W' => Below B w W' ∧ wpSteps P ops B Q last r a' W') Bot) l a w
theorem st_quiet {B : Nat} {Q : Act → World → Prop} {last : Oper} {l : List Oper} {r : List (Bool × List Oper)} {a : Act} {w : World} (h : wpQuiet P ops (ClsB B w) (fun a' => wpSteps P ops B Q last r a' w) l a) : wpSteps P ops B Q last ((true, l) :: r) a w := h
theorem st_one {B : Nat} {Q : Act → World → Prop} {last : Oper} {l : List Oper} {r : List (Bool × List Oper)} {a : Act} {w : World} (h : wpList P ops (Exit.then (fun a' W' => Below B w W' ∧ wpSteps P ops B Q last r a' W') Bot) l a w) : wpSteps P ops B Q last ((false, l) :: r) a w := h
theorem st_last {B : Nat} {Q : Act → World → Prop} {last : Oper} {a : Act} {w : World} (h : wpList P ops (Exit.then Q Bot) [last] a w) : wpSteps P ops B Q last [] a w := h
def stB (ops : Array Oper) (L : Nat) : List (Bool × List Nat) → Array Bool → Bool
  | [], l => (Region.ready .any ops l == [L]) && (Region.ready .any ops (l.setIfInBounds L true)).isEmpty && (ops[L]?).isSome
  | (true, is) :: r, l => match quietSeq ops is l with | some l' => stB ops L r l' | none => false
  | (false, [i]) :: r, l => (Region.ready .any ops l == [i]) && (ops[i]?).isSome && stB ops L r (l.setIfInBounds i true)
  | (false, _) :: _, _ => false
def stLen : List (Bool × List Nat) → Nat
  | [] => 1
  | x :: r => x.2.length + stLen r
def stOK (ops : Array Oper) (L : Nat) (p : List (Bool × List Nat)) : Bool := Region.noSelect ops && lastB ops L && stB ops L p (Array.replicate ops.size false) && (stLen p == ops.size)
theorem last_step {j : Nat} {o : Oper} (ho : ops[j]? = some o) {G X : Act → World → Prop} {a : Act} {w : World}
    (h : wpList P ops (Exit.then G Bot) [o] a w) (hx : ∀ a' W', G a' W' → X a' W') : wpOp P ops Bot j X a w := by
  unfold wpOp
  simp only [ho]
  have next : ∀ a' W', wpList P ops (Exit.then G Bot) [] a' W' → X a' W' := fun a' W' hh => hx a' W' hh
  simp only [wpList] at h
  split at h
  · rename_i hw
    rw [if_pos hw]
    rcases h with h | h
    · left
      exact upon_exit (fun c a w h => h) (fun h => h) (Oper.wp_mono next h)
    · obtain ⟨_, hl⟩ := h
      obtain ⟨_, _, hf⟩ := hl
      exact hf.elim
  · rename_i hw
    rw [if_neg hw]
    exact next _ _ h
theorem st_sound {B L : Nat} {Q : Act → World → Prop} {o : Oper} (hoL : ops[L]? = some o) (hs : Region.noSelect ops = true) (hlast : lastB ops L = true) : ∀ (p : List (Bool × List Nat)) (listed : Array Bool) (a : Act) (w : World),
    stB ops L p listed = true → wpSteps P ops B Q o (p.map fun x => (x.1, pickOps ops x.2)) a w → AnyL P ops B L Q (stLen p) listed a w
  | [], listed, a, w, hB, h => by
    simp only [stB, Bool.and_eq_true, beq_iff_eq, List.isEmpty_iff] at hB
    obtain ⟨⟨h1, h2⟩, _⟩ := hB
    refine ⟨fun e => (by rw [h1] at e; cases e), fun i hi => ?_⟩
    rw [h1] at hi
    simp only [List.mem_singleton] at hi
    subst hi
    exact last_step hoL h fun a' W' hq => ⟨.inl rfl, h2, hq⟩
  | (true, is) :: r, listed, a, w, hB, h => by
    simp only [stB] at hB
    cases hq : quietSeq ops is listed with
    | none => simp [hq] at hB
    | some l' =>
      simp only [hq] at hB
      simp only [List.map_cons, wpSteps] at h
      exact quiet_soundL hlast hs (fun a' ha' => st_sound hoL hs hlast r l' a' w hB ha') is listed a hq h
  | (false, [i]) :: r, listed, a, w, hB, h => by
    simp only [stB, Bool.and_eq_true, beq_iff_eq] at hB
    obtain ⟨⟨hr, ho⟩, hB⟩ := hB
    obtain ⟨oi, ho⟩ := Option.isSome_iff_exists.1 ho
    simp only [List.map_cons, List.map_nil, wpSteps, pickOps, ho, Option.getD_some] at h
    show AnyL P ops B L Q (1 + stLen r) listed a w
    rw [Nat.add_comm]
    refine ⟨fun h0 => (by rw [hr] at h0; cases h0), fun j hj => ?_⟩
    rw [hr] at hj
    simp only [List.mem_singleton] at hj
    subst hj
    exact one_step ho h fun a' W' hb hg => ⟨.inr hb, st_sound hoL hs hlast r _ a' W' hB hg⟩
  | (false, []) :: r, listed, a, w, hB, h => by simp [stB] at hB
  | (false, _ :: _ :: _) :: r, listed, a, w, hB, h => by simp [stB] at hB
/-- **THE REGION BY ITS STEPS**, the last of which writes. -/
theorem wp_region_st (B L : Nat) (R : Act → World → Prop) {id : Nat} {Q : Exit → Act → World → Prop} {a : Act} {w : World} {l : List Oper} (p : List (Bool × List Nat)) (p' : List (Bool × List Oper)) {o : Oper} (hm : P.follows .mixedOrders = true) (hB : stOK l.toArray L p = true)
    (hoL : l.toArray[L]? = some o) (hp : (p.map fun x => (x.1, pickOps l.toArray x.2)) = p') (h0 : ∀ wd, Below w.heap.size w wd → wd.heap.size = w.heap.size → wpSteps P l.toArray B R o p' a wd) (hR : ∀ a w, R a w → Q .normal a w) : (Code.region id l.toArray true).wp P Q a w := by
  subst hp
  unfold stOK at hB
  simp only [Bool.and_eq_true, beq_iff_eq] at hB
  obtain ⟨⟨⟨h1, h2⟩, h3⟩, h4⟩ := hB
  refine wp_region_any hm ?_
  have := st_sound (P := P) (Q := R) (B := B) hoL h1 h2 p _ a w.drew h3 (h0 _ (Below.refl _ _).drew rfl)
  rw [h4] at this
  exact AnyL.sound hR _ _ a w.drew this
end
end Go.Proofs.YtefjhehgpkljcaaGreatDoor.Rl
namespace Go.Proofs.YtefjhehgpkljcaaGreatDoor
open Go Go.RowKit Um Fm Mt

/-- A world without one block. -/
abbrev hB (B : Nat) : Nat → Obj → Bool := fun k _ => k == B
/-- A query in a block of its own; its rows lie elsewhere. -/
structure BoxQ (n : Nat) (w : World) (B : Nat) (q : Qy n) (a1 a2 a3 a4 : Option Addr) (c1 c2 c3 c4 : Nat) : Prop where
  row : w.heap[B]? = some (.cells #[.bool q.ask, .bool q.dist, .slice a1 q.vars.length c1, .slice a2 q.pats.length c2, .slice a3 q.fils.length c3, .slice a4 q.ord.length c4, .int .i64 q.lim, .int .i64 q.off] 40 (0, 0))
  le1 : q.vars.length ≤ c1
  le2 : q.pats.length ≤ c2
  le3 : q.fils.length ≤ c3
  le4 : q.ord.length ≤ c4
  r1 : RdStr (wo (hB B) w) a1 q.vars
  r2 : RdPat (wo (hB B) w) a2 q.pats
  r3 : RdEs n (wo (hB B) w) a3 q.fils
  r4 : RdKey (wo (hB B) w) a4 q.ord
theorem RdStr_to {w : World} {A : Option Addr} {l : List ByteArray} (h : RdStr w A l) : Rd w A (l.map Value.string) := by
  obtain ⟨xs, hr, ha⟩ := h
  have : xs = l.map Value.string := by
    clear hr
    induction l generalizing xs with
    | nil => exact ha
    | cons a r ih =>
      obtain ⟨cs, ys, rfl, _, rfl, hy⟩ := ha
      rw [ih ys hy]; rfl
  rw [← this]; exact hr
theorem wo_cellB {B : Nat} {w : World} {p : Addr} {u : Value} : (wo (hB B) w).cell? p = some u ↔ (w.cell? p = some u ∧ p.block ≠ B) := by
  rw [wo_cellN (h := fun k => k == B)]
  simp
theorem CM.woB {B : Nat} {w : World} : CM (wo (hB B) w) w := fun _ _ h => (wo_cell.1 h).1
theorem CM.woBelow {B : Nat} {w w' : World} (h : Below w.heap.size w w') : CM (wo (hB B) w) (wo (hB B) w') := fun p u x => by
  obtain ⟨h1, h2⟩ := wo_cellB.1 x
  exact wo_cellB.2 ⟨cell_on h1 h, h2⟩
theorem CM.woSet {B i : Nat} {v : Value} {w : World} : CM (wo (hB B) w) (wo (hB B) (w.setCell ⟨B, i, none⟩ v)) := fun p u x => by
  obtain ⟨h1, h2⟩ := wo_cellB.1 x
  refine wo_cellB.2 ⟨?_, h2⟩
  rw [World.cell?, Below.heap_setCell _ _ _ _ h2]; exact h1
theorem BoxQ.later {n : Nat} {w w' : World} {B : Nat} {q : Qy n} {a1 a2 a3 a4 : Option Addr} {c1 c2 c3 c4 : Nat} (h : BoxQ n w B q a1 a2 a3 a4 c1 c2 c3 c4) (hb : Below w.heap.size w w') : BoxQ n w' B q a1 a2 a3 a4 c1 c2 c3 c4 :=
  ⟨by rw [hb.block _ (Array.getElem?_eq_some_iff.1 h.row).1]; exact h.row, h.le1, h.le2, h.le3, h.le4, RdL.cm h.r1 (CM.woBelow hb) (fun _ _ _ h => h), RdL.cm h.r2 (CM.woBelow hb) (fun _ _ _ h => h), RdEs.cm h.r3 (CM.woBelow hb), RdL.cm h.r4 (CM.woBelow hb) (fun _ _ _ h => h)⟩
theorem BoxQ.rdq {n : Nat} {w : World} {B : Nat} {q : Qy n} {a1 a2 a3 a4 : Option Addr} {c1 c2 c3 c4 : Nat} (h : BoxQ n w B q a1 a2 a3 a4 c1 c2 c3 c4) :
    RdQ n w [.bool q.ask, .bool q.dist, .slice a1 q.vars.length c1, .slice a2 q.pats.length c2, .slice a3 q.fils.length c3, .slice a4 q.ord.length c4, .int .i64 q.lim, .int .i64 q.off] q :=
  ⟨a1, a2, a3, a4, c1, c2, c3, c4, rfl, ⟨h.le1, h.le2, h.le3, h.le4⟩, RdStr_to (RdL.cm h.r1 CM.woB (fun _ _ _ h => h)), RdL.cm h.r2 CM.woB (fun _ _ _ h => h), RdEs.cm h.r3 CM.woB, RdL.cm h.r4 CM.woB (fun _ _ _ h => h)⟩
theorem BoxQ.cell {n : Nat} {w : World} {B : Nat} {q : Qy n} {a1 a2 a3 a4 : Option Addr} {c1 c2 c3 c4 : Nat} (h : BoxQ n w B q a1 a2 a3 a4 c1 c2 c3 c4) (i : Nat) (v : Value) (hv : (#[.bool q.ask, .bool q.dist, .slice a1 q.vars.length c1, .slice a2 q.pats.length c2, .slice a3 q.fils.length c3, .slice a4 q.ord.length c4, .int .i64 q.lim, .int .i64 q.off] : Array Value)[i]? = some v) : w.cell? ⟨B, i, none⟩ = some v := by
  rw [World.cell?, h.row]; exact hv
theorem BoxQ.fr {n : Nat} {w : World} {B : Nat} {q : Qy n} {a1 a2 a3 a4 : Option Addr} {c1 c2 c3 c4 : Nat} (h : BoxQ n w B q a1 a2 a3 a4 c1 c2 c3 c4) (i : Nat) : w.frozen? ⟨B, i, none⟩ = false := by
  simp [World.frozen?, h.row]
theorem BoxQ.made {n : Nat} {w : World} {q : Qy n} {a1 a2 a3 a4 : Option Addr} {c1 c2 c3 c4 : Nat} (h : RdQ n w [.bool q.ask, .bool q.dist, .slice a1 q.vars.length c1, .slice a2 q.pats.length c2, .slice a3 q.fils.length c3, .slice a4 q.ord.length c4, .int .i64 q.lim, .int .i64 q.off] q) :
    BoxQ n ((w.alloc (.cells #[.bool false, .bool false, .slice none 0 0, .slice none 0 0, .slice none 0 0, .slice none 0 0, .int .i64 0, .int .i64 0] 40)).setRow w.heap.size #[.bool q.ask, .bool q.dist, .slice a1 q.vars.length c1, .slice a2 q.pats.length c2, .slice a3 q.fils.length c3, .slice a4 q.ord.length c4, .int .i64 q.lim, .int .i64 q.off]) w.heap.size q a1 a2 a3 a4 c1 c2 c3 c4 := by
  have hc : CM w (wo (hB w.heap.size) ((w.alloc (.cells #[.bool false, .bool false, .slice none 0 0, .slice none 0 0, .slice none 0 0, .slice none 0 0, .int .i64 0, .int .i64 0] 40)).setRow w.heap.size #[.bool q.ask, .bool q.dist, .slice a1 q.vars.length c1, .slice a2 q.pats.length c2, .slice a3 q.fils.length c3, .slice a4 q.ord.length c4, .int .i64 q.lim, .int .i64 q.off])) := fun p u hp => by
    have hlt := cell_lt hp
    refine wo_cellB.2 ⟨?_, by omega⟩
    rw [World.cell?, setRow_other _ _ _ _ (by omega), Below.heap_alloc _ _ _ hlt]; exact hp
  obtain ⟨o1, o2, o3, o4, r1, r2, r3, r4⟩ := h.spell
  exact ⟨setRow_heap _ _ _ _ _ _ (heap_alloc_new w (.cells #[.bool false, .bool false, .slice none 0 0, .slice none 0 0, .slice none 0 0, .slice none 0 0, .int .i64 0, .int .i64 0] 40)), o1, o2, o3, o4, RdL.cm (RdStr_of r1) hc (fun _ _ _ h => h), RdL.cm r2 hc (fun _ _ _ h => h), RdEs.cm r3 hc, RdL.cm r4 hc (fun _ _ _ h => h)⟩
theorem BoxQ.set_vars {n : Nat} {w : World} {B : Nat} {q : Qy n} {a1 a2 a3 a4 : Option Addr} {c1 c2 c3 c4 : Nat} (h : BoxQ n w B q a1 a2 a3 a4 c1 c2 c3 c4) {A : Option Addr} {c : Nat} {l : List ByteArray} (hc : l.length ≤ c) (hr : RdStr (wo (hB B) w) A l) :
    BoxQ n (w.setCell ⟨B, 2, none⟩ (.slice A l.length c)) B { q with vars := l } A a2 a3 a4 c c2 c3 c4 :=
  ⟨by rw [heap_setCell_same _ _ _ _ _ _ h.row]; rfl, hc, h.le2, h.le3, h.le4, RdL.cm hr CM.woSet (fun _ _ _ h => h), RdL.cm h.r2 CM.woSet (fun _ _ _ h => h), RdEs.cm h.r3 CM.woSet, RdL.cm h.r4 CM.woSet (fun _ _ _ h => h)⟩
theorem BoxQ.set_pats {n : Nat} {w : World} {B : Nat} {q : Qy n} {a1 a2 a3 a4 : Option Addr} {c1 c2 c3 c4 : Nat} (h : BoxQ n w B q a1 a2 a3 a4 c1 c2 c3 c4) {A : Option Addr} {c : Nat} {l : List Pat} (hc : l.length ≤ c) (hr : RdPat (wo (hB B) w) A l) :
    BoxQ n (w.setCell ⟨B, 3, none⟩ (.slice A l.length c)) B { q with pats := l } a1 A a3 a4 c1 c c3 c4 :=
  ⟨by rw [heap_setCell_same _ _ _ _ _ _ h.row]; rfl, h.le1, hc, h.le3, h.le4, RdL.cm h.r1 CM.woSet (fun _ _ _ h => h), RdL.cm hr CM.woSet (fun _ _ _ h => h), RdEs.cm h.r3 CM.woSet, RdL.cm h.r4 CM.woSet (fun _ _ _ h => h)⟩
theorem BoxQ.set_fils {n : Nat} {w : World} {B : Nat} {q : Qy n} {a1 a2 a3 a4 : Option Addr} {c1 c2 c3 c4 : Nat} (h : BoxQ n w B q a1 a2 a3 a4 c1 c2 c3 c4) {A : Option Addr} {c : Nat} {l : List (ExT n)} (hc : l.length ≤ c) (hr : RdEs n (wo (hB B) w) A l) :
    BoxQ n (w.setCell ⟨B, 4, none⟩ (.slice A l.length c)) B { q with fils := l } a1 a2 A a4 c1 c2 c c4 :=
  ⟨by rw [heap_setCell_same _ _ _ _ _ _ h.row]; rfl, h.le1, h.le2, hc, h.le4, RdL.cm h.r1 CM.woSet (fun _ _ _ h => h), RdL.cm h.r2 CM.woSet (fun _ _ _ h => h), RdEs.cm hr CM.woSet, RdL.cm h.r4 CM.woSet (fun _ _ _ h => h)⟩
theorem BoxQ.set_ord {n : Nat} {w : World} {B : Nat} {q : Qy n} {a1 a2 a3 a4 : Option Addr} {c1 c2 c3 c4 : Nat} (h : BoxQ n w B q a1 a2 a3 a4 c1 c2 c3 c4) {A : Option Addr} {c : Nat} {l : List Ky} (hc : l.length ≤ c) (hr : RdKey (wo (hB B) w) A l) :
    BoxQ n (w.setCell ⟨B, 5, none⟩ (.slice A l.length c)) B { q with ord := l } a1 a2 a3 A c1 c2 c3 c :=
  ⟨by rw [heap_setCell_same _ _ _ _ _ _ h.row]; rfl, h.le1, h.le2, h.le3, hc, RdL.cm h.r1 CM.woSet (fun _ _ _ h => h), RdL.cm h.r2 CM.woSet (fun _ _ _ h => h), RdEs.cm h.r3 CM.woSet, RdL.cm hr CM.woSet (fun _ _ _ h => h)⟩
theorem ones_all {sz : Nat} {α : Type} {R : List Value → α → Prop} (hR : ∀ cs e, R cs e → ∀ u ∈ cs, u.oneCell' = true) : ∀ {l : List α} {xs : List Value}, All sz R xs l → ∀ u ∈ xs, u.oneCell' = true
  | [], xs, h, u, hu => by
    have : xs = [] := h
    subst this; cases hu
  | e :: l, xs, ⟨cs, ys, h1, _, h3, h4⟩, u, hu => by
    subst h1
    rcases List.mem_append.1 hu with hu | hu
    · exact hR cs e h3 u hu
    · exact ones_all hR h4 u hu
theorem ones_pat : ∀ (cs : List Value) (e : Pat), cs = cPat e → ∀ u ∈ cs, u.oneCell' = true := fun cs e h u hu => pats1C [e] u (by subst h; simpa using hu)
theorem ones_key : ∀ (cs : List Value) (e : Ky), cs = cKey e → ∀ u ∈ cs, u.oneCell' = true := fun cs e h u hu => keys1C [e] u (by subst h; simpa using hu)
theorem ones_str : ∀ (cs : List Value) (e : ByteArray), cs = [Value.string e] → ∀ u ∈ cs, u.oneCell' = true := fun cs e h u hu => by
  subst h
  obtain rfl : u = .string e := by simpa using hu
  rfl
theorem ones_expr (n : Nat) (w : World) : ∀ (cs : List Value) (e : ExT n), RdE n w cs e → ∀ u ∈ cs, u.oneCell' = true := fun cs e h u hu => by
  obtain ⟨k, s, t, A, m, c, rfl, _⟩ := rd_spell h
  simp only [List.mem_cons, List.not_mem_nil, or_false] at hu
  rcases hu with rfl | rfl | rfl | rfl | rfl | rfl | rfl <;> rfl
theorem own_wo {w : World} {B base : Nat} {e : TypeId} {size n : Nat} {v : Value} {xs : List Value} (h : w.ownsRow base e size v n xs) (hb : B < base) : (wo (hB B) w).ownsRow base e size v n xs := by
  obtain ⟨h1, h2⟩ := h
  refine ⟨h1, ?_⟩
  rcases h2 with h2 | ⟨g, cap, cur, e1, e2, e3, e4⟩
  · exact .inl h2
  · refine .inr ⟨g, cap, cur, e1, e2, ?_, e4⟩
    have hne : (g == B) = false := by simp; omega
    simp only [wo, Array.getElem?_mapIdx, e3, Option.map_some, hB, hne]
    rfl
theorem cQueryQ (n : Nat) (q : Qy n) (a1 a2 a3 a4 : Option Addr) (c1 c2 c3 c4 : Nat) (w : World) (hC : Ctx w) (hf : fewQ q) (hz : szQ q) (hq : RdQ n w [.bool q.ask, .bool q.dist, .slice a1 q.vars.length c1, .slice a2 q.pats.length c2, .slice a3 q.fils.length c3, .slice a4 q.ord.length c4, .int .i64 q.lim, .int .i64 q.off] q) :
    Calls Tryz.prog 17 #[.agg #[.bool q.ask, .bool q.dist, .slice a1 q.vars.length c1, .slice a2 q.pats.length c2, .slice a3 q.fils.length c3, .slice a4 q.ord.length c4, .int .i64 q.lim, .int .i64 q.off]] w fun e w' => e = .returned (.int .i64 (errOf q)) ∧ Below w.heap.size w w' := by
  obtain ⟨_, _, _, _, r1, r2, r3, r4⟩ := hq.spell
  exact cQuery n q a1 a2 a3 a4 c1 c2 c3 c4 w hC hf hz hq r1 r2 r3 r4
theorem own_wo_ne {w : World} {B base : Nat} {e : TypeId} {size n : Nat} {v : Value} {xs : List Value} (h : w.ownsRow base e size v n xs) (hne : v.ownBlock ≠ some B) : (wo (hB B) w).ownsRow base e size v n xs := by
  obtain ⟨h1, h2⟩ := h
  refine ⟨h1, ?_⟩
  rcases h2 with h2 | ⟨g, cap, cur, e1, e2, e3, e4⟩
  · exact .inl h2
  · refine .inr ⟨g, cap, cur, e1, e2, ?_, e4⟩
    have hne' : (g == B) = false := by
      simp
      intro e
      exact hne (by rw [e1, e]; rfl)
    simp only [wo, Array.getElem?_mapIdx, e3, Option.map_some, hB, hne']
    rfl
theorem own_type {w : World} {base : Nat} {e : TypeId} {size n : Nat} {v : Value} {xs : List Value} (h : w.ownsRow base e size v n xs) {g : Nat} (hg : v.ownBlock = some g) : ∃ cur, w.heap[g]? = some (.cells cur e (0, 0)) := by
  rcases h.2 with ⟨h2, _⟩ | ⟨g', cap, cur, e1, e2, e3, e4⟩
  · rw [h2] at hg; simp [Value.ownBlock] at hg
  · rw [e1] at hg
    simp only [Value.ownBlock, Option.some.injEq] at hg
    subst hg
    exact ⟨cur, e3⟩
theorem few_of' {n : Nat} {q : Qy n} (h : allQ q ≤ 400) (he : ∀ x ∈ q.fils, szE n x) : fewQ q := by
  unfold allQ cntQ at h
  exact ⟨by omega, by omega, by omega, by omega, he, by omega⟩
end Go.Proofs.YtefjhehgpkljcaaGreatDoor
