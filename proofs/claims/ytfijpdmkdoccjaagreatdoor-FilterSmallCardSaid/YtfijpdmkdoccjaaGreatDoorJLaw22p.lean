/- The law on queries that are the same: the plain part; the contracts put together. -/
import Derived.Test.YtfijpdmkdoccjaaGreatDoorJLent4
import Derived.Test.YtfijpdmkdoccjaaGreatDoorJFilProg
namespace Go.Proofs.YtfijpdmkdoccjaaGreatDoor
open Go Go.RowKit Um Fm Mt
theorem right_parts {n : Nat} {q : Qy n} : rightQ q = true ↔ (fitQ q.pats.length q.fils.length q.vars.length q.ord.length = true ∧ numsQ q.lim q.off = true ∧ askQ q.ask q.dist q.vars.length q.ord.length q.lim q.off = true ∧ q.pats.all patB = true ∧ q.fils.all (exprB n) = true ∧ q.vars.all nameB = true ∧ (q.ord.all fun y => nameB y.v) = true) := by
  unfold rightQ
  simp only [Bool.and_eq_true, and_assoc]
theorem all_tail {α : Type} {p : α → Bool} {l : List α} (h : l.all p = true) : l.tail.all p = true := by
  rw [List.all_eq_true] at h ⊢
  exact fun x hx => h x (List.mem_of_mem_tail hx)
theorem fit_le {a b c d a' b' c' d' : Nat} (h : fitQ a b c d = true) (h1 : a' ≤ a) (h2 : b' ≤ b) (h3 : c' ≤ c) (h4 : d' ≤ d) : fitQ a' b' c' d' = true := by
  simp [fitQ] at h ⊢; omega
theorem ask_le {p d : Bool} {a b a' b' : Nat} {l f : Int} (h : askQ p d a b l f = true) (h1 : a' ≤ a) (h2 : b' ≤ b) : askQ p d a' b' l f = true := by
  cases p
  · simp [askQ]
  · simp [askQ] at h ⊢
    obtain ⟨⟨h3, h4⟩, h5⟩ := h
    exact ⟨⟨h3, by omega⟩, h5⟩
/-- The four ways to leave out the first. -/
inductive Less {n : Nat} (q : Qy n) : Qy n → Prop
  | none : Less q q
  | pats : Less q { q with pats := q.pats.tail }
  | fils : Less q { q with fils := q.fils.tail }
  | ord : Less q { q with ord := q.ord.tail }
  | vars : Less q { q with vars := q.vars.tail }
theorem right_less {n : Nat} {q r : Qy n} (h : rightQ q = true) (hl : Less q r) : rightQ r = true := by
  obtain ⟨h1, h2, h3, h4, h5, h6, h7⟩ := right_parts.1 h
  refine right_parts.2 ?_
  cases hl
  · exact ⟨h1, h2, h3, h4, h5, h6, h7⟩
  · exact ⟨fit_le h1 (by simp) (Nat.le_refl _) (Nat.le_refl _) (Nat.le_refl _), h2, h3, all_tail h4, h5, h6, h7⟩
  · exact ⟨fit_le h1 (Nat.le_refl _) (by simp) (Nat.le_refl _) (Nat.le_refl _), h2, h3, h4, all_tail h5, h6, h7⟩
  · exact ⟨fit_le h1 (Nat.le_refl _) (Nat.le_refl _) (Nat.le_refl _) (by simp), h2, ask_le h3 (Nat.le_refl _) (by simp), h4, h5, h6, all_tail h7⟩
  · exact ⟨fit_le h1 (Nat.le_refl _) (Nat.le_refl _) (by simp) (Nat.le_refl _), h2, ask_le h3 (by simp) (Nat.le_refl _), h4, h5, all_tail h6, h7⟩
theorem sz_less {n : Nat} {q r : Qy n} (h : szQ q) (hl : Less q r) : szQ r := by
  obtain ⟨h1, h2, h3, h4, h5, h6, h7, h8⟩ := h
  cases hl
  · exact ⟨h1, h2, h3, h4, h5, h6, h7, h8⟩
  · exact ⟨h1, by show q.pats.tail.length ≤ _; rw [List.length_tail]; omega, h3, h4, h5, fun x hx => h6 x (List.mem_of_mem_tail hx), h7, h8⟩
  · exact ⟨h1, h2, by show q.fils.tail.length ≤ _; rw [List.length_tail]; omega, h4, h5, h6, fun x hx => h7 x (List.mem_of_mem_tail hx), h8⟩
  · exact ⟨h1, h2, h3, by show q.ord.tail.length ≤ _; rw [List.length_tail]; omega, h5, h6, h7, fun x hx => h8 x (List.mem_of_mem_tail hx)⟩
  · exact ⟨by show q.vars.tail.length ≤ _; rw [List.length_tail]; omega, h2, h3, h4, fun x hx => h5 x (List.mem_of_mem_tail hx), h6, h7, h8⟩
theorem right_expr {n : Nat} {q : Qy n} {x : ExT n} (h : rightQ q = true) (hx : x ∈ q.fils) : exprB n x = true :=
  List.all_eq_true.1 (right_parts.1 h).2.2.2.2.1 x hx
theorem expr_le {n : Nat} {x : ExT n} (h : exprB n x = true) : (preE n x).length ≤ 40 := by
  unfold exprB at h; simp only [Bool.and_eq_true, decide_eq_true_eq] at h; exact h.1
theorem pre_pos : ∀ {n : Nat} (x : ExT n), 1 ≤ (preE n x).length
  | 0, x => nomatch (show Empty from x)
  | n + 1, (k, s, t, kids) => by rw [preE]; simp
theorem pre_mem {n : Nat} {y : ExT n} {l : List (ExT n)} (h : y ∈ l) : (preE n y).length ≤ (l.flatMap (preE n)).length ∧ ∀ p ∈ preE n y, p ∈ l.flatMap (preE n) := by
  obtain ⟨a, b, rfl⟩ := List.append_of_mem h
  rw [List.flatMap_append, List.flatMap_cons]
  refine ⟨by simp; omega, fun p hp => by simp [hp]⟩
theorem expr_kid {n : Nat} {k : Int} {s : ByteArray} {t : Tm} {kids : List (ExT n)} {y : ExT n} (h : exprB (n + 1) ((k, s, t, kids) : ExT (n + 1)) = true) (hy : y ∈ kids) : exprB n y = true := by
  have hl := expr_le h
  unfold exprB at h ⊢
  simp only [Bool.and_eq_true, decide_eq_true_eq] at h ⊢
  obtain ⟨h1, h2⟩ := pre_mem hy
  rw [preE, List.length_cons] at hl
  refine ⟨by omega, ?_⟩
  unfold partsB at h ⊢
  rw [List.all_eq_true] at h ⊢
  exact fun p hp => h.2 p (by rw [preE]; exact List.mem_cons_of_mem _ (h2 p hp))
theorem RdQ.spell {n : Nat} {w : World} {p d : Bool} {l o : Int} {s1 s2 s3 s4 : Option Addr} {m1 m2 m3 m4 f1 f2 f3 f4 : Nat} {q : Qy n} (h : RdQ n w [.bool p, .bool d, .slice s1 m1 f1, .slice s2 m2 f2, .slice s3 m3 f3, .slice s4 m4 f4, .int .i64 l, .int .i64 o] q) :
    q.vars.length ≤ f1 ∧ q.pats.length ≤ f2 ∧ q.fils.length ≤ f3 ∧ q.ord.length ≤ f4 ∧ Rd w s1 (q.vars.map Value.string) ∧ RdPat w s2 q.pats ∧ RdEs n w s3 q.fils ∧ RdKey w s4 q.ord := by
  obtain ⟨a1, a2, a3, a4, c1, c2, c3, c4, h0, ⟨o1, o2, o3, o4⟩, r1, r2, r3, r4⟩ := h
  simp only [List.cons.injEq, Value.bool.injEq, Value.slice.injEq, Value.int.injEq, and_true, true_and] at h0
  obtain ⟨-, -, ⟨rfl, -, rfl⟩, ⟨rfl, -, rfl⟩, ⟨rfl, -, rfl⟩, ⟨rfl, -, rfl⟩, -, -⟩ := h0
  exact ⟨o1, o2, o3, o4, r1, r2, r3, r4⟩
/-- A slice from its second on. -/
def subA (sz c : Nat) (s : Option Addr) : Option Addr := if c = 1 then s else s.map fun x => { block := x.block, off := x.off + sz }
theorem Rd.sub {w : World} {s : Option Addr} {xs : List Value} (h : Rd w s xs) (sz : Nat) : Rd w (s.map fun x => { block := x.block, off := x.off + sz }) (xs.drop sz) := by
  rcases h with rfl | ⟨g, o, rfl, hx⟩
  · exact .inl (by simp)
  · refine .inr ⟨g, o + sz, rfl, fun j u hu => ?_⟩
    rw [Nat.add_assoc]
    exact hx (sz + j) u (by simpa using hu)
theorem RdL.sub {α : Type} {sz : Nat} {R : List Value → α → Prop} {w : World} {s : Option Addr} {l : List α} {c : Nat} (h : RdL sz R w s l) (hl : l.length ≤ c) : RdL sz R w (subA sz c s) l.tail ∧ l.tail.length ≤ c - 1 := by
  refine ⟨?_, by rw [List.length_tail]; omega⟩
  unfold subA
  split
  · have : l.tail = [] := List.eq_nil_of_length_eq_zero (by rw [List.length_tail]; omega)
    rw [this]; exact RdL.nil _ _ _ _
  · obtain ⟨xs, hr, ha⟩ := h
    have h2 := ha.drop 1
    rw [Nat.one_mul] at h2
    exact ⟨_, hr.sub sz, by rw [← List.drop_one]; exact h2⟩
theorem Rd.subS {w : World} {s : Option Addr} {l : List ByteArray} {c : Nat} (h : Rd w s (l.map Value.string)) (hl : l.length ≤ c) : Rd w (subA 1 c s) (l.tail.map Value.string) ∧ l.tail.length ≤ c - 1 := by
  refine ⟨?_, by rw [List.length_tail]; omega⟩
  unfold subA
  split
  · have : l.tail = [] := List.eq_nil_of_length_eq_zero (by rw [List.length_tail]; omega)
    rw [this]; exact Rd.nil _ _
  · have := h.sub 1
    rw [← List.map_drop, List.drop_one] at this
    exact this
theorem take_flat_le {α β : Type} {f : α → List β} (l : List α) (j : Nat) : ((l.take j).flatMap f).length ≤ (l.flatMap f).length := by
  conv => rhs; rw [← List.take_append_drop j l]
  rw [List.flatMap_append, List.length_append]; omega
theorem kids_of : ∀ {n : Nat} {w : World} {k1 : Int} {s1 : ByteArray} {t1 : Tm} {A1 : Option Addr} {m1 e1 : Nat} {x : ExT n}, RdE n w [.int .i64 k1, .string s1, .int .i64 t1.k, .string t1.x, .string t1.l, .string t1.y, .slice A1 m1 e1] x → exprB n x = true → szX n x → szE n x →
    ∃ (m : Nat) (kids : List (ExT m)), m1 = kids.length ∧ RdEs m w A1 kids ∧ (preE n x).length = 1 + (kids.flatMap (preE m)).length ∧ kids.length ≤ 1353245080300 ∧ ∀ y ∈ kids, exprB m y = true ∧ szX m y ∧ szE m y
  | 0, _, _, _, _, _, _, _, _, h, _, _, _ => h.elim
  | n + 1, w, k1, s1, t1, A1, m1, e1, (k, s, t, kids), ⟨A, c, h0, hc, hr⟩, hx, hz, he => by
    simp only [List.cons.injEq, Value.slice.injEq, and_true] at h0
    obtain ⟨-, -, -, -, -, -, rfl, rfl, -⟩ := h0
    exact ⟨n, kids, rfl, hr, by rw [preE, List.length_cons]; omega, he.2.2.1, fun y hy => ⟨expr_kid hx hy, hz.2.2.2 y hy, he.2.2.2 y hy⟩⟩
/-- Leaving out the first pattern, filter, key, name. -/
theorem RdQ.lessP {n : Nat} {w : World} {p d : Bool} {l o : Int} {s1 s2 s3 s4 : Option Addr} {m1 m2 m3 m4 f1 f2 f3 f4 : Nat} {q : Qy n} (h : RdQ n w [.bool p, .bool d, .slice s1 m1 f1, .slice s2 m2 f2, .slice s3 m3 f3, .slice s4 m4 f4, .int .i64 l, .int .i64 o] q) :
    RdQ n w [.bool q.ask, .bool q.dist, .slice s1 q.vars.length f1, .slice (subA 15 f2 s2) (q.pats.length - 1) (f2 - 1), .slice s3 q.fils.length f3, .slice s4 q.ord.length f4, .int .i64 q.lim, .int .i64 q.off] { q with pats := q.pats.tail } := by
  obtain ⟨o1, o2, o3, o4, r1, r2, r3, r4⟩ := h.spell
  exact ⟨s1, subA 15 f2 s2, s3, s4, f1, f2 - 1, f3, f4, by simp [List.length_tail], ⟨o1, (RdL.sub r2 o2).2, o3, o4⟩, r1, (RdL.sub r2 o2).1, r3, r4⟩
theorem RdQ.lessF {n : Nat} {w : World} {p d : Bool} {l o : Int} {s1 s2 s3 s4 : Option Addr} {m1 m2 m3 m4 f1 f2 f3 f4 : Nat} {q : Qy n} (h : RdQ n w [.bool p, .bool d, .slice s1 m1 f1, .slice s2 m2 f2, .slice s3 m3 f3, .slice s4 m4 f4, .int .i64 l, .int .i64 o] q) :
    RdQ n w [.bool q.ask, .bool q.dist, .slice s1 q.vars.length f1, .slice s2 q.pats.length f2, .slice (subA 7 f3 s3) (q.fils.length - 1) (f3 - 1), .slice s4 q.ord.length f4, .int .i64 q.lim, .int .i64 q.off] { q with fils := q.fils.tail } := by
  obtain ⟨o1, o2, o3, o4, r1, r2, r3, r4⟩ := h.spell
  exact ⟨s1, s2, subA 7 f3 s3, s4, f1, f2, f3 - 1, f4, by simp [List.length_tail], ⟨o1, o2, (RdL.sub r3 o3).2, o4⟩, r1, r2, (RdL.sub r3 o3).1, r4⟩
theorem RdQ.lessO {n : Nat} {w : World} {p d : Bool} {l o : Int} {s1 s2 s3 s4 : Option Addr} {m1 m2 m3 m4 f1 f2 f3 f4 : Nat} {q : Qy n} (h : RdQ n w [.bool p, .bool d, .slice s1 m1 f1, .slice s2 m2 f2, .slice s3 m3 f3, .slice s4 m4 f4, .int .i64 l, .int .i64 o] q) :
    RdQ n w [.bool q.ask, .bool q.dist, .slice s1 q.vars.length f1, .slice s2 q.pats.length f2, .slice s3 q.fils.length f3, .slice (subA 2 f4 s4) (q.ord.length - 1) (f4 - 1), .int .i64 q.lim, .int .i64 q.off] { q with ord := q.ord.tail } := by
  obtain ⟨o1, o2, o3, o4, r1, r2, r3, r4⟩ := h.spell
  exact ⟨s1, s2, s3, subA 2 f4 s4, f1, f2, f3, f4 - 1, by simp [List.length_tail], ⟨o1, o2, o3, (RdL.sub r4 o4).2⟩, r1, r2, r3, (RdL.sub r4 o4).1⟩
theorem RdQ.lessV {n : Nat} {w : World} {p d : Bool} {l o : Int} {s1 s2 s3 s4 : Option Addr} {m1 m2 m3 m4 f1 f2 f3 f4 : Nat} {q : Qy n} (h : RdQ n w [.bool p, .bool d, .slice s1 m1 f1, .slice s2 m2 f2, .slice s3 m3 f3, .slice s4 m4 f4, .int .i64 l, .int .i64 o] q) :
    RdQ n w [.bool q.ask, .bool q.dist, .slice (subA 1 f1 s1) (q.vars.length - 1) (f1 - 1), .slice s2 q.pats.length f2, .slice s3 q.fils.length f3, .slice s4 q.ord.length f4, .int .i64 q.lim, .int .i64 q.off] { q with vars := q.vars.tail } := by
  obtain ⟨o1, o2, o3, o4, r1, r2, r3, r4⟩ := h.spell
  exact ⟨subA 1 f1 s1, s2, s3, s4, f1 - 1, f2, f3, f4, by simp [List.length_tail], ⟨(Rd.subS r1 o1).2, o2, o3, o4⟩, (Rd.subS r1 o1).1, r2, r3, r4⟩
end Go.Proofs.YtfijpdmkdoccjaaGreatDoor
