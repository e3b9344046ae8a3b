/- The program's package query, walked: part. The program's package query, walked: Expr. The program's package query, walked: every (printed by gen/every.py). The program's package query, walked: every at conditions. The program's package query, walked: Right. The program's package query, walked: Right, the third guard. The program's package query, walked: Right, behind its guards; whole. The program's package query, walked: Right, whole. -/
import Derived.Test.YtfijpdmkdoccjaaGreatDoorJQPart
import Derived.Test.YtfijpdmkdoccjaaGreatDoorJQSize0
import Derived.RangeFuncNested
namespace Go.Proofs.YtfijpdmkdoccjaaGreatDoor
open Go Go.RowKit Go.Maps Go.ChangeMaps Go.Shelf Um Fm

/-- Texts of a condition are short enough. -/
def szX : (n : Nat) → ExT n → Prop
  | 0, _ => True
  | n + 1, (_, s, t, kids) => s.size ≤ 281474976710656 ∧ szT t ∧ kids.length ≤ 1353245080300 ∧ ∀ x ∈ kids, szX n x
end Go.Proofs.YtfijpdmkdoccjaaGreatDoor
namespace Go.Proofs.YtfijpdmkdoccjaaGreatDoor
open Go Go.RowKit Go.Maps Go.ChangeMaps Go.Shelf Um Fm
attribute [local go_sem] Oper.semAt_some

/-- A condition is right: no more than 40 parts, each as it must be. -/
def partsB (l : List Pt) : Bool := l.all fun p => partB p.1 p.2
theorem partsB_nil : partsB [] = true := rfl
theorem partsB_app (l m : List Pt) : partsB (l ++ m) = (partsB l && partsB m) := List.all_append
theorem partsB_one (n : Nat) (x : ExT n) : partsB [⟨n, x⟩] = partB n x := by simp [partsB]
def exprB (n : Nat) (x : ExT n) : Bool := decide ((preE n x).length ≤ 40) && partsB (preE n x)
theorem keeps_of_below {B : Nat} {W W' : World} (h : Below W.heap.size W W') : KeepsFrom B W W' :=
  ⟨h.size, fun k o _ hk _ => by rw [h.block k (Array.getElem?_eq_some_iff.1 hk).1]; exact hk⟩
/-- What lies between two rounds of Expr. -/
structure ExprI (w : World) (bn r : Nat) (k : Nat) (W : World) : Prop where
  n : W.cell? ⟨bn, 0, none⟩ = some (.int .i64 k)
  fn : W.frozen? ⟨bn, 0, none⟩ = false
  res : (W.cell? ⟨w.heap.size + 1, 0, none⟩).isSome = true
  fres : W.frozen? ⟨w.heap.size + 1, 0, none⟩ = false
  all : W.cell? ⟨bn + 1, 0, none⟩ = some (.map (some r))
  m : MapOf W .i64 r rulesL
  below : Below w.heap.size w W
theorem exprI_own {w : World} {bn r k : Nat} {S : Nat} (hrS : r < S) (_hbn : bn < S) {A B : World} {row : Option Nat} (h : ExprI w bn r k A) (hg : A.grownBy B row) (hr : ∀ q, row = some q → S ≤ q ∧ ∃ o : Obj, A.heap[q]? = some o ∧ o.isCells = false) (hwS : w.heap.size ≤ S := by omega) : ExprI w bn r k B := by
  have hr2 : ∀ q, row = some q → ∃ o : Obj, A.heap[q]? = some o ∧ o.isCells = false := fun q e => (hr q e).2
  obtain ⟨v, hv⟩ := Option.isSome_iff_exists.1 h.res
  refine ⟨cell_kept h.n hg hr2, (frozen_kept h.n hg hr2).trans h.fn, by rw [cell_kept hv hg hr2]; rfl, (frozen_kept hv hg hr2).trans h.fres, cell_kept h.all hg hr2, ?_, h.below.grown hg h.below.size fun q e => by have := (hr q e).1; omega⟩
  obtain ⟨es, cl, h1, h2⟩ := h.m
  refine ⟨es, cl, ?_, h2⟩
  rw [hg.block r (Array.getElem?_eq_some_iff.1 h1).1 (fun e => by have := (hr r e.symm).1; omega)]; exact h1
theorem exprI_later {w : World} {bn r k : Nat} {A B : World} (h : ExprI w bn r k A) (hb : Below A.heap.size A B) : ExprI w bn r k B := by
  obtain ⟨v, hv⟩ := Option.isSome_iff_exists.1 h.res
  exact ⟨cell_on h.n hb, by rw [hb.frozen (cell_lt h.n)]; exact h.fn, by rw [cell_on hv hb]; rfl, by rw [hb.frozen (cell_lt hv)]; exact h.fres, cell_on h.all hb, h.m.later hb, below_tr h.below hb⟩
theorem exprI_set {w : World} {bn r k : Nat} {W : World} (h : ExprI w bn r k W) (h1 : w.heap.size + 1 < bn) (h2 : r ≠ bn) : ExprI w bn r (k + 1) (W.setCell ⟨bn, 0, none⟩ (.int .i64 ((k : Int) + 1))) := by
  have hne : ∀ j, j ≠ bn → (W.setCell ⟨bn, 0, none⟩ (.int .i64 ((k : Int) + 1))).heap[j]? = W.heap[j]? := fun j hj => Below.heap_setCell _ _ _ j hj
  refine ⟨by rw [World.cell?_setCell_same' _ _ _ (by rw [h.n]; rfl)]; simp, by rw [World.frozen?_setCell]; exact h.fn, ?_, by rw [World.frozen?_setCell]; exact h.fres, ?_, ?_, h.below.setCell (p := ⟨bn, 0, none⟩) (by simp; omega) _⟩
  · rw [World.cell?, hne _ (by simp; omega)]; exact h.res
  · rw [World.cell?, hne _ (by simp)]; exact h.all
  · obtain ⟨es, cl, h1, h2'⟩ := h.m
    exact ⟨es, cl, by rw [hne _ h2]; exact h1, h2'⟩
theorem Kb.grown {h : Nat → Obj → Bool} {S : Nat} {w A B : World} {row : Option Nat} (k : Kb h S w A) (hg : A.grownBy B row) (hr : ∀ q, row = some q → S ≤ q ∧ ∃ o : Obj, A.heap[q]? = some o ∧ o.isCells = false) (_hwA : S ≤ w.heap.size := by exact Nat.le_refl _) : Kb h S w B := by
  refine k.trans (.of_blocks (fun i o ho _ hor => ?_) hg.size)
  rw [hg.block i (Array.getElem?_eq_some_iff.1 ho).1 ?_]; exact ho
  intro e
  obtain ⟨h1, q, hq, hc⟩ := hr i e.symm
  rcases hor with h2 | h2
  · rw [ho] at hq; cases hq; rw [hc] at h2; cases h2
  · omega
end Go.Proofs.YtfijpdmkdoccjaaGreatDoor
namespace Go.Proofs.YtfijpdmkdoccjaaGreatDoor
open Go Go.RowKit Go.Shelf Um Fm
attribute [local go_sem] Oper.semAt_some

/-- A key: a name, and whether downwards. -/
structure Ky where
  v : ByteArray
  d : Bool
/-- A function says so of a value. -/
def FnS (F : FuncId) (caps : Array Value) (V : Value) (b : Bool) (w : World) : Prop :=
  ∀ W : World, Below w.heap.size w W → Calls Tryz.prog F (#[V] ++ caps) W fun e w' => e = .returned (.bool b) ∧ Below W.heap.size W w'
theorem FnS.later {F : FuncId} {caps : Array Value} {V : Value} {b : Bool} {w w' : World} (h : FnS F caps V b w) (hb : Below w.heap.size w w') : FnS F caps V b w' := fun W hW => h W (below_tr hb hW)
theorem any_not {α : Type} (l : List α) (p : α → Bool) : (!l.any fun x => !p x) = l.all p := by
  induction l with
  | nil => rfl
  | cons a l ih => rw [List.any_cons, List.all_cons, ← ih]; cases p a <;> simp

def cPat (y : Pat) : List Value := [.string y.s.v, .int .i64 y.s.t.k, .string y.s.t.x, .string y.s.t.l, .string y.s.t.y, .string y.p.v, .int .i64 y.p.t.k, .string y.p.t.x, .string y.p.t.l, .string y.p.t.y, .string y.o.v, .int .i64 y.o.t.k, .string y.o.t.x, .string y.o.t.l, .string y.o.t.y]
def vPat (y : Pat) : Value := .agg #[.string y.s.v, .int .i64 y.s.t.k, .string y.s.t.x, .string y.s.t.l, .string y.s.t.y, .string y.p.v, .int .i64 y.p.t.k, .string y.p.t.x, .string y.p.t.l, .string y.p.t.y, .string y.o.v, .int .i64 y.o.t.k, .string y.o.t.x, .string y.o.t.l, .string y.o.t.y]
abbrev RdPat (w : World) (A : Option Addr) (l : List Pat) : Prop := RdL 15 (fun cs y => cs = cPat y) w A l
def cStr (y : ByteArray) : List Value := [.string y]
def vStr (y : ByteArray) : Value := .string y
abbrev RdStr (w : World) (A : Option Addr) (l : List ByteArray) : Prop := RdL 1 (fun cs y => cs = cStr y) w A l
def cKey (y : Ky) : List Value := [.string y.v, .bool y.d]
def vKey (y : Ky) : Value := .agg #[.string y.v, .bool y.d]
abbrev RdKey (w : World) (A : Option Addr) (l : List Ky) : Prop := RdL 2 (fun cs y => cs = cKey y) w A l
end Go.Proofs.YtfijpdmkdoccjaaGreatDoor
namespace Go.Proofs.YtfijpdmkdoccjaaGreatDoor
open Go Go.RowKit Go.Shelf Um Fm
attribute [local go_sem] Oper.semAt_some

def numB (n : Int) : Bool := decide (0 ≤ n ∧ n ≤ 1099511627776)
end Go.Proofs.YtfijpdmkdoccjaaGreatDoor
namespace Go.Proofs.YtfijpdmkdoccjaaGreatDoor
open Go Go.RowKit Go.Shelf Um Fm
attribute [local go_sem] Oper.semAt_some

/-- A query: ask, distinct, names, patterns, filters, keys, limit, offset. -/
structure Qy (n : Nat) where
  ask : Bool
  dist : Bool
  vars : List ByteArray
  pats : List Pat
  fils : List (ExT n)
  ord : List Ky
  lim : Int
  off : Int
def fitQ (np nf nv nk : Nat) : Bool := decide (np ≤ 6 ∧ nf ≤ 6 ∧ nv ≤ 12 ∧ nk ≤ 4)
def numsQ (lim off : Int) : Bool := numB off && (decide (lim = -1) || numB lim)
def askQ (ask dist : Bool) (nv nk : Nat) (lim off : Int) : Bool := !(ask && (dist || decide ((nv : Int) + nk + off > 0) || decide (lim ≠ -1)))
def rightQ {n : Nat} (q : Qy n) : Bool :=
  fitQ q.pats.length q.fils.length q.vars.length q.ord.length && numsQ q.lim q.off && askQ q.ask q.dist q.vars.length q.ord.length q.lim q.off &&
    (q.pats.all patB && q.fils.all (exprB n) && q.vars.all nameB && q.ord.all fun y => nameB y.v)
end Go.Proofs.YtfijpdmkdoccjaaGreatDoor
namespace Go.Proofs.YtfijpdmkdoccjaaGreatDoor
open Go Go.RowKit Go.Shelf Um Fm
attribute [local go_sem] Oper.semAt_some
end Go.Proofs.YtfijpdmkdoccjaaGreatDoor
namespace Go.Proofs.YtfijpdmkdoccjaaGreatDoor
open Go Go.RowKit Go.Shelf Um Fm
attribute [local go_sem] Oper.semAt_some
/-- Four tests in turn. -/
def and4 (a b c d : Bool) : Bool := a && b && c && d
end Go.Proofs.YtfijpdmkdoccjaaGreatDoor
namespace Go.Proofs.YtfijpdmkdoccjaaGreatDoor
open Go Go.RowKit Go.Shelf Um Fm
/-- A query, as it lies. -/
def RdQ (n : Nat) (w : World) (cs : List Value) (q : Qy n) : Prop := ∃ (a1 a2 a3 a4 : Option Addr) (c1 c2 c3 c4 : Nat),
  cs = [.bool q.ask, .bool q.dist, .slice a1 q.vars.length c1, .slice a2 q.pats.length c2, .slice a3 q.fils.length c3, .slice a4 q.ord.length c4, .int .i64 q.lim, .int .i64 q.off] ∧
  (q.vars.length ≤ c1 ∧ q.pats.length ≤ c2 ∧ q.fils.length ≤ c3 ∧ q.ord.length ≤ c4) ∧ Rd w a1 (q.vars.map Value.string) ∧ RdPat w a2 q.pats ∧ RdEs n w a3 q.fils ∧ RdKey w a4 q.ord
/-- A query's lists and texts are no longer than memory may hold. -/
def szQ {n : Nat} (q : Qy n) : Prop := q.vars.length ≤ 281474976710656 ∧ q.pats.length ≤ 281474976710656 ∧ q.fils.length ≤ 1353245080300 ∧ q.ord.length ≤ 281474976710656 ∧ (∀ x ∈ q.vars, x.size ≤ 281474976710656) ∧ (∀ x ∈ q.pats, szP x) ∧ (∀ x ∈ q.fils, szX n x) ∧ ∀ x ∈ q.ord, x.v.size ≤ 281474976710656
theorem RdStr_of {w : World} {A : Option Addr} {l : List ByteArray} (h : Rd w A (l.map Value.string)) : RdStr w A l := by
  refine ⟨_, h, ?_⟩
  clear h
  induction l with
  | nil => rfl
  | cons a r ih => exact ⟨[.string a], _, rfl, rfl, rfl, ih⟩
end Go.Proofs.YtfijpdmkdoccjaaGreatDoor
