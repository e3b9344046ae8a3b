/- Layer 22's law, walked: how great queries are. Queries whose texts, lists are small. The program's package filter, walked: what terms are, their numbers. -/
import Derived.Test.YtfijpdmkdoccjaaGreatDoorJQRight4
import Derived.Test.YtfijpdmkdoccjaaGreatDoorJClose2b
import Derived.Test.YtfijpdmkdoccjaaGreatDoorJFilMath
import Derived.Test.YtfijpdmkdoccjaaGreatDoorJTms
import Derived.Shelf.Strings.SlTrimAscii
import Derived.Lib.QuietBelow
namespace Go.Proofs.YtfijpdmkdoccjaaGreatDoor
open Go Go.RowKit Fm

def SomeZ (P : Bool → Prop) (w : World) (e : Ending) (w' : World) : Prop := ∃ b, e = .returned (.bool b) ∧ P b ∧ Below w.heap.size w w'
def Part22 (n : Nat) (x : ExT n) (deep : Int) (w : World) (e : Ending) (w' : World) : Prop := ∃ r : Int, e = .returned (.int .i64 r) ∧ 1 ≤ r ∧ r ≤ (62 - deep) * 401 ∧ (r ≤ 400 → ((preE n x).length : Int) ≤ r) ∧ Below w.heap.size w w'
def PartL (n : Nat) (kids : List (ExT n)) (deep : Int) (W : World) (nv i : Value) (wr : World) : Prop :=
  ∃ (j : Nat) (r : Int), j ≤ kids.length ∧ i = .int .i64 j ∧ nv = .int .i64 r ∧ 1 ≤ r ∧ r ≤ (62 - deep) * 401 ∧ (r ≤ 400 → 1 + (((kids.take j).flatMap (preE n)).length : Int) ≤ r) ∧ Below W.heap.size W wr
/-- How many things a query has, its conditions' parts besides. -/
def cntQ {n : Nat} (q : Qy n) : Nat := q.vars.length + q.pats.length + q.ord.length + q.fils.length
def allQ {n : Nat} (q : Qy n) : Nat := cntQ q + (q.fils.flatMap (preE n)).length
abbrev RdQs (n : Nat) (w : World) (A : Option Addr) (l : List (Qy n)) : Prop := RdL 8 (RdQ n w) w A l
theorem RdQ.later {n : Nat} {w w' : World} {cs : List Value} {q : Qy n} (h : RdQ n w cs q) (hb : Below w.heap.size w w') : RdQ n w' cs q := by
  obtain ⟨a1, a2, a3, a4, c1, c2, c3, c4, h0, hc, h1, h2, h3, h4⟩ := h
  exact ⟨a1, a2, a3, a4, c1, c2, c3, c4, h0, hc, h1.later hb, RdL.mono h2 hb (fun _ _ _ h => h), RdEs.later h3 hb, RdL.mono h4 hb (fun _ _ _ h => h)⟩
theorem RdQs.later {n : Nat} {w w' : World} {A : Option Addr} {l : List (Qy n)} (h : RdQs n w A l) (hb : Below w.heap.size w w') : RdQs n w' A l := RdL.mono h hb fun _ _ _ h => h.later hb
/-- A query's lists are no longer than memory may hold. -/
def szL {n : Nat} (q : Qy n) : Prop := q.vars.length ≤ 281474976710656 ∧ q.pats.length ≤ 281474976710656 ∧ q.fils.length ≤ 1353245080300 ∧ q.ord.length ≤ 281474976710656 ∧ ∀ x ∈ q.fils, szE n x
def Great0 {n : Nat} (qs : List (Qy n)) (w : World) (nv i : Value) (wr : World) : Prop :=
  ∃ (j : Nat) (r : Int), j ≤ qs.length ∧ i = .int .i64 j ∧ nv = .int .i64 r ∧ 0 ≤ r ∧ r ≤ 3000000000000000 * ((j : Int) + 1) ∧ (r ≤ 400 → (((qs.take j).map allQ).sum : Int) ≤ r) ∧ Below w.heap.size w wr
def Great1 {n : Nat} (qs : List (Qy n)) (q : Qy n) (j : Nat) (W : World) (nv i : Value) (wr : World) : Prop :=
  ∃ (k : Nat) (r : Int), k ≤ q.fils.length ∧ i = .int .i64 k ∧ nv = .int .i64 r ∧ 0 ≤ r ∧ r ≤ 3000000000000000 * ((j : Int) + 1) + 2900000000000000 ∧ (r ≤ 400 → (((qs.take j).map allQ).sum : Int) + cntQ q + ((q.fils.take k).flatMap (preE n)).length ≤ r) ∧ Below W.heap.size W wr
theorem sum_take {n : Nat} {qs : List (Qy n)} {j : Nat} {q : Qy n} (h : qs[j]? = some q) : ((qs.take (j + 1)).map allQ).sum = ((qs.take j).map allQ).sum + allQ q := by
  rw [take_snoc_of h, List.map_append, List.sum_append]; simp
def GreatP {n : Nat} (qs : List (Qy n)) (b : Bool) : Prop := b = false → (qs.map allQ).sum ≤ 400
end Go.Proofs.YtfijpdmkdoccjaaGreatDoor
namespace Go.Proofs.YtfijpdmkdoccjaaGreatDoor
open Go Go.RowKit Fm
/-- Texts, lists are small. -/
def szTu (t : Tm) : Prop := t.x.size ≤ 1048576 ∧ t.l.size ≤ 1048576 ∧ t.y.size ≤ 1048576
def szU : (n : Nat) → ExT n → Prop
  | 0, _ => True
  | n + 1, (_, s, t, kids) => s.size ≤ 1048576 ∧ szTu t ∧ kids.length ≤ 1048576 ∧ ∀ x ∈ kids, szU n x
def szSu (s : Sl) : Prop := s.v.size ≤ 1048576 ∧ szTu s.t
def szPu (p : Pat) : Prop := szSu p.s ∧ szSu p.p ∧ szSu p.o
def szQu {n : Nat} (q : Qy n) : Prop := q.vars.length ≤ 1048576 ∧ q.pats.length ≤ 1048576 ∧ q.fils.length ≤ 1048576 ∧ q.ord.length ≤ 1048576 ∧ (∀ x ∈ q.vars, x.size ≤ 1048576) ∧ (∀ x ∈ q.pats, szPu x) ∧ (∀ x ∈ q.fils, szU n x) ∧ ∀ x ∈ q.ord, x.v.size ≤ 1048576
theorem szTu.t {t : Tm} (h : szTu t) : szT t := ⟨Nat.le_trans h.1 (by decide), Nat.le_trans h.2.1 (by decide), Nat.le_trans h.2.2 (by decide)⟩
theorem szSu.s {s : Sl} (h : szSu s) : szS s := ⟨Nat.le_trans h.1 (by decide), h.2.t⟩
theorem szPu.p {p : Pat} (h : szPu p) : szP p := ⟨h.1.s, h.2.1.s, h.2.2.s⟩
theorem szU.x : ∀ {n : Nat} {e : ExT n}, szU n e → szX n e
  | 0, _, _ => trivial
  | _ + 1, (_, _, _, _), ⟨h1, h2, h3, h4⟩ => ⟨Nat.le_trans h1 (by decide), h2.t, Nat.le_trans h3 (by decide), fun y hy => (h4 y hy).x⟩
theorem szU.e : ∀ {n : Nat} {e : ExT n}, szU n e → szE n e
  | 0, _, _ => trivial
  | _ + 1, (_, _, _, _), ⟨h1, h2, h3, h4⟩ => ⟨Nat.le_trans h1 (by decide), Nat.le_trans h2.1 (by decide), Nat.le_trans h3 (by decide), fun y hy => (h4 y hy).e⟩
theorem szQu.q {n : Nat} {q : Qy n} (h : szQu q) : szQ q :=
  ⟨Nat.le_trans h.1 (by decide), Nat.le_trans h.2.1 (by decide), Nat.le_trans h.2.2.1 (by decide), Nat.le_trans h.2.2.2.1 (by decide), fun x hx => Nat.le_trans (h.2.2.2.2.1 x hx) (by decide),
    fun x hx => (h.2.2.2.2.2.1 x hx).p, fun x hx => (h.2.2.2.2.2.2.1 x hx).x, fun x hx => Nat.le_trans (h.2.2.2.2.2.2.2 x hx) (by decide)⟩
theorem szQu.l {n : Nat} {q : Qy n} (h : szQu q) : szL q :=
  ⟨Nat.le_trans h.1 (by decide), Nat.le_trans h.2.1 (by decide), Nat.le_trans h.2.2.1 (by decide), Nat.le_trans h.2.2.2.1 (by decide), fun x hx => (h.2.2.2.2.2.2.1 x hx).e⟩
end Go.Proofs.YtfijpdmkdoccjaaGreatDoor
namespace Go.Proofs.YtfijpdmkdoccjaaGreatDoor
open Go Go.RowKit Fm

theorem truthInfo : (Tryz.prog.info? 42).map (fun i => (i.zero, i.size, i.bytes)) = some (some (.int .i64 0), 1, 8) := by kernel_rfl
theorem filTold (q : Bool) (w : World) :
    Calls Tryz.prog 44 #[.bool q] w fun e w' => e = .returned (.int .i64 (toldI q)) ∧ w = w' := by
  cases q <;> (go_enter Tryz.func44, Tryz.ntmps44; go_wp2; go_ret; exact ⟨rfl, rfl⟩)
theorem filWeight (q : Bool) (w : World) :
    Calls Tryz.prog 77 #[.bool q] w fun e w' => e = .returned (.int .i64 (wt q)) ∧ w = w' := by
  cases q <;> (go_enter Tryz.func77, Tryz.ntmps77; go_wp2; go_ret; exact ⟨rfl, rfl⟩)
theorem filNot (t : Int) (w : World) :
    Calls Tryz.prog 15 #[.int .i64 t] w fun e w' => e = .returned (.int .i64 (notI t)) ∧ w = w' := by
  go_enter Tryz.func15, Tryz.ntmps15
  go_wp2
  all_goals (go_ret; exact ⟨by simp_all [notI], rfl⟩)
theorem filTyped (k : Int) (x l y ty : ByteArray) (w : World) :
    Calls Tryz.prog 39 #[.agg #[.int .i64 k, .string x, .string l, .string y], .string ty] w fun e w' => e = .returned (.bool (typedB ⟨k, x, l, y⟩ ty)) ∧ Below w.heap.size w w' := by
  go_enter Tryz.func39, Tryz.ntmps39
  go_wp2
  all_goals (go_ret; exact ⟨by simp_all [typedB], (by repeat (first | exact Below.refl _ _ | assumption | exact (Below.refl _ _).alloc (Nat.le_refl _) _ | refine below_tr ?_ (by assumption) | refine below_alloc ?_ | refine below_tr ?_ (below_regrown _ _ _)))⟩)
theorem filLiteral (k : Int) (x l y : ByteArray) (w : World) :
    Calls Tryz.prog 48 #[.agg #[.int .i64 k, .string x, .string l, .string y]] w fun e w' => e = .returned (.bool (litB ⟨k, x, l, y⟩)) ∧ Below w.heap.size w w' := by
  go_enter Tryz.func48, Tryz.ntmps48
  go_wp2
  all_goals (go_ret; exact ⟨by simp_all [litB], (by repeat (first | exact Below.refl _ _ | assumption | exact (Below.refl _ _).alloc (Nat.le_refl _) _ | refine below_tr ?_ (by assumption) | refine below_alloc ?_ | refine below_tr ?_ (below_regrown _ _ _)))⟩)
theorem filPlain (k : Int) (x l y : ByteArray) (w : World) :
    Calls Tryz.prog 78 #[.agg #[.int .i64 k, .string x, .string l, .string y]] w fun e w' => e = .returned (.bool (plainB ⟨k, x, l, y⟩)) ∧ Below w.heap.size w w' := by
  go_enter Tryz.func78, Tryz.ntmps78
  go_wp2
  all_goals (go_ret; exact ⟨by simp_all [plainB], (by repeat (first | exact Below.refl _ _ | assumption | exact (Below.refl _ _).alloc (Nat.le_refl _) _ | refine below_tr ?_ (by assumption) | refine below_alloc ?_ | refine below_tr ?_ (below_regrown _ _ _)))⟩)

theorem nanS (s : ByteArray) (w : World) : Calls Tryz.prog 98 #[.string s] w fun e w' => e = .returned (.bool false) ∧ w = w' := by
  go_enter Tryz.func98, Tryz.ntmps98
  go_wp2
  all_goals (go_ret; exact ⟨by simp, rfl⟩)
theorem cmpStr (x y : ByteArray) (w : World) :
    Calls Tryz.prog 76 #[.string x, .string y] w fun e w' => e = .returned (.int .i64 (cmpS x.toList y.toList)) ∧ w = w' := by
  go_enter Tryz.func76, Tryz.ntmps76
  go_wp2_with ((refine (nanS _ _).mono ?_); (rintro e w1 ⟨rfl, rfl⟩))
  all_goals (go_ret; exact ⟨by simp_all [cmpS], rfl⟩)

theorem toList_mk (l : List UInt8) : (⟨l.toArray⟩ : ByteArray).toList = l := by simp [ByteArray.toList_eq]

theorem grown_box {w : World} {cs : Array Value} {ty : TypeId} (j : Nat) (v : Value) (h : cs[j]? = some v) (d : Nat) (os : Array Obj) :
    (Sort.grow (redrawn (w.alloc (.cells cs ty)) d) os).cell? ⟨w.heap.size, j, none⟩ = some v := by
  refine cell_regrown ?_ d os
  rw [World.cell?, heap_alloc_new]
  exact h
set_option maxHeartbeats 1000000 in
theorem filSays (k : Int) (x l y : ByteArray) (w : World) :
    Calls Tryz.prog 43 #[.agg #[.int .i64 k, .string x, .string l, .string y]] w fun e w' => e = .returned (.tuple #[.bool (yesB ⟨k, x, l, y⟩), .bool (boolB ⟨k, x, l, y⟩)]) ∧ Below w.heap.size w w' := by
  have ht := fun W => filTyped k x l y booleanS W
  have hy : yesB ⟨k, x, l, y⟩ = (x.toList == [116, 114, 117, 101] || x.toList == [49]) := rfl
  have hb : boolB ⟨k, x, l, y⟩ = (typedB ⟨k, x, l, y⟩ booleanS && (yesB ⟨k, x, l, y⟩ || x.toList == [102, 97, 108, 115, 101] || x.toList == [48])) := rfl
  rw [hb, hy]
  clear hb hy
  generalize typedB ⟨k, x, l, y⟩ booleanS = q at ht ⊢
  unfold booleanS at ht
  have g0 := fun d os => grown_box (w := w) (cs := #[.int .i64 k, .string x, .string l, .string y]) (ty := 28) 0 _ rfl d os
  have g1 := fun d os => grown_box (w := w) (cs := #[.int .i64 k, .string x, .string l, .string y]) (ty := 28) 1 _ rfl d os
  have g2 := fun d os => grown_box (w := w) (cs := #[.int .i64 k, .string x, .string l, .string y]) (ty := 28) 2 _ rfl d os
  have g3 := fun d os => grown_box (w := w) (cs := #[.int .i64 k, .string x, .string l, .string y]) (ty := 28) 3 _ rfl d os
  go_enter Tryz.func43, Tryz.ntmps43
  cases h1 : (x.toList == [116, 114, 117, 101])
  · cases h2 : (x.toList == [49])
    · cases q
      · go_wp2
        refine wp_region_quiet_below (by kernel_rfl) (by kernel_rfl) ?_; (repeat (any_goals (go_big_quiet_step ((go_at_call 39; exact Calls.regrown_of (ht _)))))); all_goals (refine wpQuiet_nil ?_; intro _ hw9; obtain ⟨⟨d9, os9⟩, hw8⟩ := hw9; subst hw8)
        go_wp2
        go_ret2
        exact ⟨by simp, (by repeat (first | exact Below.refl _ _ | assumption | exact (Below.refl _ _).alloc (Nat.le_refl _) _ | refine below_tr ?_ (by assumption) | refine below_alloc ?_ | refine below_tr ?_ (below_regrown _ _ _)))⟩
      · cases h3 : (x.toList == [102, 97, 108, 115, 101])
        · go_wp2
          refine wp_region_quiet_below (by kernel_rfl) (by kernel_rfl) ?_; (repeat (any_goals (go_big_quiet_step ((go_at_call 39; exact Calls.regrown_of (ht _)))))); all_goals (refine wpQuiet_nil ?_; intro _ hw9; obtain ⟨⟨d9, os9⟩, hw8⟩ := hw9; subst hw8)
          go_wp2
          go_ret2
          exact ⟨by simp, (by repeat (first | exact Below.refl _ _ | assumption | exact (Below.refl _ _).alloc (Nat.le_refl _) _ | refine below_tr ?_ (by assumption) | refine below_alloc ?_ | refine below_tr ?_ (below_regrown _ _ _)))⟩
        · go_wp2
          refine wp_region_quiet_below (by kernel_rfl) (by kernel_rfl) ?_; (repeat (any_goals (go_big_quiet_step ((go_at_call 39; exact Calls.regrown_of (ht _)))))); all_goals (refine wpQuiet_nil ?_; intro _ hw9; obtain ⟨⟨d9, os9⟩, hw8⟩ := hw9; subst hw8)
          go_wp2
          go_ret2
          exact ⟨by simp, (by repeat (first | exact Below.refl _ _ | assumption | exact (Below.refl _ _).alloc (Nat.le_refl _) _ | refine below_tr ?_ (by assumption) | refine below_alloc ?_ | refine below_tr ?_ (below_regrown _ _ _)))⟩
    · cases q
      all_goals
        go_wp2
        refine wp_region_quiet_below (by kernel_rfl) (by kernel_rfl) ?_; (repeat (any_goals (go_big_quiet_step ((go_at_call 39; exact Calls.regrown_of (ht _)))))); all_goals (refine wpQuiet_nil ?_; intro _ hw9; obtain ⟨⟨d9, os9⟩, hw8⟩ := hw9; subst hw8)
        go_wp2
        go_ret2
        exact ⟨by simp, (by repeat (first | exact Below.refl _ _ | assumption | exact (Below.refl _ _).alloc (Nat.le_refl _) _ | refine below_tr ?_ (by assumption) | refine below_alloc ?_ | refine below_tr ?_ (below_regrown _ _ _)))⟩
  · cases q
    all_goals
      go_wp2
      refine wp_region_quiet_below (by kernel_rfl) (by kernel_rfl) ?_; (repeat (any_goals (go_big_quiet_step ((go_at_call 39; exact Calls.regrown_of (ht _)))))); all_goals (refine wpQuiet_nil ?_; intro _ hw9; obtain ⟨⟨d9, os9⟩, hw8⟩ := hw9; subst hw8)
      go_wp2
      go_ret2
      exact ⟨by simp, (by repeat (first | exact Below.refl _ _ | assumption | exact (Below.refl _ _).alloc (Nat.le_refl _) _ | refine below_tr ?_ (by assumption) | refine below_alloc ?_ | refine below_tr ?_ (below_regrown _ _ _)))⟩
end Go.Proofs.YtfijpdmkdoccjaaGreatDoor
