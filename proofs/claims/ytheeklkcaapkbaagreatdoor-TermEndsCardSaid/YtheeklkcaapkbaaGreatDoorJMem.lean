/- A region that draws its order, by a plan that may part: where two operations that must stand alone are ready side by side, both ways are walked. Words on memory and lists that all walks use. -/
import Derived.Test.YtheeklkcaapkbaaGreatDoorJRegion2
import Derived.Test.YtheeklkcaapkbaaGreatDoorJClose
import Derived.Lib.QuietBelow
namespace Go.Proofs.YtheeklkcaapkbaaGreatDoor.Rf
open Go Go.Sort Go.RowKit Rg Rh

inductive Pl where
  | done
  | quiet (is : List Nat) (r : Pl)
  | one (i : Nat) (r : Pl)
  | fork (i j : Nat) (ri rj : Pl)
  | fork3 (i j k : Nat) (ri rj rk : Pl)
inductive PlO where
  | done
  | quiet (l : List Oper) (r : PlO)
  | one (o : Oper) (r : PlO)
  | fork (oi oj : Oper) (ri rj : PlO)
  | fork3 (oi oj ok : Oper) (ri rj rk : PlO)
def pickO (ops : Array Oper) (i : Nat) : Oper := (ops[i]?).getD noOper
def Pl.pick (ops : Array Oper) : Pl → PlO
  | .done => .done
  | .quiet is r => .quiet (pickOps ops is) (r.pick ops)
  | .one i r => .one (pickO ops i) (r.pick ops)
  | .fork i j ri rj => .fork (pickO ops i) (pickO ops j) (ri.pick ops) (rj.pick ops)
  | .fork3 i j k ri rj rk => .fork3 (pickO ops i) (pickO ops j) (pickO ops k) (ri.pick ops) (rj.pick ops) (rk.pick ops)
def Pl.len : Pl → Nat
  | .done => 0
  | .quiet is r => is.length + r.len
  | .one _ r => 1 + r.len
  | .fork _ _ ri _ => 1 + ri.len
  | .fork3 _ _ _ ri _ _ => 1 + ri.len

section
variable {P : Program} {ops : Array Oper}

def wpPl (P : Program) (ops : Array Oper) (B : Nat) (Q : Act → World → Prop) : PlO → Act → World → Prop
  | .done, a, w => Q a w
  | .quiet l r, a, w => wpQuiet P ops (ClsB B w) (fun a' => wpPl P ops B Q r a' w) l a
  | .one o r, a, w => wpList P ops (Exit.then (fun a' W' => Below B w W' ∧ wpPl P ops B Q r a' W') Bot) [o] a w
  | .fork oi oj ri rj, a, w => wpList P ops (Exit.then (fun a' W' => Below B w W' ∧ wpPl P ops B Q ri a' W') Bot) [oi] a w ∧
      wpList P ops (Exit.then (fun a' W' => Below B w W' ∧ wpPl P ops B Q rj a' W') Bot) [oj] a w
  | .fork3 oi oj ok ri rj rk, a, w => wpList P ops (Exit.then (fun a' W' => Below B w W' ∧ wpPl P ops B Q ri a' W') Bot) [oi] a w ∧
      wpList P ops (Exit.then (fun a' W' => Below B w W' ∧ wpPl P ops B Q rj a' W') Bot) [oj] a w ∧
      wpList P ops (Exit.then (fun a' W' => Below B w W' ∧ wpPl P ops B Q rk a' W') Bot) [ok] a w
theorem pl_done {B : Nat} {Q : Act → World → Prop} {a : Act} {w : World} (h : Q a w) : wpPl P ops B Q .done a w := h
theorem pl_quiet {B : Nat} {Q : Act → World → Prop} {l : List Oper} {r : PlO} {a : Act} {w : World} (h : wpQuiet P ops (ClsB B w) (fun a' => wpPl P ops B Q r a' w) l a) : wpPl P ops B Q (.quiet l r) a w := h
theorem pl_one {B : Nat} {Q : Act → World → Prop} {o : Oper} {r : PlO} {a : Act} {w : World} (h : wpList P ops (Exit.then (fun a' W' => Below B w W' ∧ wpPl P ops B Q r a' W') Bot) [o] a w) : wpPl P ops B Q (.one o r) a w := h
theorem pl_fork {B : Nat} {Q : Act → World → Prop} {oi oj : Oper} {ri rj : PlO} {a : Act} {w : World} (h : wpList P ops (Exit.then (fun a' W' => Below B w W' ∧ wpPl P ops B Q ri a' W') Bot) [oi] a w)
    (h2 : wpList P ops (Exit.then (fun a' W' => Below B w W' ∧ wpPl P ops B Q rj a' W') Bot) [oj] a w) : wpPl P ops B Q (.fork oi oj ri rj) a w := ⟨h, h2⟩
theorem pl_fork3 {B : Nat} {Q : Act → World → Prop} {oi oj ok : Oper} {ri rj rk : PlO} {a : Act} {w : World} (h : wpList P ops (Exit.then (fun a' W' => Below B w W' ∧ wpPl P ops B Q ri a' W') Bot) [oi] a w)
    (h2 : wpList P ops (Exit.then (fun a' W' => Below B w W' ∧ wpPl P ops B Q rj a' W') Bot) [oj] a w) (h3 : wpList P ops (Exit.then (fun a' W' => Below B w W' ∧ wpPl P ops B Q rk a' W') Bot) [ok] a w) : wpPl P ops B Q (.fork3 oi oj ok ri rj rk) a w := ⟨h, h2, h3⟩

def plB (ops : Array Oper) : Pl → Array Bool → Bool
  | .done, l => (Region.ready .any ops l).isEmpty
  | .quiet is r, l => match quietSeq ops is l with | some l' => plB ops r l' | none => false
  | .one i r, l => (Region.ready .any ops l == [i]) && (ops[i]?).isSome && plB ops r (l.setIfInBounds i true)
  | .fork i j ri rj, l => (Region.ready .any ops l == [i, j]) && (ops[i]?).isSome && (ops[j]?).isSome && plB ops ri (l.setIfInBounds i true) && plB ops rj (l.setIfInBounds j true) && (ri.len == rj.len)
  | .fork3 i j k ri rj rk, l => (Region.ready .any ops l == [i, j, k]) && (ops[i]?).isSome && (ops[j]?).isSome && (ops[k]?).isSome && plB ops ri (l.setIfInBounds i true) && plB ops rj (l.setIfInBounds j true) && plB ops rk (l.setIfInBounds k true) && (ri.len == rj.len) && (ri.len == rk.len)
def plOK (ops : Array Oper) (p : Pl) : Bool := Region.noSelect ops && plB ops p (Array.replicate ops.size false) && (p.len == ops.size)

theorem one_step {B : Nat} {j : Nat} {o : Oper} (ho : ops[j]? = some o) {G X : Act → World → Prop} {a : Act} {w : World}
    (h : wpList P ops (Exit.then (fun a' W' => Below B w W' ∧ G a' W') Bot) [o] a w) (hx : ∀ a' W', Below B w W' → G a' W' → X a' W') : wpOp P ops Bot j X a w := by
  unfold wpOp
  simp only [ho]
  have next : ∀ a' W', wpList P ops (Exit.then (fun a' W' => Below B w W' ∧ G a' W') Bot) [] a' W' → X a' W' := fun a' W' hh => hx a' W' hh.1 hh.2
  simp only [wpList] at h
  split at h
  · rename_i hw
    rw [if_pos hw]
    rcases h with h | h
    · left
      exact upon_exit (fun c a w h => h) (fun h => h) (Oper.wp_mono next h)
    · obtain ⟨_, hl⟩ := h
      obtain ⟨_, _, hf⟩ := hl
      exact hf.elim
  · rename_i hw
    rw [if_neg hw]
    exact next _ _ h

theorem pl_sound {B : Nat} {Q : Act → World → Prop} (hs : Region.noSelect ops = true) : ∀ (p : Pl) (listed : Array Bool) (a : Act) (w : World),
    plB ops p listed = true → wpPl P ops B Q (p.pick ops) a w → AnyB P ops B Q p.len listed a w
  | .done, listed, a, w, hB, h => ⟨by simpa [plB] using hB, h⟩
  | .quiet is r, listed, a, w, hB, h => by
    simp only [plB] at hB
    cases hq : quietSeq ops is listed with
    | none => simp [hq] at hB
    | some l' =>
      simp only [hq] at hB
      simp only [Pl.pick, wpPl] at h
      exact Rh.quiet_sound hs (fun a' ha' => pl_sound hs r l' a' w hB ha') is listed a hq h
  | .one i r, listed, a, w, hB, h => by
    simp only [plB, Bool.and_eq_true, beq_iff_eq] at hB
    obtain ⟨⟨hr, ho⟩, hB⟩ := hB
    obtain ⟨o, ho⟩ := Option.isSome_iff_exists.1 ho
    simp only [Pl.pick, wpPl, pickO, ho, Option.getD_some] at h
    show AnyB P ops B Q (1 + r.len) listed a w
    rw [Nat.add_comm]
    refine ⟨fun h0 => (by rw [hr] at h0; cases h0), fun j hj => ?_⟩
    rw [hr] at hj
    simp only [List.mem_singleton] at hj
    subst hj
    exact one_step ho h fun a' W' hb hg => ⟨hb, pl_sound hs r _ a' W' hB hg⟩
  | .fork i j ri rj, listed, a, w, hB, h => by
    simp only [plB, Bool.and_eq_true, beq_iff_eq] at hB
    obtain ⟨⟨⟨⟨⟨hr, ho⟩, ho2⟩, hB⟩, hB2⟩, hl⟩ := hB
    obtain ⟨o, ho⟩ := Option.isSome_iff_exists.1 ho
    obtain ⟨o2, ho2⟩ := Option.isSome_iff_exists.1 ho2
    simp only [Pl.pick, wpPl, pickO, ho, ho2, Option.getD_some] at h
    show AnyB P ops B Q (1 + ri.len) listed a w
    rw [Nat.add_comm]
    refine ⟨fun h0 => (by rw [hr] at h0; cases h0), fun k hk => ?_⟩
    rw [hr] at hk
    simp only [List.mem_cons, List.not_mem_nil, or_false] at hk
    rcases hk with rfl | rfl
    · exact one_step ho h.1 fun a' W' hb hg => ⟨hb, pl_sound hs ri _ a' W' hB hg⟩
    · exact one_step ho2 h.2 fun a' W' hb hg => ⟨hb, by rw [hl]; exact pl_sound hs rj _ a' W' hB2 hg⟩
  | .fork3 i j k ri rj rk, listed, a, w, hB, h => by
    simp only [plB, Bool.and_eq_true, beq_iff_eq] at hB
    obtain ⟨⟨⟨⟨⟨⟨⟨⟨hr, ho⟩, ho2⟩, ho3⟩, hB⟩, hB2⟩, hB3⟩, hl⟩, hl3⟩ := hB
    obtain ⟨o, ho⟩ := Option.isSome_iff_exists.1 ho
    obtain ⟨o2, ho2⟩ := Option.isSome_iff_exists.1 ho2
    obtain ⟨o3, ho3⟩ := Option.isSome_iff_exists.1 ho3
    simp only [Pl.pick, wpPl, pickO, ho, ho2, ho3, Option.getD_some] at h
    show AnyB P ops B Q (1 + ri.len) listed a w
    rw [Nat.add_comm]
    refine ⟨fun h0 => (by rw [hr] at h0; cases h0), fun m hj => ?_⟩
    rw [hr] at hj
    simp only [List.mem_cons, List.not_mem_nil, or_false] at hj
    rcases hj with rfl | rfl | rfl
    · exact one_step ho h.1 fun a' W' hb hg => ⟨hb, pl_sound hs ri _ a' W' hB hg⟩
    · exact one_step ho2 h.2.1 fun a' W' hb hg => ⟨hb, by rw [hl]; exact pl_sound hs rj _ a' W' hB2 hg⟩
    · exact one_step ho3 h.2.2 fun a' W' hb hg => ⟨hb, by rw [hl3]; exact pl_sound hs rk _ a' W' hB3 hg⟩

/-- **THE REGION BY ITS PLAN**, to a relation R, from which the rest goes on. -/
theorem wp_region_pl (B : Nat) (R : Act → World → Prop) {id : Nat} {Q : Exit → Act → World → Prop} {a : Act} {w : World} {l : List Oper} (p : Pl) (p' : PlO) (hm : P.follows .mixedOrders = true) (hB : plOK l.toArray p = true)
    (hp : p.pick l.toArray = p') (h0 : ∀ wd, Below w.heap.size w wd → wd.heap.size = w.heap.size → wpPl P l.toArray B R p' a wd) (hR : ∀ a w, R a w → Q .normal a w) : (Code.region id l.toArray true).wp P Q a w := by
  subst hp
  unfold plOK at hB
  simp only [Bool.and_eq_true, beq_iff_eq] at hB
  obtain ⟨⟨h1, h2⟩, h3⟩ := hB
  refine wp_region_any hm ?_
  have := pl_sound (P := P) (Q := R) h1 p _ a w.drew h2 (h0 _ (Below.refl _ _).drew rfl)
  rw [h3] at this
  exact AnyB.sound hR _ _ a w.drew this
end
end Go.Proofs.YtheeklkcaapkbaaGreatDoor.Rf
namespace Go.Proofs.YtheeklkcaapkbaaGreatDoor
open Go Go.RowKit

theorem drop_cons_of {α : Type} {l : List α} {k : Nat} {x : α} (h : l[k]? = some x) : l.drop k = x :: l.drop (k + 1) := by
  have hlt : k < l.length := (List.getElem?_eq_some_iff.1 h).1
  rw [List.drop_eq_getElem_cons hlt]
  rw [List.getElem?_eq_getElem hlt] at h
  injection h with h; rw [h]
theorem take_snoc_of {α : Type} {l : List α} {k : Nat} {x : α} (h : l[k]? = some x) : l.take (k + 1) = l.take k ++ [x] := by
  have hlt : k < l.length := (List.getElem?_eq_some_iff.1 h).1
  rw [List.take_succ_eq_append_getElem hlt]
  rw [List.getElem?_eq_getElem hlt] at h
  injection h with h; rw [h]
theorem below_tr {a b c : World} (h : Below a.heap.size a b) (k : Below b.heap.size b c) : Below a.heap.size a c :=
  h.trans (k.mono h.size)
theorem below_alloc {a b : World} {o : Obj} (h : Below a.heap.size a b) : Below a.heap.size a (b.alloc o) := h.alloc h.size o

theorem Rd.later {w w' : World} {A : Option Addr} {xs : List Value} (h : Rd w A xs) (hb : Below w.heap.size w w') : Rd w' A xs := h.below hb (Nat.le_refl _)

theorem cellB {B : Nat} {w : World} {a : Addr} {v : Value} (h : w.cell? a = some v) (hlt : a.block < B) (p : Rh.Later B w) : p.W.cell? a = some v := by rw [p.h.cell hlt]; exact h
theorem cellL {W wd : World} {a : Addr} {v : Value} (h : W.cell? a = some v) (hb : Below W.heap.size W wd) (p : Rh.Later W.heap.size wd) : p.W.cell? a = some v := by
  have := cell_lt h
  rw [p.h.cell this, hb.cell this]; exact h
theorem cell_on {W W1 : World} {a : Addr} {v : Value} (h : W.cell? a = some v) (hb : Below W.heap.size W W1) : W1.cell? a = some v := by rw [hb.cell (cell_lt h)]; exact h
theorem below_reset {B : Nat} {w : World} (h : B ≤ w.heap.size) (X Y : Obj) : Below B (w.alloc X) (w.alloc Y) :=
  ⟨rfl, rfl, rfl, by simp, fun k hk => by rw [Below.heap_alloc _ _ _ (by omega), Below.heap_alloc _ _ _ (by omega)]⟩
theorem below_set4 {B b : Nat} {w : World} (h : B ≤ b) (v0 v1 v2 v3 : Value) : Below B w ((((w.setCell ⟨b, 0, none⟩ v0).setCell ⟨b, 1, none⟩ v1).setCell ⟨b, 2, none⟩ v2).setCell ⟨b, 3, none⟩ v3) :=
  ((((Below.refl B w).setCell (p := ⟨b, 0, none⟩) h _).setCell (p := ⟨b, 1, none⟩) h _).setCell (p := ⟨b, 2, none⟩) h _).setCell (p := ⟨b, 3, none⟩) h _
/-- A slice of numbers of the call's own, as it lies. -/
def OwnI (w : World) (base : Nat) (ty : TypeId) (v : Value) (l : List Int) : Prop := w.ownsRow base ty 1 v l.length (l.map (Value.int .i64))
theorem ints1 (l : List Int) : ∀ u ∈ l.map (Value.int .i64), u.oneCell' = true := ints_oneCell _ l

theorem own_open {w : World} {base : Nat} {ty : TypeId} {v : Value} {l : List Int} (h : OwnI w base ty v l) : ∃ A c, v = .slice A l.length c ∧ l.length ≤ c ∧ Rd w A (l.map (Value.int .i64)) := by
  obtain ⟨h1, h2⟩ := h
  rcases h2 with ⟨rfl, hx⟩ | ⟨g, cap, cur, rfl, hg, hh, hnc, hr⟩
  · have : l = [] := by simpa using hx
    subst this
    exact ⟨none, 0, rfl, by simp, Rd.nil _ _⟩
  · exact ⟨_, cap, rfl, hnc, Rd.of_own ⟨h1, .inr ⟨g, cap, cur, rfl, hg, hh, hnc, hr⟩⟩⟩

theorem own_openN {w : World} {base : Nat} {ty : TypeId} {v : Value} {l : List Int} {n : Nat} (h : OwnI w base ty v l) (hn : l.length = n) : ∃ A c, v = .slice A n c ∧ n ≤ c ∧ Rd w A (l.map (Value.int .i64)) := by
  subst hn; exact own_open h
/-- A slice that was just built, of the call's own. -/
theorem own_new {w : World} {base : Nat} {e : TypeId} {size n : Nat} {cs : Array Value} {xs : List Value} (hb : base ≤ w.heap.size) (hx : cs.toList = xs) (hn : xs.length = n * size) (hm : n ≤ 1000000) :
    (w.alloc (.cells cs e)).ownsRow base e size (.slice (some ⟨w.heap.size, 0, none⟩) n n) n xs := by
  subst hx
  refine ⟨hn, .inr ⟨w.heap.size, n, cs, rfl, hb, heap_alloc_new w _, Nat.le_refl _, by simp [maxLen]; omega, by simpa using hn, ?_⟩⟩
  rw [List.take_of_length_le (by omega)]
theorem own_slice {w : World} {base : Nat} {e : TypeId} {size n : Nat} {v : Value} {xs : List Value} (h : w.ownsRow base e size v n xs) : ∃ A c, v = .slice A n c ∧ n ≤ c ∧ Rd w A xs := by
  obtain ⟨h1, h2⟩ := h
  rcases h2 with ⟨rfl, hx⟩ | ⟨g, cap, cur, rfl, hg, hh, hnc, hr⟩
  · subst hx
    have h0 : xs = [] := by simpa using h1
    subst h0
    exact ⟨none, 0, rfl, Nat.le_refl _, Rd.nil _ _⟩
  · exact ⟨_, cap, rfl, hnc, Rd.of_own ⟨h1, .inr ⟨g, cap, cur, rfl, hg, hh, hnc, hr⟩⟩⟩
end Go.Proofs.YtheeklkcaapkbaaGreatDoor
