/- A region that draws its order, by a plan that may part: where two operations that must stand alone are ready side by side, both ways are walked. Words on memory and lists that all walks use. Terms in memory. The program's package query, walked: met.meet: names, each once, behind a pointer. -/
import Derived.Test.YtefjhehgpkljcaaGreatDoorJRegion2
import Derived.Test.YtefjhehgpkljcaaGreatDoorJMetMath
import Derived.Lib.QuietBelow
import Derived.Test.YtefjhehgpkljcaaGreatDoorJExprMath
import Derived.Maps.AppendAt
import Derived.RangeFuncBox
namespace Go.Proofs.YtefjhehgpkljcaaGreatDoor.Rf
open Go Go.Sort Go.RowKit Rg Rh

inductive Pl where
  | done
  | quiet (is : List Nat) (r : Pl)
  | one (i : Nat) (r : Pl)
  | fork (i j : Nat) (ri rj : Pl)
inductive PlO where
  | done
  | quiet (l : List Oper) (r : PlO)
  | one (o : Oper) (r : PlO)
  | fork (oi oj : Oper) (ri rj : PlO)
def pickO (ops : Array Oper) (i : Nat) : Oper := (ops[i]?).getD noOper
def Pl.pick (ops : Array Oper) : Pl → PlO
  | .done => .done
  | .quiet is r => .quiet (pickOps ops is) (r.pick ops)
  | .one i r => .one (pickO ops i) (r.pick ops)
  | .fork i j ri rj => .fork (pickO ops i) (pickO ops j) (ri.pick ops) (rj.pick ops)
def Pl.len : Pl → Nat
  | .done => 0
  | .quiet is r => is.length + r.len
  | .one _ r => 1 + r.len
  | .fork _ _ ri _ => 1 + ri.len

section
variable {P : Program} {ops : Array Oper}

def wpPl (P : Program) (ops : Array Oper) (B : Nat) (Q : Act → World → Prop) : PlO → Act → World → Prop
  | .done, a, w => Q a w
  | .quiet l r, a, w => wpQuiet P ops (ClsB B w) (fun a' => wpPl P ops B Q r a' w) l a
  | .one o r, a, w => wpList P ops (Exit.then (fun a' W' => Below B w W' ∧ wpPl P ops B Q r a' W') Bot) [o] a w
  | .fork oi oj ri rj, a, w => wpList P ops (Exit.then (fun a' W' => Below B w W' ∧ wpPl P ops B Q ri a' W') Bot) [oi] a w ∧
      wpList P ops (Exit.then (fun a' W' => Below B w W' ∧ wpPl P ops B Q rj a' W') Bot) [oj] a w
theorem pl_done {B : Nat} {Q : Act → World → Prop} {a : Act} {w : World} (h : Q a w) : wpPl P ops B Q .done a w := h
theorem pl_quiet {B : Nat} {Q : Act → World → Prop} {l : List Oper} {r : PlO} {a : Act} {w : World} (h : wpQuiet P ops (ClsB B w) (fun a' => wpPl P ops B Q r a' w) l a) : wpPl P ops B Q (.quiet l r) a w := h
theorem pl_one {B : Nat} {Q : Act → World → Prop} {o : Oper} {r : PlO} {a : Act} {w : World} (h : wpList P ops (Exit.then (fun a' W' => Below B w W' ∧ wpPl P ops B Q r a' W') Bot) [o] a w) : wpPl P ops B Q (.one o r) a w := h
theorem pl_fork {B : Nat} {Q : Act → World → Prop} {oi oj : Oper} {ri rj : PlO} {a : Act} {w : World} (h : wpList P ops (Exit.then (fun a' W' => Below B w W' ∧ wpPl P ops B Q ri a' W') Bot) [oi] a w)
    (h2 : wpList P ops (Exit.then (fun a' W' => Below B w W' ∧ wpPl P ops B Q rj a' W') Bot) [oj] a w) : wpPl P ops B Q (.fork oi oj ri rj) a w := ⟨h, h2⟩

def plB (ops : Array Oper) : Pl → Array Bool → Bool
  | .done, l => (Region.ready .any ops l).isEmpty
  | .quiet is r, l => match quietSeq ops is l with | some l' => plB ops r l' | none => false
  | .one i r, l => (Region.ready .any ops l == [i]) && (ops[i]?).isSome && plB ops r (l.setIfInBounds i true)
  | .fork i j ri rj, l => (Region.ready .any ops l == [i, j]) && (ops[i]?).isSome && (ops[j]?).isSome && plB ops ri (l.setIfInBounds i true) && plB ops rj (l.setIfInBounds j true) && (ri.len == rj.len)
def plOK (ops : Array Oper) (p : Pl) : Bool := Region.noSelect ops && plB ops p (Array.replicate ops.size false) && (p.len == ops.size)

theorem one_step {B : Nat} {j : Nat} {o : Oper} (ho : ops[j]? = some o) {G X : Act → World → Prop} {a : Act} {w : World}
    (h : wpList P ops (Exit.then (fun a' W' => Below B w W' ∧ G a' W') Bot) [o] a w) (hx : ∀ a' W', Below B w W' → G a' W' → X a' W') : wpOp P ops Bot j X a w := by
  unfold wpOp
  simp only [ho]
  have next : ∀ a' W', wpList P ops (Exit.then (fun a' W' => Below B w W' ∧ G a' W') Bot) [] a' W' → X a' W' := fun a' W' hh => hx a' W' hh.1 hh.2
  simp only [wpList] at h
  split at h
  · rename_i hw
    rw [if_pos hw]
    rcases h with h | h
    · left
      exact upon_exit (fun c a w h => h) (fun h => h) (Oper.wp_mono next h)
    · obtain ⟨_, hl⟩ := h
      obtain ⟨_, _, hf⟩ := hl
      exact hf.elim
  · rename_i hw
    rw [if_neg hw]
    exact next _ _ h

theorem pl_sound {B : Nat} {Q : Act → World → Prop} (hs : Region.noSelect ops = true) : ∀ (p : Pl) (listed : Array Bool) (a : Act) (w : World),
    plB ops p listed = true → wpPl P ops B Q (p.pick ops) a w → AnyB P ops B Q p.len listed a w
  | .done, listed, a, w, hB, h => ⟨by simpa [plB] using hB, h⟩
  | .quiet is r, listed, a, w, hB, h => by
    simp only [plB] at hB
    cases hq : quietSeq ops is listed with
    | none => simp [hq] at hB
    | some l' =>
      simp only [hq] at hB
      simp only [Pl.pick, wpPl] at h
      exact Rh.quiet_sound hs (fun a' ha' => pl_sound hs r l' a' w hB ha') is listed a hq h
  | .one i r, listed, a, w, hB, h => by
    simp only [plB, Bool.and_eq_true, beq_iff_eq] at hB
    obtain ⟨⟨hr, ho⟩, hB⟩ := hB
    obtain ⟨o, ho⟩ := Option.isSome_iff_exists.1 ho
    simp only [Pl.pick, wpPl, pickO, ho, Option.getD_some] at h
    show AnyB P ops B Q (1 + r.len) listed a w
    rw [Nat.add_comm]
    refine ⟨fun h0 => (by rw [hr] at h0; cases h0), fun j hj => ?_⟩
    rw [hr] at hj
    simp only [List.mem_singleton] at hj
    subst hj
    exact one_step ho h fun a' W' hb hg => ⟨hb, pl_sound hs r _ a' W' hB hg⟩
  | .fork i j ri rj, listed, a, w, hB, h => by
    simp only [plB, Bool.and_eq_true, beq_iff_eq] at hB
    obtain ⟨⟨⟨⟨⟨hr, ho⟩, ho2⟩, hB⟩, hB2⟩, hl⟩ := hB
    obtain ⟨o, ho⟩ := Option.isSome_iff_exists.1 ho
    obtain ⟨o2, ho2⟩ := Option.isSome_iff_exists.1 ho2
    simp only [Pl.pick, wpPl, pickO, ho, ho2, Option.getD_some] at h
    show AnyB P ops B Q (1 + ri.len) listed a w
    rw [Nat.add_comm]
    refine ⟨fun h0 => (by rw [hr] at h0; cases h0), fun k hk => ?_⟩
    rw [hr] at hk
    simp only [List.mem_cons, List.not_mem_nil, or_false] at hk
    rcases hk with rfl | rfl
    · exact one_step ho h.1 fun a' W' hb hg => ⟨hb, pl_sound hs ri _ a' W' hB hg⟩
    · exact one_step ho2 h.2 fun a' W' hb hg => ⟨hb, by rw [hl]; exact pl_sound hs rj _ a' W' hB2 hg⟩

/-- **THE REGION BY ITS PLAN**, to a relation R, from which the rest goes on. -/
theorem wp_region_pl (B : Nat) (R : Act → World → Prop) {id : Nat} {Q : Exit → Act → World → Prop} {a : Act} {w : World} {l : List Oper} (p : Pl) (p' : PlO) (hm : P.follows .mixedOrders = true) (hB : plOK l.toArray p = true)
    (hp : p.pick l.toArray = p') (h0 : ∀ wd, Below w.heap.size w wd → wd.heap.size = w.heap.size → wpPl P l.toArray B R p' a wd) (hR : ∀ a w, R a w → Q .normal a w) : (Code.region id l.toArray true).wp P Q a w := by
  subst hp
  unfold plOK at hB
  simp only [Bool.and_eq_true, beq_iff_eq] at hB
  obtain ⟨⟨h1, h2⟩, h3⟩ := hB
  refine wp_region_any hm ?_
  have := pl_sound (P := P) (Q := R) h1 p _ a w.drew h2 (h0 _ (Below.refl _ _).drew rfl)
  rw [h3] at this
  exact AnyB.sound hR _ _ a w.drew this
end
end Go.Proofs.YtefjhehgpkljcaaGreatDoor.Rf
namespace Go.Proofs.YtefjhehgpkljcaaGreatDoor
open Go Go.RowKit

theorem drop_cons_of {α : Type} {l : List α} {k : Nat} {x : α} (h : l[k]? = some x) : l.drop k = x :: l.drop (k + 1) := by
  have hlt : k < l.length := (List.getElem?_eq_some_iff.1 h).1
  rw [List.drop_eq_getElem_cons hlt]
  rw [List.getElem?_eq_getElem hlt] at h
  injection h with h; rw [h]
theorem take_snoc_of {α : Type} {l : List α} {k : Nat} {x : α} (h : l[k]? = some x) : l.take (k + 1) = l.take k ++ [x] := by
  have hlt : k < l.length := (List.getElem?_eq_some_iff.1 h).1
  rw [List.take_succ_eq_append_getElem hlt]
  rw [List.getElem?_eq_getElem hlt] at h
  injection h with h; rw [h]
theorem below_tr {a b c : World} (h : Below a.heap.size a b) (k : Below b.heap.size b c) : Below a.heap.size a c :=
  h.trans (k.mono h.size)
theorem below_alloc {a b : World} {o : Obj} (h : Below a.heap.size a b) : Below a.heap.size a (b.alloc o) := h.alloc h.size o

theorem Rd.later {w w' : World} {A : Option Addr} {xs : List Value} (h : Rd w A xs) (hb : Below w.heap.size w w') : Rd w' A xs := h.below hb (Nat.le_refl _)

theorem cellB {B : Nat} {w : World} {a : Addr} {v : Value} (h : w.cell? a = some v) (hlt : a.block < B) (p : Rh.Later B w) : p.W.cell? a = some v := by rw [p.h.cell hlt]; exact h
theorem cellL {W wd : World} {a : Addr} {v : Value} (h : W.cell? a = some v) (hb : Below W.heap.size W wd) (p : Rh.Later W.heap.size wd) : p.W.cell? a = some v := by
  have := cell_lt h
  rw [p.h.cell this, hb.cell this]; exact h
theorem cell_on {W W1 : World} {a : Addr} {v : Value} (h : W.cell? a = some v) (hb : Below W.heap.size W W1) : W1.cell? a = some v := by rw [hb.cell (cell_lt h)]; exact h
theorem below_reset {B : Nat} {w : World} (h : B ≤ w.heap.size) (X Y : Obj) : Below B (w.alloc X) (w.alloc Y) :=
  ⟨rfl, rfl, rfl, by simp, fun k hk => by rw [Below.heap_alloc _ _ _ (by omega), Below.heap_alloc _ _ _ (by omega)]⟩
theorem below_set4 {B b : Nat} {w : World} (h : B ≤ b) (v0 v1 v2 v3 : Value) : Below B w ((((w.setCell ⟨b, 0, none⟩ v0).setCell ⟨b, 1, none⟩ v1).setCell ⟨b, 2, none⟩ v2).setCell ⟨b, 3, none⟩ v3) :=
  ((((Below.refl B w).setCell (p := ⟨b, 0, none⟩) h _).setCell (p := ⟨b, 1, none⟩) h _).setCell (p := ⟨b, 2, none⟩) h _).setCell (p := ⟨b, 3, none⟩) h _
/-- A slice of numbers of the call's own, as it lies. -/
def OwnI (w : World) (base : Nat) (ty : TypeId) (v : Value) (l : List Int) : Prop := w.ownsRow base ty 1 v l.length (l.map (Value.int .i64))
theorem ints1 (l : List Int) : ∀ u ∈ l.map (Value.int .i64), u.oneCell' = true := ints_oneCell _ l

theorem own_open {w : World} {base : Nat} {ty : TypeId} {v : Value} {l : List Int} (h : OwnI w base ty v l) : ∃ A c, v = .slice A l.length c ∧ l.length ≤ c ∧ Rd w A (l.map (Value.int .i64)) := by
  obtain ⟨h1, h2⟩ := h
  rcases h2 with ⟨rfl, hx⟩ | ⟨g, cap, cur, rfl, hg, hh, hnc, hr⟩
  · have : l = [] := by simpa using hx
    subst this
    exact ⟨none, 0, rfl, by simp, Rd.nil _ _⟩
  · exact ⟨_, cap, rfl, hnc, Rd.of_own ⟨h1, .inr ⟨g, cap, cur, rfl, hg, hh, hnc, hr⟩⟩⟩

theorem own_openN {w : World} {base : Nat} {ty : TypeId} {v : Value} {l : List Int} {n : Nat} (h : OwnI w base ty v l) (hn : l.length = n) : ∃ A c, v = .slice A n c ∧ n ≤ c ∧ Rd w A (l.map (Value.int .i64)) := by
  subst hn; exact own_open h
/-- A slice that was just built, of the call's own. -/
theorem own_new {w : World} {base : Nat} {e : TypeId} {size n : Nat} {cs : Array Value} {xs : List Value} (hb : base ≤ w.heap.size) (hx : cs.toList = xs) (hn : xs.length = n * size) (hm : n ≤ 1000000) :
    (w.alloc (.cells cs e)).ownsRow base e size (.slice (some ⟨w.heap.size, 0, none⟩) n n) n xs := by
  subst hx
  refine ⟨hn, .inr ⟨w.heap.size, n, cs, rfl, hb, heap_alloc_new w _, Nat.le_refl _, by simp [maxLen]; omega, by simpa using hn, ?_⟩⟩
  rw [List.take_of_length_le (by omega)]
theorem own_slice {w : World} {base : Nat} {e : TypeId} {size n : Nat} {v : Value} {xs : List Value} (h : w.ownsRow base e size v n xs) : ∃ A c, v = .slice A n c ∧ n ≤ c ∧ Rd w A xs := by
  obtain ⟨h1, h2⟩ := h
  rcases h2 with ⟨rfl, hx⟩ | ⟨g, cap, cur, rfl, hg, hh, hnc, hr⟩
  · subst hx
    have h0 : xs = [] := by simpa using h1
    subst h0
    exact ⟨none, 0, rfl, Nat.le_refl _, Rd.nil _ _⟩
  · exact ⟨_, cap, rfl, hnc, Rd.of_own ⟨h1, .inr ⟨g, cap, cur, rfl, hg, hh, hnc, hr⟩⟩⟩
end Go.Proofs.YtefjhehgpkljcaaGreatDoor
namespace Go.Proofs.YtefjhehgpkljcaaGreatDoor
open Go Go.RowKit Fm

def zTm : Tm := ⟨0, ⟨#[]⟩, ⟨#[]⟩, ⟨#[]⟩⟩
def tmC (t : Tm) : List Value := [.int .i64 t.k, .string t.x, .string t.l, .string t.y]
def tmV (t : Tm) : Value := .agg #[.int .i64 t.k, .string t.x, .string t.l, .string t.y]
def optV (o : Option Tm) : Value := .tuple #[tmV (o.getD zTm), .bool o.isSome]
abbrev RdTs (w : World) (A : Option Addr) (l : List Tm) : Prop := RdL 4 (fun cs t => cs = tmC t) w A l
theorem RdTs.at4 {w : World} {A : Option Addr} {l : List Tm} (h : RdTs w A l) {j : Nat} {t : Tm} (he : l[j]? = some t) :
    ∃ g o, A = some ⟨g, o, none⟩ ∧ w.cell? ⟨g, o + j * 4, none⟩ = some (.int .i64 t.k) ∧ w.cell? ⟨g, o + j * 4 + 1, none⟩ = some (.string t.x) ∧
      w.cell? ⟨g, o + j * 4 + 2, none⟩ = some (.string t.l) ∧ w.cell? ⟨g, o + j * 4 + 3, none⟩ = some (.string t.y) := by
  obtain ⟨g, o, cs, hA, _, hcs, hx⟩ := RdL.at_ h (by omega) he
  subst hcs
  exact ⟨g, o, hA, hx 0 _ rfl, hx 1 _ rfl, hx 2 _ rfl, hx 3 _ rfl⟩
theorem RdTs.later {w w' : World} {A : Option Addr} {l : List Tm} (h : RdTs w A l) (hb : Below w.heap.size w w') : RdTs w' A l := h.mono hb fun _ _ _ h => h
theorem idxOfS_lt (l : List ByteArray) (x : ByteArray) : -1 ≤ Lib.idxOfS l x ∧ Lib.idxOfS l x < l.length := by
  have key : ∀ (l : List ByteArray) (i : Nat), -1 ≤ Lib.idxFromS l x i ∧ Lib.idxFromS l x i < i + l.length ∨ l = [] ∧ Lib.idxFromS l x i = -1 := by
    intro l
    induction l with
    | nil => intro i; exact .inr ⟨rfl, rfl⟩
    | cons z zs ih =>
      intro i
      unfold Lib.idxFromS
      split
      · left; simp; omega
      · rcases ih (i + 1) with h | ⟨h1, h2⟩
        · left; simp; omega
        · left; rw [h2]; simp; omega
  rcases key l 0 with h | ⟨h1, h2⟩
  · unfold Lib.idxOfS; omega
  · unfold Lib.idxOfS; rw [h2, h1]; simp
end Go.Proofs.YtefjhehgpkljcaaGreatDoor
namespace Go.Proofs.YtefjhehgpkljcaaGreatDoor
open Go Go.RowKit Mt

theorem stringInfo' : (Tryz.prog.info? 9).map (fun i => (i.zero, i.size, i.bytes)) = some (some (.string ⟨#[]⟩), 1, 16) := by kernel_rfl
/-- slices.Contains over texts. -/
theorem hasTxt (l : List ByteArray) (x : ByteArray) (A : Option Addr) (c : Nat) (w : World) (hl : l.length ≤ 281474976710656) (hr : Rd w A (l.map Value.string)) :
    Calls Tryz.prog 186 #[.slice A l.length c, .string x] w fun e w' => e = .returned (.bool (hasS l x)) ∧ w = w' := by
  have hI := idxTxt l x A c w hl hr
  unfold hasS
  generalize Lib.idxOfS l x = i at *
  clear hr hl
  go_enter Tryz.func186, Tryz.ntmps186
  go_wp2_with (refine hI.mono ?_; rintro e w' ⟨rfl, rfl⟩)
  go_ret
  exact ⟨rfl, rfl⟩

/-- Names met, behind a pointer to block b: v, of the call's own. -/
structure MetAt (base b : Nat) (w : World) (v : Value) (l : List ByteArray) : Prop where
  cell : w.cell? ⟨b, 0, none⟩ = some v
  fr : w.frozen? ⟨b, 0, none⟩ = false
  own : w.ownsRow base 9 1 v l.length (l.map Value.string)
  lo : base ≤ b
  ne : v.ownBlock ≠ some b
/-- What meeting keeps. -/
structure MetKeeps (base b : Nat) (w : World) (v : Value) (w' : World) (v' : Value) : Prop where
  below : Below base w w'
  keep : ∀ k, k < w.heap.size → k ≠ b → some k ≠ v.ownBlock → w'.heap[k]? = w.heap[k]?
  size : w.heap.size ≤ w'.heap.size
  blk : v'.ownBlock = v.ownBlock ∨ ∀ k, v'.ownBlock = some k → w.heap.size ≤ k
theorem MetKeeps.refl (base b : Nat) (w : World) (v : Value) : MetKeeps base b w v w v := ⟨Below.refl _ _, fun _ _ _ _ => rfl, Nat.le_refl _, .inl rfl⟩
theorem MetKeeps.trans {base b : Nat} {w w1 w2 : World} {v v1 v2 : Value} (h : MetKeeps base b w v w1 v1) (k : MetKeeps base b w1 v1 w2 v2) : MetKeeps base b w v w2 v2 := by
  refine ⟨h.below.trans k.below, fun j hj hjb hjv => ?_, Nat.le_trans h.size k.size, ?_⟩
  · rw [k.keep j (Nat.lt_of_lt_of_le hj h.size) hjb ?_, h.keep j hj hjb hjv]
    rcases h.blk with e | e
    · rw [e]; exact hjv
    · intro e2
      have := e j e2.symm
      omega
  · rcases k.blk with e | e
    · rw [e]; exact h.blk
    · exact .inr fun j hj => Nat.le_trans h.size (e j hj)
theorem MetKeeps.of_below {base b : Nat} {w w' : World} (v : Value) (h : Below w.heap.size w w') (hb : base ≤ w.heap.size) : MetKeeps base b w v w' v :=
  ⟨h.mono hb, fun k hk _ _ => h.block k hk, h.size, .inl rfl⟩
theorem MetKeeps.cell {base b : Nat} {w w' : World} {v v' : Value} (h : MetKeeps base b w v w' v') {p : Addr} {u : Value} (hc : w.cell? p = some u) (h1 : p.block ≠ b) (h2 : some p.block ≠ v.ownBlock) : w'.cell? p = some u := by
  rw [World.cell?, h.keep _ (cell_lt hc) h1 h2]; exact hc
theorem MetKeeps.rd {base b : Nat} {w w' : World} {v v' : Value} (h : MetKeeps base b w v w' v') {A : Option Addr} {xs : List Value} (hr : Rd w A xs) (hA : ∀ a, A = some a → a.block ≠ b ∧ some a.block ≠ v.ownBlock) : Rd w' A xs := by
  rcases hr with h0 | ⟨g, o, rfl, hx⟩
  · exact .inl h0
  · obtain ⟨h1, h2⟩ := hA _ rfl
    exact .inr ⟨g, o, rfl, fun j u hu => h.cell (hx j u hu) h1 h2⟩
theorem MetAt.later {base b : Nat} {w w' : World} {v : Value} {l : List ByteArray} (h : MetAt base b w v l) (hb : Below w.heap.size w w') : MetAt base b w' v l :=
  ⟨cell_on h.cell hb, by rw [hb.frozen (cell_lt h.cell)]; exact h.fr, own_below h.own hb (Nat.le_refl _), h.lo, h.ne⟩
theorem MetAt.open_ {base b : Nat} {w : World} {v : Value} {l : List ByteArray} (h : MetAt base b w v l) : ∃ A c, v = .slice A l.length c ∧ l.length ≤ c ∧ Rd w A (l.map Value.string) ∧ w.cell? ⟨b, 0, none⟩ = some (.slice A l.length c) := by
  obtain ⟨A, c, rfl, hc, hr⟩ := own_slice h.own
  exact ⟨A, c, rfl, hc, hr, h.cell⟩
/-- What comes of meeting names. -/
def MeetR (base b : Nat) (v : Value) (l : List ByteArray) (w : World) (e : Ending) (w' : World) : Prop := (∃ u, e = .returned u) ∧ ∃ v', MetAt base b w' v' l ∧ MetKeeps base b w v w' v'
def MeetL (base b : Nat) (v : Value) (l names : List ByteArray) (w : World) (i : Value) (wr : World) : Prop := ∃ (k : Nat) (v' : Value), k ≤ names.length ∧ i = .int .i64 k ∧ MetAt base b wr v' (metsN l (names.take k)) ∧ MetKeeps base b w v wr v'
set_option maxRecDepth 10000 in
set_option maxHeartbeats 1000000 in
theorem qMeet (base b : Nat) (v : Value) (l names : List ByteArray) (A : Option Addr) (c : Nat) (w : World) (hm : MetAt base b w v l) (hr : Rd w A (names.map Value.string)) (hA : ∀ a, A = some a → a.block ≠ b ∧ some a.block ≠ v.ownBlock)
    (hbase : base ≤ w.heap.size) (hl : l.length + names.length ≤ 1000000) :
    Calls Tryz.prog 157 #[.pointer (some ⟨b, 0, none⟩), .slice A names.length c] w (MeetR base b v (metsN l names) w) := by
  have hnl : (names.length : Int) ≤ 1000000 := by omega
  go_enter Tryz.func157, Tryz.ntmps157
  go_wp2
  go_loopw [8] (MeetL base b v l names w) (fun i _ => names.length - (intOf i).toNat)
  case atStart => exact ⟨0, v, by omega, rfl, hm, MetKeeps.refl _ _ _ _⟩
  case round =>
    obtain ⟨k, v', hk, rfl, hM, hK⟩ := hrel
    by_cases hlt : k < names.length
    · obtain ⟨s, hs⟩ : ∃ x, names[k]? = some x := ⟨_, List.getElem?_eq_getElem hlt⟩
      obtain ⟨g, o, rfl, c0⟩ := (hK.rd hr hA).at_ (j := k) (u := .string s) (by simp [hs])
      obtain ⟨A1, c1, rfl, hc1, hr1, hv1⟩ := hM.open_
      have hfr := hM.fr
      have hlen : (metsN l (names.take k)).length ≤ 1000000 := by
        have := metsN_len (names.take k) l
        rw [List.length_take] at this; omega
      have hH := hasTxt (metsN l (names.take k)) s A1 c1 wr (by omega) hr1
      have Hs : Hid (metsN l (names.take (k + 1)) = metN (metsN l (names.take k)) s) := by
        show _ = _
        rw [take_snoc_of hs, metsN_app]; rfl
      have hbw : b < wr.heap.size := cell_lt hv1
      have hbs : base ≤ wr.heap.size := Nat.le_trans hbase hK.size
      have hlen2 : (metN (metsN l (names.take k)) s).length ≤ 1000000 + 1 := Nat.le_trans (metN_len _ _) (by omega)
      have Hlen2 := Lib.hid hlen2
      generalize metsN l (names.take k) = m at *
      cases hq : hasS m s
      · rw [hq] at hH
        have hmn := metN_new hq
        have Hmn := Lib.hid hmn
        have HM := Lib.hid hM
        have HK := Lib.hid hK
        have hba : Below wr.heap.size wr (wr.alloc (.cells #[.string s] 9)) := (by repeat (first | exact Below.refl _ _ | assumption | exact (Below.refl _ _).alloc (Nat.le_refl _) _ | refine below_tr ?_ (by assumption) | refine below_alloc ?_ | refine below_tr ?_ (below_regrown _ _ _)))
        have own0 := own_below hM.own hba (Nat.le_refl _)
        have hbne := hM.ne
        have own0' := Lib.hid hM.own.lt
        have hnew : ∀ (j : Nat) (u : Value), [Value.string s][j]? = some u → (wr.alloc (.cells #[.string s] 9)).cell? ((⟨wr.heap.size, 0, none⟩ : Addr).add j) = some u := by
          intro j u hu
          rw [add_zero_spot, Nat.zero_add, World.cell?, heap_alloc_new]
          simpa using hu
        obtain ⟨i, hi, hz, hsize, hby⟩ := info_parts stringInfo'
        clear hs hr hA hr1 hq hmn hlen2 hM hK hm
        go_wp2_with (first
          | (go_at_call 186; refine hH.mono ?_; rintro e w2 ⟨rfl, rfl⟩)
          | (at_builtin; (refine wpList_append_own_at _ rfl _ _ 24 rfl base 9 i _ 1 16 Tryz.underlying24 hi hz hsize hby rfl (by omega) _ m.length (m.map Value.string) rfl own0 ⟨wr.heap.size, 0, none⟩ 1 1 [.string s] rfl rfl hnew (by intro u hu; simp at hu; subst hu; rfl) (by unfold maxLen; omega) (by omega) (by simp; omega) ?_; intro v4 w4 own4 hg4 _ hbk4; obtain ⟨A4, c4, rfl, _, _⟩ := own_slice own4; have d0 := (hg4.cell_far ⟨b, 0, none⟩ (by simp; omega) (fun e => hbne e.symm)).trans ((hba.cell (p := ⟨b, 0, none⟩) hbw).trans hv1); have d1 := (hg4.frozen_far ⟨b, 0, none⟩ (by simp; omega) (fun e => hbne e.symm)).trans ((hba.frozen (p := ⟨b, 0, none⟩) hbw).trans hfr))))
        go_roundw
        case rel =>
          have hM' := HM.out
          have hz4 := hg4.size
          have hblk : (Value.slice A4 (m.length + 1) c4).ownBlock = (Value.slice A1 m.length c1).ownBlock ∨ ∀ k, (Value.slice A4 (m.length + 1) c4).ownBlock = some k → wr.heap.size ≤ k := by
            rcases hbk4 with e | e
            · exact .inl e
            · exact .inr fun k hk => by rw [e] at hk; injection hk with hk; simp at hk; omega
          have hne4 : (Value.slice A4 (m.length + 1) c4).ownBlock ≠ some b := by
            rcases hblk with e | e
            · rw [e]; exact hbne
            · intro e2; have := e b e2; omega
          have hgs := grownBy_setCell' w4 b (.slice A4 (m.length + 1) c4)
          have own5 := own4.kept hgs (.inr hne4)
          refine ⟨k + 1, .slice A4 (m.length + 1) c4, by omega, by go_num, ⟨World.cell?_setCell_same' _ _ _ (by rw [d0]; rfl), by rw [World.frozen?_setCell]; exact d1, ?_, hM'.lo, hne4⟩, HK.out.trans ⟨?_, ?_, ?_, ?_⟩⟩
          · rw [Hs.out, Hmn.out, List.length_append, List.map_append]; exact own5
          · refine Below.setCell ?_ (p := ⟨b, 0, none⟩) hM'.lo _
            exact Below.grown ((Below.refl _ _).alloc hbs _) hg4 (by simp; omega) fun q e => (own0'.out q e).1
          · intro q hq hqb hqv
            rw [hgs.block q (by simp at hz4; omega) (fun e => hqb (by injection e)), hg4.block q (by simp; omega) hqv, Below.heap_alloc _ _ _ hq]
          · simp at hz4
            have := hgs.size
            omega
          · rcases hblk with e | e
            · exact .inl e
            · exact .inr fun q hq => e q hq
        case measure => simp [intOf]; omega
      · rw [hq] at hH
        have hmn := metN_has hq
        rw [hmn] at Hs
        have HM := Lib.hid hM
        have HK := Lib.hid hK
        clear hs hr hA hr1 hq hmn hM hK hm
        go_wp2_with (go_at_call 186; refine hH.mono ?_; rintro e w2 ⟨rfl, rfl⟩)
        go_roundw
        case rel => exact ⟨k + 1, _, by omega, by go_num, by rw [Hs.out]; exact HM.out, HK.out⟩
        case measure => simp [intOf]; omega
    · have hk2 : names.take k = names := List.take_of_length_le (by omega)
      rw [hk2] at hM
      go_wp2
      go_end0
      exact ⟨⟨_, rfl⟩, v', hM, hK⟩
end Go.Proofs.YtefjhehgpkljcaaGreatDoor
