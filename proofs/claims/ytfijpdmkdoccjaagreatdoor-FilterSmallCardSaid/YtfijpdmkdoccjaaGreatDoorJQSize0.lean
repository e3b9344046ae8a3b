/- The program's package term, walked: Right. The program's package query, walked: Name, told, Slot, pattern. The program's package query, walked: Slot, pattern. The program's package query, walked: parts, an iterator that calls itself. The program's package query, walked: parts, within a fence. -/
import Derived.Test.YtfijpdmkdoccjaaGreatDoorJUtfProg5
import Derived.Test.YtfijpdmkdoccjaaGreatDoorJTms
import Derived.Test.YtfijpdmkdoccjaaGreatDoorShelf2
import Derived.Test.YtfijpdmkdoccjaaGreatDoorJUtfMath2
import Derived.Test.YtfijpdmkdoccjaaGreatDoorJMapA
import Derived.Lib.ValidU
import Derived.RangeFuncNested
import Derived.RangeFuncBound
import Derived.RangeFuncCalls
import Derived.RangeFuncLeaves
import Derived.Shelf.Abstract
import Derived.Shelf.RegionOpen
import Derived.OwnWalkIn
import Derived.TacticsInMore
import Derived.LoopNIn
import Derived.LoopIn
import Derived.RangeFuncFrom
namespace Go.Proofs.YtfijpdmkdoccjaaGreatDoor
open Go Go.RowKit Um Fm

/-- A sign's small one. -/
def lowI (r : Int) : Int := if 65 ≤ r ∧ r ≤ 90 then r + 32 else r
def validB (s : ByteArray) : Bool := Lib.validD s.data.toList
def labelB (s : ByteArray) : Bool := !s.toList.isEmpty && ((label s.data.toList : Int) == s.size)
def tagB (s : ByteArray) : Bool := ((tag s.data.toList : Int) == s.size) && ((⟨(Lib.mapD lowI s.data.toList).toArray⟩ : ByteArray).toList == s.toList)
def xsdL : List UInt8 := [104, 116, 116, 112, 58, 47, 47, 119, 119, 119, 46, 119, 51, 46, 111, 114, 103, 47, 50, 48, 48, 49, 47, 88, 77, 76, 83, 99, 104, 101, 109, 97, 35, 115, 116, 114, 105, 110, 103]

theorem tag_plain {s : ByteArray} (h : ((tag s.data.toList : Int) == s.size) = true) : ∀ (i : Nat) (hi : i < s.size), (s[i]'hi).toNat < 128 := by
  have h1 : tag s.data.toList = s.size := by have := eq_of_beq h; omega
  intro i hi
  have h2 := (tag_reach s.data.toList).bytes i (by rw [h1]; exact hi)
  have h3 : s.data.toList.getD i 0 = s[i]'hi := by
    rw [List.getD_eq_getElem?_getD, List.getElem?_eq_getElem (by rw [← Lib.size_eq]; exact hi)]
    rfl
  rw [h3] at h2
  generalize (s[i]'hi).toNat = n at *
  simp [alnumB, alphaB, digitB, inB] at h2
  omega
def emptyB (s : ByteArray) : Bool := s.toList.isEmpty
/-- What a right term is. -/
def rightB (t : Tm) : Bool :=
  if t.k = 1 then emptyB (t.l ++ t.y) && validB t.x
  else if t.k = 2 then emptyB (t.l ++ t.y) && labelB t.x
  else if t.k = 3 then emptyB t.y && validB t.x && tagB t.l
  else if t.k = 4 then emptyB t.l && !(t.y.toList == xsdL) && (validB t.x && validB t.y)
  else false
end Go.Proofs.YtfijpdmkdoccjaaGreatDoor
namespace Go.Proofs.YtfijpdmkdoccjaaGreatDoor
open Go Go.RowKit Um Fm

def oddQn (r : Int) : Bool := !(decide (97 ≤ r) && decide (r ≤ 122) || decide (65 ≤ r) && decide (r ≤ 90) || decide (48 ≤ r) && decide (r ≤ 57) || r == 95)
theorem oddQn_yes {r : Int} (h : ¬ (97 ≤ r ∧ r ≤ 122) ∧ ¬ (65 ≤ r ∧ r ≤ 90) ∧ ¬ (48 ≤ r ∧ r ≤ 57) ∧ ¬ r = 95) : oddQn r = true := by
  have : oddQn r = decide (¬ (97 ≤ r ∧ r ≤ 122) ∧ ¬ (65 ≤ r ∧ r ≤ 90) ∧ ¬ (48 ≤ r ∧ r ≤ 57) ∧ ¬ r = 95) := by
    rw [Bool.eq_iff_iff]; simp [oddQn]; omega
  rw [this]; exact decide_eq_true h
theorem oddQn_no {r : Int} (h : (97 ≤ r ∧ r ≤ 122) ∨ (65 ≤ r ∧ r ≤ 90) ∨ (48 ≤ r ∧ r ≤ 57) ∨ r = 95) : oddQn r = false := by
  have : oddQn r = !decide ((97 ≤ r ∧ r ≤ 122) ∨ (65 ≤ r ∧ r ≤ 90) ∨ (48 ≤ r ∧ r ≤ 57) ∨ r = 95) := by
    rw [Bool.eq_iff_iff]; simp [oddQn]; omega
  rw [this, decide_eq_true h]; rfl
def nameB (s : ByteArray) : Bool := !s.toList.isEmpty && decide (s.size ≤ 40) && decide (Lib.idxFunc (fun x => oddQn x) true s < 0)
/-- May a term stand in a query? -/
def toldB (t : Tm) : Bool := !(t.k == 2) && rightB t
/-- A term's texts are short enough. -/
def szT (t : Tm) : Prop := t.x.size ≤ 281474976710656 ∧ t.l.size ≤ 140737488351232 ∧ t.y.size ≤ 281474976710656
end Go.Proofs.YtfijpdmkdoccjaaGreatDoor
namespace Go.Proofs.YtfijpdmkdoccjaaGreatDoor
open Go Go.RowKit Um Fm

/-- A place: a variable's name, a term. -/
structure Sl where
  v : ByteArray
  t : Tm
def slC (s : Sl) : List Value := [.string s.v, .int .i64 s.t.k, .string s.t.x, .string s.t.l, .string s.t.y]
def zeroB (t : Tm) : Bool := t.k == 0 && t.x.toList.isEmpty && t.l.toList.isEmpty && t.y.toList.isEmpty
def slotB (s : Sl) : Bool := if s.v.toList.isEmpty then toldB s.t else nameB s.v && zeroB s.t
def szS (s : Sl) : Prop := s.v.size ≤ 281474976710656 ∧ szT s.t
/-- A pattern: three places. -/
structure Pat where
  s : Sl
  p : Sl
  o : Sl
def patC (p : Pat) : List Value := slC p.s ++ slC p.p ++ slC p.o
def patB (p : Pat) : Bool := slotB p.s && slotB p.p && slotB p.o && (!p.p.v.toList.isEmpty || p.p.t.k == 1)
def szP (p : Pat) : Prop := szS p.s ∧ szS p.p ∧ szS p.o
end Go.Proofs.YtfijpdmkdoccjaaGreatDoor
namespace Go.Proofs.YtfijpdmkdoccjaaGreatDoor
open Go Go.RowKit Go.Shelf Um Fm
attribute [local go_sem] Oper.semAt_some

/-- Cells that lay, lie. -/
def CM (w w' : World) : Prop := ∀ (p : Addr) (u : Value), w.cell? p = some u → w'.cell? p = some u
theorem CM.refl (w : World) : CM w w := fun _ _ h => h
theorem CM.trans {a b c : World} (h : CM a b) (k : CM b c) : CM a c := fun p u x => k p u (h p u x)
theorem CM.of_below {w w' : World} (h : Below w.heap.size w w') : CM w w' := fun _ _ x => cell_on x h
theorem Rd.cm {w w' : World} {A : Option Addr} {xs : List Value} (h : Rd w A xs) (hc : CM w w') : Rd w' A xs := by
  rcases h with h | ⟨g, o, hA, hx⟩
  · exact .inl h
  · exact .inr ⟨g, o, hA, fun j u hu => hc _ _ (hx j u hu)⟩
theorem RdL.cm {α : Type} {sz : Nat} {R R' : List Value → α → Prop} {w w' : World} {A : Option Addr} {l : List α} (h : RdL sz R w A l) (hc : CM w w') (hm : ∀ cs e, e ∈ l → R cs e → R' cs e) : RdL sz R' w' A l := by
  obtain ⟨xs, hr, ha⟩ := h
  exact ⟨xs, hr.cm hc, ha.mono hm⟩
theorem RdE.cm : ∀ {n : Nat} {w w' : World} {v : List Value} {e : ExT n}, RdE n w v e → CM w w' → RdE n w' v e
  | 0, _, _, _, _, h, _ => h.elim
  | _ + 1, _, _, _, (_, _, _, _), ⟨A, c, hv, hc, hk⟩, hb => ⟨A, c, hv, hc, hk.cm hb fun _ _ _ h => h.cm hb⟩
theorem RdEs.cm {n : Nat} {w w' : World} {A : Option Addr} {l : List (ExT n)} (h : RdEs n w A l) (hc : CM w w') : RdEs n w' A l := RdL.cm h hc fun _ _ _ h => h.cm hc

/-- A world without the cells of some blocks. -/
def wo (h : Nat → Obj → Bool) (w : World) : World := { w with heap := w.heap.mapIdx fun k o => if h k o = true then .cells #[] 0 (0, 0) else o }
theorem wo_cell {h : Nat → Obj → Bool} {w : World} {p : Addr} {u : Value} : (wo h w).cell? p = some u ↔ (w.cell? p = some u ∧ ∃ o, w.heap[p.block]? = some o ∧ h p.block o = false) := by
  unfold World.cell? wo
  simp only [Array.getElem?_mapIdx]
  cases hx : w.heap[p.block]? with
  | none => simp
  | some o =>
    cases hb : h p.block o with
    | true => simp [hb]
    | false => simp [hb]
theorem wo_cellN {h : Nat → Bool} {w : World} {p : Addr} {u : Value} : (wo (fun k _ => h k) w).cell? p = some u ↔ (w.cell? p = some u ∧ h p.block = false) := by
  rw [wo_cell]
  constructor
  · rintro ⟨h1, _, _, h2⟩; exact ⟨h1, h2⟩
  · rintro ⟨h1, h2⟩; exact ⟨h1, _, Array.getElem?_eq_getElem (cell_lt h1), h2⟩
/-- What a round keeps: cells, but for those of some blocks; whatever lay below S, but for these. -/
structure Kb (h : Nat → Obj → Bool) (S : Nat) (w w' : World) : Prop where
  cells : CM (wo h w) (wo h w')
  old : ∀ k o, k < S → w.heap[k]? = some o → h k o = false → w'.heap[k]? = some o
  size : w.heap.size ≤ w'.heap.size
theorem Kb.refl (h : Nat → Obj → Bool) (S : Nat) (w : World) : Kb h S w w := ⟨CM.refl _, fun _ _ _ h _ => h, Nat.le_refl _⟩
theorem Kb.trans {hd : Nat → Obj → Bool} {S : Nat} {a b c : World} (h : Kb hd S a b) (k : Kb hd S b c) : Kb hd S a c := ⟨h.cells.trans k.cells, fun i o hi1 ho hi2 => k.old i o hi1 (h.old i o hi1 ho hi2) hi2, Nat.le_trans h.size k.size⟩
theorem Kb.of_blocks {hd : Nat → Obj → Bool} {S : Nat} {w w' : World} (h : ∀ k o, w.heap[k]? = some o → hd k o = false → o.isCells = true ∨ k < S → w'.heap[k]? = some o) (hs : w.heap.size ≤ w'.heap.size) : Kb hd S w w' := by
  refine ⟨fun p u x => ?_, fun k o hk ho hn => h k o ho hn (.inr hk), hs⟩
  rw [wo_cell] at x ⊢
  obtain ⟨hc, o, ho, hn⟩ := x
  have ho' := h _ o ho hn (.inl (by
    rw [World.cell?, ho] at hc
    cases o <;> simp [Obj.isCells] at hc ⊢))
  exact ⟨by rw [World.cell?, ho']; rw [World.cell?, ho] at hc; exact hc, o, ho', hn⟩
theorem Kb.of_below {hd : Nat → Obj → Bool} {S : Nat} {w w' : World} (h : Below w.heap.size w w') (_ : S ≤ w.heap.size) : Kb hd S w w' :=
  .of_blocks (fun k o ho _ _ => by rw [h.block k (Array.getElem?_eq_some_iff.1 ho).1]; exact ho) h.size
theorem Kb.put {hd : Nat → Obj → Bool} {S : Nat} {w : World} {l : Nat} {o o' : Obj} (hl : S ≤ l) (ho : w.heap[l]? = some o) (hc : o.isCells = false) : Kb hd S w (w.putObj l o') := by
  have hne : ∀ k, k ≠ l → (w.putObj l o').heap[k]? = w.heap[k]? := fun k hk => World.putObj_heap_other hk
  refine .of_blocks (fun k q hq _ hor => ?_) (grownBy_putObj' w l o').size
  have : k ≠ l := by
    rintro rfl
    rcases hor with h1 | h1
    · rw [ho] at hq; cases hq; rw [hc] at h1; cases h1
    · omega
  rw [hne k this]; exact hq

theorem flat_at {β γ : Type} {l : List β} {j : Nat} {y : β} (h : l[j]? = some y) (f : β → List γ) : l.flatMap f = (l.take j).flatMap f ++ (f y ++ (l.drop (j + 1)).flatMap f) := by
  conv => lhs; rw [← List.take_append_drop j l, drop_cons_of h]
  rw [List.flatMap_append, List.flatMap_cons]
theorem flat_take {β γ : Type} {l : List β} {j : Nat} {y : β} (h : l[j]? = some y) (f : β → List γ) : (l.take (j + 1)).flatMap f = (l.take j).flatMap f ++ f y := by
  rw [take_snoc_of h, List.flatMap_append, List.flatMap_cons, List.flatMap_nil, List.append_nil]
theorem room_of_none {F : Fence} (hd : F.depth = none) (k : Nat) : F.room k := fun d h => by rw [hd] at h; cases h
theorem YieldAt.anyDepth' {F : Fence} (hd : F.depth = none) {m : Nat} (m' : Nat) {P : Program} {l : Nat} {args : Array Value} {W : World} {R : Ending → World → Prop} (h : YieldAt F m P l args W R) : YieldAt F m' P l args W R := by
  obtain ⟨fn, tmps, assign, body, hy, hR⟩ := h
  exact ⟨fn, tmps, assign, body, hy, hR.1, fun c cs _ => hR.2 c cs (room_of_none hd _)⟩
/-- A condition of some depth; a condition's parts, it first. -/
abbrev Pt := (n : Nat) × ExT n
def preE : (n : Nat) → ExT n → List Pt
  | 0, _ => []
  | n + 1, (k, s, t, kids) => ⟨n + 1, (k, s, t, kids)⟩ :: kids.flatMap (preE n)
/-- A part, as it lies in a world. -/
structure Prt (W0 : World) (Z : (n : Nat) → ExT n → Prop) where
  n : Nat
  x : ExT n
  cs : List Value
  rd : RdE n W0 cs x
  z : Z n x
def pts {W0 : World} {Z : (n : Nat) → ExT n → Prop} (q : List (Prt W0 Z)) : List Pt := q.map fun a => ⟨a.n, a.x⟩
abbrev encP {W0 : World} {Z : (n : Nat) → ExT n → Prop} (a : Prt W0 Z) : Array Value := #[.agg a.cs.toArray]
theorem pts_length {W0 : World} {Z : (n : Nat) → ExT n → Prop} (q : List (Prt W0 Z)) : (pts q).length = q.length := List.length_map _
theorem pts_append {W0 : World} {Z : (n : Nat) → ExT n → Prop} (p q : List (Prt W0 Z)) : pts (p ++ q) = pts p ++ pts q := List.map_append

def WalkR {W0 : World} {Z : (n : Nat) → ExT n → Prop} (h : Nat → Obj → Bool) (S : Nat) (J Jx : List (Prt W0 Z) → World → Prop) (pre : List (Prt W0 Z)) (all : List Pt) (W : World) (e : Ending) (W' : World) : Prop :=
  (e = .returned (.bool true) ∧ (∃ q, pts q = all ∧ J (pre ++ q) W') ∧ Kb h S W W') ∨ (e = .returned (.bool false) ∧ ∃ q, pts q <+: all ∧ Jx (pre ++ q) W')

def WalkL {W0 : World} {Z : (n : Nat) → ExT n → Prop} (h : Nat → Obj → Bool) (S n : Nat) (J : List (Prt W0 Z) → World → Prop) (pre : List (Prt W0 Z)) (es : List (ExT n)) (W : World) (i : Value) (wr : World) : Prop :=
  ∃ j : Nat, j ≤ es.length ∧ i = .int .i64 j ∧ (∃ q, pts q = (es.take j).flatMap (preE n) ∧ J (pre ++ q) wr) ∧ Kb h S W wr
end Go.Proofs.YtfijpdmkdoccjaaGreatDoor
namespace Go.Proofs.YtfijpdmkdoccjaaGreatDoor
open Go Go.RowKit Go.Shelf Um Fm
attribute [local go_sem] Oper.semAt_some

theorem Kb.set {h : Nat → Obj → Bool} {S b : Nat} {w : World} {i : Nat} (v : Value) (h1 : ∀ o, h b o = true) : Kb h S w (w.setCell ⟨b, i, none⟩ v) := by
  have hne : ∀ k, k ≠ b → (w.setCell ⟨b, i, none⟩ v).heap[k]? = w.heap[k]? := fun k hk => Below.heap_setCell _ _ _ k hk
  refine .of_blocks (fun k o ho hn _ => ?_) (KeepsWalks.setCell w _ v).size
  rw [hne k (by intro e; rw [e, h1] at hn; cases hn)]; exact ho

end Go.Proofs.YtfijpdmkdoccjaaGreatDoor
