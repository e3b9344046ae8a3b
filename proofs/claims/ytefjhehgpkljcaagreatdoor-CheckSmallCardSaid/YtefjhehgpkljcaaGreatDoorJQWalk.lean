/- The program's package query, walked: parts, an iterator that calls itself. -/
import Derived.RangeFuncNested
import Derived.RangeFuncBound
import Derived.RangeFuncCalls
import Derived.RangeFuncLeaves
import Derived.Shelf.Abstract
import Derived.Shelf.RegionOpen
import Derived.OwnWalkIn
import Derived.TacticsInMore
import Derived.LoopNIn
import Derived.LoopIn
import Derived.Test.YtefjhehgpkljcaaGreatDoorJQSlot
namespace Go.Proofs.YtefjhehgpkljcaaGreatDoor
open Go Go.RowKit Go.Shelf Um Fm
attribute [local go_sem] Oper.semAt_some

/-- Cells that lay, lie. -/
def CM (w w' : World) : Prop := ∀ (p : Addr) (u : Value), w.cell? p = some u → w'.cell? p = some u
theorem CM.refl (w : World) : CM w w := fun _ _ h => h
theorem CM.trans {a b c : World} (h : CM a b) (k : CM b c) : CM a c := fun p u x => k p u (h p u x)
theorem CM.of_below {w w' : World} (h : Below w.heap.size w w') : CM w w' := fun _ _ x => cell_on x h
theorem Rd.cm {w w' : World} {A : Option Addr} {xs : List Value} (h : Rd w A xs) (hc : CM w w') : Rd w' A xs := by
  rcases h with h | ⟨g, o, hA, hx⟩
  · exact .inl h
  · exact .inr ⟨g, o, hA, fun j u hu => hc _ _ (hx j u hu)⟩
theorem RdL.cm {α : Type} {sz : Nat} {R R' : List Value → α → Prop} {w w' : World} {A : Option Addr} {l : List α} (h : RdL sz R w A l) (hc : CM w w') (hm : ∀ cs e, e ∈ l → R cs e → R' cs e) : RdL sz R' w' A l := by
  obtain ⟨xs, hr, ha⟩ := h
  exact ⟨xs, hr.cm hc, ha.mono hm⟩
theorem RdE.cm : ∀ {n : Nat} {w w' : World} {v : List Value} {e : ExT n}, RdE n w v e → CM w w' → RdE n w' v e
  | 0, _, _, _, _, h, _ => h.elim
  | _ + 1, _, _, _, (_, _, _, _), ⟨A, c, hv, hc, hk⟩, hb => ⟨A, c, hv, hc, hk.cm hb fun _ _ _ h => h.cm hb⟩
theorem RdEs.cm {n : Nat} {w w' : World} {A : Option Addr} {l : List (ExT n)} (h : RdEs n w A l) (hc : CM w w') : RdEs n w' A l := RdL.cm h hc fun _ _ _ h => h.cm hc

/-- A world without the cells of some blocks. -/
def wo (h : Nat → Obj → Bool) (w : World) : World := { w with heap := w.heap.mapIdx fun k o => if h k o = true then .cells #[] 0 (0, 0) else o }
theorem wo_cell {h : Nat → Obj → Bool} {w : World} {p : Addr} {u : Value} : (wo h w).cell? p = some u ↔ (w.cell? p = some u ∧ ∃ o, w.heap[p.block]? = some o ∧ h p.block o = false) := by
  unfold World.cell? wo
  simp only [Array.getElem?_mapIdx]
  cases hx : w.heap[p.block]? with
  | none => simp
  | some o =>
    cases hb : h p.block o with
    | true => simp [hb]
    | false => simp [hb]
theorem wo_cellN {h : Nat → Bool} {w : World} {p : Addr} {u : Value} : (wo (fun k _ => h k) w).cell? p = some u ↔ (w.cell? p = some u ∧ h p.block = false) := by
  rw [wo_cell]
  constructor
  · rintro ⟨h1, _, _, h2⟩; exact ⟨h1, h2⟩
  · rintro ⟨h1, h2⟩; exact ⟨h1, _, Array.getElem?_eq_getElem (cell_lt h1), h2⟩
/-- What a round keeps: cells, but for those of some blocks; whatever lay below S, but for these. -/
structure Kb (h : Nat → Obj → Bool) (S : Nat) (w w' : World) : Prop where
  cells : CM (wo h w) (wo h w')
  old : ∀ k o, k < S → w.heap[k]? = some o → h k o = false → w'.heap[k]? = some o
  size : w.heap.size ≤ w'.heap.size
theorem Kb.refl (h : Nat → Obj → Bool) (S : Nat) (w : World) : Kb h S w w := ⟨CM.refl _, fun _ _ _ h _ => h, Nat.le_refl _⟩
theorem Kb.trans {hd : Nat → Obj → Bool} {S : Nat} {a b c : World} (h : Kb hd S a b) (k : Kb hd S b c) : Kb hd S a c := ⟨h.cells.trans k.cells, fun i o hi1 ho hi2 => k.old i o hi1 (h.old i o hi1 ho hi2) hi2, Nat.le_trans h.size k.size⟩
theorem Kb.of_blocks {hd : Nat → Obj → Bool} {S : Nat} {w w' : World} (h : ∀ k o, w.heap[k]? = some o → hd k o = false → o.isCells = true ∨ k < S → w'.heap[k]? = some o) (hs : w.heap.size ≤ w'.heap.size) : Kb hd S w w' := by
  refine ⟨fun p u x => ?_, fun k o hk ho hn => h k o ho hn (.inr hk), hs⟩
  rw [wo_cell] at x ⊢
  obtain ⟨hc, o, ho, hn⟩ := x
  have ho' := h _ o ho hn (.inl (by
    rw [World.cell?, ho] at hc
    cases o <;> simp [Obj.isCells] at hc ⊢))
  exact ⟨by rw [World.cell?, ho']; rw [World.cell?, ho] at hc; exact hc, o, ho', hn⟩
theorem Kb.of_below {hd : Nat → Obj → Bool} {S : Nat} {w w' : World} (h : Below w.heap.size w w') (_ : S ≤ w.heap.size) : Kb hd S w w' :=
  .of_blocks (fun k o ho _ _ => by rw [h.block k (Array.getElem?_eq_some_iff.1 ho).1]; exact ho) h.size
theorem Kb.put {hd : Nat → Obj → Bool} {S : Nat} {w : World} {l : Nat} {o o' : Obj} (hl : S ≤ l) (ho : w.heap[l]? = some o) (hc : o.isCells = false) : Kb hd S w (w.putObj l o') := by
  have hne : ∀ k, k ≠ l → (w.putObj l o').heap[k]? = w.heap[k]? := fun k hk => World.putObj_heap_other hk
  refine .of_blocks (fun k q hq _ hor => ?_) (grownBy_putObj' w l o').size
  have : k ≠ l := by
    rintro rfl
    rcases hor with h1 | h1
    · rw [ho] at hq; cases hq; rw [hc] at h1; cases h1
    · omega
  rw [hne k this]; exact hq

theorem flat_at {β γ : Type} {l : List β} {j : Nat} {y : β} (h : l[j]? = some y) (f : β → List γ) : l.flatMap f = (l.take j).flatMap f ++ (f y ++ (l.drop (j + 1)).flatMap f) := by
  conv => lhs; rw [← List.take_append_drop j l, drop_cons_of h]
  rw [List.flatMap_append, List.flatMap_cons]
theorem flat_take {β γ : Type} {l : List β} {j : Nat} {y : β} (h : l[j]? = some y) (f : β → List γ) : (l.take (j + 1)).flatMap f = (l.take j).flatMap f ++ f y := by
  rw [take_snoc_of h, List.flatMap_append, List.flatMap_cons, List.flatMap_nil, List.append_nil]
theorem room_of_none {F : Fence} (hd : F.depth = none) (k : Nat) : F.room k := fun d h => by rw [hd] at h; cases h
theorem YieldAt.anyDepth' {F : Fence} (hd : F.depth = none) {m : Nat} (m' : Nat) {P : Program} {l : Nat} {args : Array Value} {W : World} {R : Ending → World → Prop} (h : YieldAt F m P l args W R) : YieldAt F m' P l args W R := by
  obtain ⟨fn, tmps, assign, body, hy, hR⟩ := h
  exact ⟨fn, tmps, assign, body, hy, hR.1, fun c cs _ => hR.2 c cs (room_of_none hd _)⟩
/-- A condition of some depth; a condition's parts, it first. -/
abbrev Pt := (n : Nat) × ExT n
def preE : (n : Nat) → ExT n → List Pt
  | 0, _ => []
  | n + 1, (k, s, t, kids) => ⟨n + 1, (k, s, t, kids)⟩ :: kids.flatMap (preE n)
/-- A part, as it lies in a world. -/
structure Prt (W0 : World) (Z : (n : Nat) → ExT n → Prop) where
  n : Nat
  x : ExT n
  cs : List Value
  rd : RdE n W0 cs x
  z : Z n x
def pts {W0 : World} {Z : (n : Nat) → ExT n → Prop} (q : List (Prt W0 Z)) : List Pt := q.map fun a => ⟨a.n, a.x⟩
abbrev encP {W0 : World} {Z : (n : Nat) → ExT n → Prop} (a : Prt W0 Z) : Array Value := #[.agg a.cs.toArray]
theorem pts_length {W0 : World} {Z : (n : Nat) → ExT n → Prop} (q : List (Prt W0 Z)) : (pts q).length = q.length := List.length_map _
theorem pts_append {W0 : World} {Z : (n : Nat) → ExT n → Prop} (p q : List (Prt W0 Z)) : pts (p ++ q) = pts p ++ pts q := List.map_append

def WalkR {W0 : World} {Z : (n : Nat) → ExT n → Prop} (h : Nat → Obj → Bool) (S : Nat) (J Jx : List (Prt W0 Z) → World → Prop) (pre : List (Prt W0 Z)) (all : List Pt) (W : World) (e : Ending) (W' : World) : Prop :=
  (e = .returned (.bool true) ∧ (∃ q, pts q = all ∧ J (pre ++ q) W') ∧ Kb h S W W') ∨ (e = .returned (.bool false) ∧ ∃ q, pts q <+: all ∧ Jx (pre ++ q) W')

def WalkL {W0 : World} {Z : (n : Nat) → ExT n → Prop} (h : Nat → Obj → Bool) (S n : Nat) (J : List (Prt W0 Z) → World → Prop) (pre : List (Prt W0 Z)) (es : List (ExT n)) (W : World) (i : Value) (wr : World) : Prop :=
  ∃ j : Nat, j ≤ es.length ∧ i = .int .i64 j ∧ (∃ q, pts q = (es.take j).flatMap (preE n) ∧ J (pre ++ q) wr) ∧ Kb h S W wr
set_option maxRecDepth 100000 in
set_option maxHeartbeats 4000000 in
theorem qWalk_in (F : Fence) (hd : F.depth = none) (h6 : F.fn 185) (hro : F.round = none) {h : Nat → Obj → Bool} {S : Nat} (hhi : ∀ k cs fr, S ≤ k → h k (.cells cs 31 fr) = false) (W0 : World) (Z : (n : Nat) → ExT n → Prop) (hZ : ∀ n k s t (kids : List (ExT n)), Z (n + 1) (k, s, t, kids) → kids.length ≤ 1353245080300 ∧ ∀ y ∈ kids, Z n y)
    (l N : Nat) (J Jx : List (Prt W0 Z) → World → Prop) (hJ : ∀ s W o, J s W → J s (W.alloc o))
    (hY : ∀ m pre a W, J pre W → pre.length < N → YieldAt F m Tryz.prog l (encP a) W fun e W' =>
      (e = .returned (.bool true) ∧ J (pre ++ [a]) W' ∧ Kb h S W W') ∨ (e = .returned (.bool false) ∧ Jx (pre ++ [a]) W')) (n : Nat) :
    ∀ (m : Nat) (es : List (ExT n)) (A : Option Addr) (c : Nat) (pre : List (Prt W0 Z)) (W : World), RdEs n W0 A es → es.length ≤ 1353245080300 → (∀ x ∈ es, Z n x) → CM W0 (wo h W) → S ≤ W.heap.size → J pre W →
      pre.length + (es.flatMap (preE n)).length ≤ N →
      CallsIn F m Tryz.prog 185 #[.func (.yield l) #[] #[], .slice A es.length c] W (WalkR h S J Jx pre (es.flatMap (preE n)) W) := by
  have hdd : ∀ k : Nat, (F.depth.isSome = true → 1 ≤ k) := fun k h => by rw [hd] at h; cases h
  induction n with
  | zero =>
    intro m es A c pre W _ _ _ _ _ hj _
    obtain rfl : es = [] := ExT.none
    refine callsIn_of_wp Tryz.func185 rfl h6 ?_ hro
    simp only [Tryz.ntmps185, List.size_toArray, List.length_cons, List.length_nil, Nat.reduceAdd, Nat.reduceSub, Array.replicate_succ, Array.replicate_zero, List.push_toArray, List.append_toArray, List.nil_append, List.cons_append]
    gi_wp2
    gi_loopw [9] (fun i wr => i = .int .i64 0 ∧ J pre wr ∧ Kb h S W wr) (fun _ _ => 0)
    case atStart => exact ⟨rfl, hj, Kb.refl _ _ _⟩
    case round =>
      obtain ⟨rfl, hj, hk⟩ := hrel
      gi_wp2
      go_ret
      exact .inl ⟨rfl, ⟨[], rfl, by simpa using hj⟩, hk⟩
  | succ n ih =>
    intro m es A c pre W hr hl hz hc hSW hj hN
    have hl' : (es.length : Int) ≤ 1353245080300 := by omega
    refine callsIn_of_wp Tryz.func185 rfl h6 ?_ hro
    simp only [Tryz.ntmps185, List.size_toArray, List.length_cons, List.length_nil, Nat.reduceAdd, Nat.reduceSub, Array.replicate_succ, Array.replicate_zero, List.push_toArray, List.append_toArray, List.nil_append, List.cons_append]
    gi_wp2
    gi_loopw [9] (WalkL h S (n + 1) J pre es W) (fun i _ => es.length - (intOf i).toNat)
    case atStart => exact ⟨0, by omega, rfl, ⟨[], rfl, by simpa using hj⟩, Kb.refl _ _ _⟩
    case round =>
      obtain ⟨j, hj1, rfl, ⟨q, hq, hJq⟩, hk⟩ := hrel
      by_cases hlt : j < es.length
      · obtain ⟨⟨k', s', t', kids'⟩, hy⟩ : ∃ y : ExT (n + 1), es[j]? = some y := ⟨_, List.getElem?_eq_getElem hlt⟩
        have hmem := List.mem_of_getElem? hy
        obtain ⟨hkl, hkz⟩ := hZ n k' s' t' kids' (hz _ hmem)
        obtain ⟨g, o, A', c', rfl, hle, hk', c0, c1, c2, c3, c4, c5, c6⟩ := RdEs.at_ hr hy
        have hcm := hc.trans hk.cells
        have e0 := (wo_cell.1 (hcm _ _ c0)).1
        have e1 := (wo_cell.1 (hcm _ _ c1)).1
        have e2 := (wo_cell.1 (hcm _ _ c2)).1
        have e3 := (wo_cell.1 (hcm _ _ c3)).1
        have e4 := (wo_cell.1 (hcm _ _ c4)).1
        have e5 := (wo_cell.1 (hcm _ _ c5)).1
        have e6 := (wo_cell.1 (hcm _ _ c6)).1
        have hflat : es.flatMap (preE (n + 1)) = (es.take j).flatMap (preE (n + 1)) ++ ((⟨n + 1, (k', s', t', kids')⟩ :: kids'.flatMap (preE n)) ++ (es.drop (j + 1)).flatMap (preE (n + 1))) := flat_at hy _
        have htake : (es.take (j + 1)).flatMap (preE (n + 1)) = (es.take j).flatMap (preE (n + 1)) ++ (⟨n + 1, (k', s', t', kids')⟩ :: kids'.flatMap (preE n)) := flat_take hy _
        have hql : q.length = ((es.take j).flatMap (preE (n + 1))).length := by rw [← hq, pts_length]
        have hN2 : pre.length + (((es.take j).flatMap (preE (n + 1))).length + (((kids'.flatMap (preE n)).length + 1) + ((es.drop (j + 1)).flatMap (preE (n + 1))).length)) ≤ N := by
          rw [hflat] at hN
          simp only [List.length_append, List.length_cons] at hN ⊢
          omega
        have hSw : S ≤ wr.heap.size := Nat.le_trans hSW hk.size
        have ha : RdE (n + 1) W0 [.int .i64 k', .string s', .int .i64 t'.k, .string t'.x, .string t'.l, .string t'.y, .slice A' kids'.length c'] (k', s', t', kids') := ⟨A', c', rfl, hle, hk'⟩
        have hB1 : Below wr.heap.size wr (wr.alloc (.cells #[.int .i64 k', .string s', .int .i64 t'.k, .string t'.x, .string t'.l, .string t'.y, .slice A' kids'.length c'] 31)) := (by repeat (first | exact Below.refl _ _ | assumption | exact (Below.refl _ _).alloc (Nat.le_refl _) _ | refine below_tr ?_ (by assumption) | refine below_alloc ?_ | refine below_tr ?_ (below_regrown _ _ _)))
        have hkb1 : Kb h S wr (wr.alloc (.cells #[.int .i64 k', .string s', .int .i64 t'.k, .string t'.x, .string t'.l, .string t'.y, .slice A' kids'.length c'] 31)) := Kb.of_below hB1 hSw
        have hb6 : (wr.alloc (.cells #[.int .i64 k', .string s', .int .i64 t'.k, .string t'.x, .string t'.l, .string t'.y, .slice A' kids'.length c'] 31)).cell? ⟨wr.heap.size, 6, none⟩ = some (.slice A' kids'.length c') := by rw [World.cell?, heap_alloc_new]; rfl
        have hyY : YieldAt F (m - 1) Tryz.prog l #[.agg #[.int .i64 k', .string s', .int .i64 t'.k, .string t'.x, .string t'.l, .string t'.y, .slice A' kids'.length c']] (wr.alloc (.cells #[.int .i64 k', .string s', .int .i64 t'.k, .string t'.x, .string t'.l, .string t'.y, .slice A' kids'.length c'] 31)) fun e W2 =>
            (e = .returned (.bool true) ∧ W2.cell? ⟨wr.heap.size, 6, none⟩ = some (.slice A' kids'.length c') ∧ Kb h S wr W2 ∧
              CallsIn F (m - 1) Tryz.prog 185 #[.func (.yield l) #[] #[], .slice A' kids'.length c'] W2 (WalkR h S J Jx (pre ++ q ++ [⟨n + 1, _, _, ha, hz _ hmem⟩]) (kids'.flatMap (preE n)) W2)) ∨
            (e = .returned (.bool false) ∧ Jx (pre ++ q ++ [⟨n + 1, _, _, ha, hz _ hmem⟩]) W2) := by
          refine YieldAt.mono (hY (m - 1) (pre ++ q) ⟨n + 1, _, _, ha, hz _ hmem⟩ _ (hJ _ _ _ hJq) (by rw [List.length_append, hql]; omega)) ?_
          rintro e W2 (⟨rfl, hJ2, hkb2⟩ | hx2)
          · refine .inl ⟨rfl, ?_, hkb1.trans hkb2, ih (m - 1) kids' A' c' _ W2 hk' hkl hkz ((hcm.trans hkb1.cells).trans hkb2.cells) (Nat.le_trans hSw (Nat.le_trans hkb1.size hkb2.size)) hJ2 (by simp only [List.length_append, List.length_cons, List.length_nil, hql]; omega)⟩
            exact (wo_cell.1 (hkb2.cells _ _ (wo_cell.2 ⟨hb6, _, heap_alloc_new _ _, hhi _ _ _ hSw⟩))).1
          · exact .inr hx2
        obtain ⟨fn, tmps, assign, body, hy', hR⟩ := hyY
        have Hq := Lib.hid hq
        have Hflat := Lib.hid hflat
        have Htake := Lib.hid htake
        have HN2 := Lib.hid hN2
        clear ih hY hJ hZ hr hc hcm hkz hq hflat htake hql hN hN2 hy c0 c1 c2 c3 c4 c5 c6 hB1 hkb1 hb6
        gi_wp2_with (first
          | ((try refine ⟨hdd _, ?_⟩); refine hR.mono ?_; clear hR; rintro e W2 (⟨rfl, f6, hkb2, hih⟩ | ⟨rfl, hx2⟩))
          | ((try refine ⟨hdd _, ?_⟩); gi_at_call 185; refine hih.mono ?_; clear hih; rintro e W3 (⟨rfl, ⟨q3, hq3, hJ3⟩, hkb3⟩ | ⟨rfl, q3, hq3, hx3⟩)))
        · go_roundw
          case rel =>
            refine ⟨j + 1, by omega, by go_num, ⟨q ++ ([⟨n + 1, _, _, ha, hz _ hmem⟩] ++ q3), ?_, ?_⟩, hk.trans (hkb2.trans hkb3)⟩
            · rw [pts_append, pts_append, Hq.out, hq3, Htake.out]; rfl
            · simpa [List.append_assoc] using hJ3
          case measure => simp [intOf]; omega
        · go_ret
          refine .inr ⟨rfl, q ++ ([⟨n + 1, _, _, ha, hz _ hmem⟩] ++ q3), ?_, by simpa [List.append_assoc] using hx3⟩
          obtain ⟨r, hr'⟩ := hq3
          rw [pts_append, pts_append, Hq.out, Hflat.out]
          exact ⟨r ++ (es.drop (j + 1)).flatMap (preE (n + 1)), by rw [← hr']; simp [pts, List.append_assoc]⟩
        · go_ret
          refine .inr ⟨rfl, q ++ [⟨n + 1, _, _, ha, hz _ hmem⟩], ?_, by simpa [List.append_assoc] using hx2⟩
          rw [pts_append, Hq.out, Hflat.out]
          exact ⟨kids'.flatMap (preE n) ++ (es.drop (j + 1)).flatMap (preE (n + 1)), by simp [pts, List.append_assoc]⟩
      · have hk2 : es.take j = es := List.take_of_length_le (by omega)
        rw [hk2] at hq
        gi_wp2
        go_ret
        exact .inl ⟨rfl, ⟨q, hq, hJq⟩, hk⟩

set_option maxRecDepth 100000 in
set_option maxHeartbeats 1000000 in
/-- **parts(l..) goes through the parts of l, they first, in order; or through some of the first ones.** -/
theorem qParts_stops (F : Fence) (hd : F.depth = none) (h5 : F.fn 184) (h6 : F.fn 185) (hro : F.round = none) (h : Nat → Obj → Bool) (m n : Nat) (w : World) (hhi : ∀ k cs fr, w.heap.size ≤ k → h k (.cells cs 31 fr) = false) (Z : (n : Nat) → ExT n → Prop) (hZ : ∀ n k s t (kids : List (ExT n)), Z (n + 1) (k, s, t, kids) → kids.length ≤ 1353245080300 ∧ ∀ y ∈ kids, Z n y)
    (es : List (ExT n)) (A : Option Addr) (c Bp : Nat) (hr : RdEs n (wo h w) A es) (hl : es.length ≤ 1353245080300) (hz : ∀ x ∈ es, Z n x) (hb : (wo h w).cell? ⟨Bp, 0, none⟩ = some (.slice A es.length c)) :
    SeqStopsK F m Tryz.prog 184 #[.pointer (some ⟨Bp, 0, none⟩)] (encP (W0 := wo h w) (Z := Z)) (Kb h w.heap.size) (fun ys => pts ys = es.flatMap (preE n)) (fun pre => pts pre <+: es.flatMap (preE n)) (es.flatMap (preE n)).length w := by
  intro l J Jx W hW hJ hJx hY h0
  have hdd : ∀ k : Nat, (F.depth.isSome = true → 1 ≤ k) := fun k h => by rw [hd] at h; cases h
  have hkb := Kb.of_below (hd := h) hW (Nat.le_refl _)
  have hb2 := (wo_cell.1 (hkb.cells _ _ hb)).1
  have hp := qWalk_in F hd h6 hro hhi (wo h w) Z hZ l (es.flatMap (preE n)).length J Jx (fun s W' o hs => hJ s W' _ none hs (World.grownBy_alloc W' o none) (fun r e => by cases e))
    (fun m' pre a W1 hj hlen => YieldAt.anyDepth' hd m' (hY pre a W1 hj hlen)) n (m - 1) es A c [] W hr hl hz hkb.cells hkb.size h0 (by simp)
  clear hr hz hZ hY hJ hJx hb
  refine callsIn_of_wp Tryz.func184 rfl h5 ?_ hro
  simp only [Tryz.ntmps184, List.size_toArray, List.length_cons, List.length_nil, Nat.reduceAdd, Nat.reduceSub, Array.replicate_succ, Array.replicate_zero, List.push_toArray, List.append_toArray, List.nil_append, List.cons_append]
  gi_wp2_with ((try refine ⟨hdd _, ?_⟩); gi_at_call 185; refine hp.mono ?_; clear hp; rintro e W1 (⟨rfl, ⟨q, hq, hJ1⟩, _⟩ | ⟨rfl, q, hq, hx⟩))
  · go_end0
    exact ⟨⟨_, rfl⟩, .inl ⟨_, hq, by simpa using hJ1⟩⟩
  · go_end0
    exact ⟨⟨_, rfl⟩, .inr ⟨q, hq, by simpa using hx⟩⟩
end Go.Proofs.YtefjhehgpkljcaaGreatDoor
