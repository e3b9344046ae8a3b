/- A call that leaves what lay before: its world, by draws and blocks behind. What slices.SortFunc asks of triples: an order; worlds of the sort's. kit.SameTriples at a list and itself; kit.Pick. A row of triples in a block: one stored; its end cleared. -/
import Derived.Test.YthdlepalglgmoaaGreatDoorJDrawn
import Derived.Test.YthdlepalglgmoaaGreatDoorJMem
import Derived.Sort.Grow
import Derived.Deep.Draws
import Derived.Test.YthdlepalglgmoaaGreatDoorJShFile
import Derived.Test.YthdlepalglgmoaaGreatDoorJLnBack
import Derived.Shelf.SlSortCmp.NoneTotal
import Derived.Laws.IdiomCopy
import Derived.Deep.MidRow
namespace Go.Proofs.YthdlepalglgmoaaGreatDoor
open Go Go.RowKit

theorem heap_behind {w w' : World} (hb : Below w.heap.size w w') : w'.heap = w.heap ++ (w'.heap.toList.drop w.heap.size).toArray := by
  apply Array.toList_inj.1
  rw [Array.toList_append, List.toList_toArray]
  conv => lhs; rw [← List.take_append_drop w.heap.size w'.heap.toList]
  congr 1
  apply List.ext_getElem?
  intro k
  rcases Nat.lt_or_ge k w.heap.size with h | h
  · rw [List.getElem?_take, if_pos h, Array.getElem?_toList, Array.getElem?_toList]
    exact hb.block k h
  · rw [List.getElem?_take, if_neg (by omega), List.getElem?_eq_none (by rw [Array.length_toList]; exact h)]
theorem below_grow {w w' : World} (hb : Below w.heap.size w w') (hd : w.drawn ≤ w'.drawn) : ∃ q os, w' = Sort.grow (w.drewN q) os := by
  refine ⟨w'.drawn - w.drawn, (w'.heap.toList.drop w.heap.size).toArray, ?_⟩
  have h1 := heap_behind hb
  obtain ⟨heap, tape, drawn, os, output⟩ := w'
  have h2 := hb.os
  have h3 := hb.tape
  have h4 := hb.output
  simp only at h1 h2 h3 h4 hd ⊢
  unfold Sort.grow World.drewN
  simp only
  rw [← h1, ← h2, ← h3, ← h4, show w.drawn + (drawn - w.drawn) = drawn by omega]
/-- A contract in these words. -/
theorem calls_grow {P : Program} {f : FuncId} {args : Array Value} {w : World} {v : Value} (h : Calls P f args w fun e w' => e = .returned v ∧ Below w.heap.size w w') :
    Calls P f args w fun e w' => e = .returned v ∧ ∃ q os, w' = Sort.grow (w.drewN q) os :=
  (Dr.calls_le h fun _ _ x => ⟨v, x.1⟩).mono fun _ _ ⟨⟨h1, h2⟩, h3⟩ => ⟨h1, below_grow h2 h3⟩
end Go.Proofs.YthdlepalglgmoaaGreatDoor
namespace Go.Proofs.YthdlepalglgmoaaGreatDoor
open Go Go.RowKit Um Fm Lx Tx

/-- Triples that are small: of these the program's order is known. -/
abbrev STp := { t : Tp // smallP3 t }
instance : Inhabited STp := ⟨⟨zTp, ⟨small_z, small_z, small_z⟩⟩⟩
def encTp (x : STp) : List Value := tpL x.1
def cfS (x y : STp) : Int := cmpTp x.1 y.1
theorem encTp_len (x : STp) : (encTp x).length = 12 := rfl
theorem encTp_one (x : STp) : ∀ v ∈ encTp x, v.oneCell' = true := tpL_one x.1
theorem ltS (x y : STp) : ltOf cfS x y = ltTp x.1 y.1 := rfl
theorem swoS : Sort.SWO (ltOf cfS) where
  irrefl := fun x => by rw [ltS]; unfold ltTp; rw [tp_self]; rfl
  trans := fun x y z h1 h2 => by
    rw [ltS] at h1 h2 ⊢
    unfold ltTp at h1 h2 ⊢
    rw [decide_eq_true_iff] at h1 h2 ⊢
    exact ordF_Tp.tr _ _ _ h1 h2
  ntrans := fun x y z h1 h2 => by
    rw [ltS] at h1 h2 ⊢
    unfold ltTp at h1 h2 ⊢
    rw [decide_eq_false_iff_not] at h1 h2 ⊢
    have n1 := ordF_Tp.neg x.1 y.1; have n2 := ordF_Tp.neg y.1 z.1; have n3 := ordF_Tp.neg x.1 z.1
    have := ordF_Tp.le (a := z.1) (b := y.1) (c := x.1) (by omega) (by omega)
    omega
theorem totS (x y : STp) (h1 : ltOf cfS x y = false) (h2 : ltOf cfS y x = false) : x = y := by
  rw [ltS] at h1 h2
  unfold ltTp at h1 h2
  rw [decide_eq_false_iff_not] at h1 h2
  rcases tp_three x.1 y.1 with h | h | h
  · exact absurd h h1
  · exact Subtype.ext h
  · exact absurd h h2
/-- The sort's worlds leave what lay below its row. -/
theorem below_sort {base : Nat} {w : World} {blk off m : Nat} {dk : Array STp} {os : Array Obj} (hb : base ≤ blk) (hw : base ≤ w.heap.size) : Below base w (sortWorldK encTp 12 w blk off m dk os) := by
  unfold sortWorldK Go.Sort.putRowK Sort.grow Sort.putRow Sort.mapBlock Sort.ahead
  refine ⟨rfl, rfl, rfl, by simp, fun k hk => ?_⟩
  have hne : blk ≠ k := by omega
  simp only [Array.getElem?_append, Array.size_modify]
  rw [if_pos (by omega), Array.getElem?_modify, if_neg hne]
/-- What was sorted, as triples. -/
theorem sortS_val (d : List STp) : (d.mergeSort fun x y => !ltOf cfS y x).map (·.1) = (d.map (·.1)).mergeSort fun x y => !ltTp y x := by
  rw [List.map_mergeSort]
  intro a _ b _
  rw [ltS]
end Go.Proofs.YthdlepalglgmoaaGreatDoor
namespace Go.Proofs.YthdlepalglgmoaaGreatDoor
open Go Go.RowKit Um Fm Lx Tx

theorem flat12 : ∀ {ts : List Tp} {i : Nat} {t : Tp}, ts[i]? = some t → ∀ j, j < 12 → (ts.flatMap tpL)[i * 12 + j]? = (tpL t)[j]?
  | [], _, _, h, _, _ => by simp at h
  | u :: r, 0, t, h, j, hj => by
    simp only [List.getElem?_cons_zero, Option.some.injEq] at h
    subst h
    rw [List.flatMap_cons, Nat.zero_mul, Nat.zero_add, List.getElem?_append_left (by simpa [tpL] using hj)]
  | u :: r, i + 1, t, h, j, hj => by
    rw [List.getElem?_cons_succ] at h
    have hl : (tpL u).length = 12 := rfl
    rw [List.flatMap_cons, List.getElem?_append_right (by rw [hl]; omega), hl, show (i + 1) * 12 + j - 12 = i * 12 + j by omega]
    exact flat12 h j hj
theorem rd_at12 {w : World} {A : Option Addr} {ts : List Tp} (h : Rd w A (ts.flatMap tpL)) {i : Nat} {t : Tp} (ht : ts[i]? = some t) :
    ∃ g o, A = some ⟨g, o, none⟩ ∧ w.cell? ⟨g, o + i * 12, none⟩ = some (.int .i64 t.s.k) ∧ w.cell? ⟨g, o + i * 12 + 1, none⟩ = some (.string t.s.x) ∧ w.cell? ⟨g, o + i * 12 + 2, none⟩ = some (.string t.s.l) ∧ w.cell? ⟨g, o + i * 12 + 3, none⟩ = some (.string t.s.y) ∧ w.cell? ⟨g, o + i * 12 + 4, none⟩ = some (.int .i64 t.p.k) ∧ w.cell? ⟨g, o + i * 12 + 5, none⟩ = some (.string t.p.x) ∧ w.cell? ⟨g, o + i * 12 + 6, none⟩ = some (.string t.p.l) ∧ w.cell? ⟨g, o + i * 12 + 7, none⟩ = some (.string t.p.y) ∧ w.cell? ⟨g, o + i * 12 + 8, none⟩ = some (.int .i64 t.o.k) ∧ w.cell? ⟨g, o + i * 12 + 9, none⟩ = some (.string t.o.x) ∧ w.cell? ⟨g, o + i * 12 + 10, none⟩ = some (.string t.o.l) ∧ w.cell? ⟨g, o + i * 12 + 11, none⟩ = some (.string t.o.y) := by
  have hf := flat12 ht
  rcases h with h0 | ⟨g, o, hA, hc⟩
  · have h1 := hf 0 (by omega)
    rw [h0] at h1; cases h1
  · exact ⟨g, o, hA, hc _ _ (hf 0 (by omega)), by rw [Nat.add_assoc]; exact hc _ _ (hf 1 (by omega)), by rw [Nat.add_assoc]; exact hc _ _ (hf 2 (by omega)), by rw [Nat.add_assoc]; exact hc _ _ (hf 3 (by omega)), by rw [Nat.add_assoc]; exact hc _ _ (hf 4 (by omega)), by rw [Nat.add_assoc]; exact hc _ _ (hf 5 (by omega)), by rw [Nat.add_assoc]; exact hc _ _ (hf 6 (by omega)), by rw [Nat.add_assoc]; exact hc _ _ (hf 7 (by omega)), by rw [Nat.add_assoc]; exact hc _ _ (hf 8 (by omega)), by rw [Nat.add_assoc]; exact hc _ _ (hf 9 (by omega)), by rw [Nat.add_assoc]; exact hc _ _ (hf 10 (by omega)), by rw [Nat.add_assoc]; exact hc _ _ (hf 11 (by omega))⟩
set_option maxRecDepth 100000 in
set_option maxHeartbeats 2000000 in
theorem run_neTpp (t : Tp) (W : World) : (binOp .neq 29 (.agg #[.int .i64 t.s.k, .string t.s.x, .string t.s.l, .string t.s.y, .int .i64 t.p.k, .string t.p.x, .string t.p.l, .string t.p.y, .int .i64 t.o.k, .string t.o.x, .string t.o.l, .string t.o.y]) (.agg #[.int .i64 t.s.k, .string t.s.x, .string t.s.l, .string t.s.y, .int .i64 t.p.k, .string t.p.x, .string t.p.l, .string t.p.y, .int .i64 t.o.k, .string t.o.x, .string t.o.l, .string t.o.y])).run Tryz.prog W = .ok (.bool false) W := by
  have h0 := Tryz.underlying24
  have h1 := Tryz.underlying22
  have h2 := Tryz.underlying9
  have h3 := Tryz.underlying29
  simp [go_sem, h0, h1, h2, h3]
set_option maxRecDepth 20000 in
set_option maxHeartbeats 4000000 in
theorem kitSameTp (ts : List Tp) (N : Nat) (A1 : Option Addr) (c1 : Nat) (A2 : Option Addr) (c2 : Nat) (w : World) (hN : ts.length = N) (hl : N ≤ 1000000) (hr1 : Rd w A1 (ts.flatMap tpL)) (hr2 : Rd w A2 (ts.flatMap tpL)) :
    Calls Tryz.prog 19 #[.slice A1 N c1, .slice A2 N c2] w fun e w' => e = .returned (.bool true) ∧ Below w.heap.size w w' := by
  have HN := Lib.hid hN
  have HR := Lib.hid (And.intro hr1 hr2)
  clear hN hr1 hr2
  go_enter Tryz.func19, Tryz.ntmps19
  go_wp2
  go_loopw [5] (fun i wr => ∃ k : Nat, k ≤ N ∧ i = .int .i64 k ∧ Below w.heap.size w wr) (fun i _ => N - (intOf i).toNat)
  case atStart => exact ⟨0, by omega, rfl, Below.refl _ _⟩
  case round =>
    obtain ⟨k, hk, rfl, hB⟩ := hrel
    by_cases hlt : k < N
    · have hd1 : decide (k < N) = true := by simp; omega
      obtain ⟨t, ht⟩ : ∃ t, ts[k]? = some t := ⟨_, List.getElem?_eq_getElem (by rw [HN.out]; exact hlt)⟩
      obtain ⟨g, o, rfl, a0, a1, a2, a3, a4, a5, a6, a7, a8, a9, a10, a11⟩ := rd_at12 (HR.out.1.later hB) ht
      obtain ⟨p, q, rfl, b0, b1, b2, b3, b4, b5, b6, b7, b8, b9, b10, b11⟩ := rd_at12 (HR.out.2.later hB) ht
      have hq := run_neTpp t
      have HBr := Lib.hid hB
      clear ht hB
      go_wp2
      go_quiet (fail)
      go_wp2
      go_roundw
      case rel => exact ⟨k + 1, by omega, by go_num, HBr.out.os, HBr.out.tape, HBr.out.output, HBr.out.size, HBr.out.block⟩
      case measure => simp [intOf]; omega
    · have hd1 : decide (k < N) = false := by simp; omega
      have HBr := Lib.hid hB
      clear hB
      go_wp2
      go_ret
      exact ⟨rfl, HBr.out⟩
end Go.Proofs.YthdlepalglgmoaaGreatDoor
namespace Go.Proofs.YthdlepalglgmoaaGreatDoor
open Go Go.RowKit Um Fm Lx Tx

def putAt (cur : Array Value) : Nat → List Value → Array Value
  | _, [] => cur
  | o, v :: r => putAt (cur.setIfInBounds o v) (o + 1) r
theorem putAt_size : ∀ (vs : List Value) (o : Nat) (cur : Array Value), (putAt cur o vs).size = cur.size
  | [], _, _ => rfl
  | v :: r, o, cur => by rw [putAt, putAt_size r]; simp
theorem putAt_mid : ∀ (vs pre old post : List Value), old.length = vs.length → putAt (pre ++ (old ++ post)).toArray pre.length vs = (pre ++ (vs ++ post)).toArray
  | [], pre, old, post, h => by
    have : old = [] := List.eq_nil_of_length_eq_zero h
    subst this; rfl
  | v :: r, pre, [], post, h => by cases h
  | v :: r, pre, u :: old, post, h => by
    have ih := putAt_mid r (pre ++ [v]) old post (by simpa using h)
    rw [List.length_append, List.length_singleton] at ih
    have e : (pre ++ (u :: old ++ post)).toArray.setIfInBounds pre.length v = (pre ++ [v] ++ (old ++ post)).toArray := by
      rw [List.setIfInBounds_toArray, List.set_append_right _ _ (Nat.le_refl _), Nat.sub_self]
      simp
    rw [putAt, e, ih]
    simp
theorem putAt_low : ∀ (vs : List Value) (o : Nat) (cur : Array Value) (k : Nat), k ≤ o → (putAt cur o vs).toList.take k = cur.toList.take k
  | [], _, _, _, _ => rfl
  | v :: r, o, cur, k, h => by
    rw [putAt, putAt_low r (o + 1) _ k (by omega), Array.toList_setIfInBounds, List.take_set_of_le h]
theorem heap_setCells (b : Nat) (T : TypeId) (fr : Nat × Nat) : ∀ (vs : List Value) (o : Nat) (w : World) (cur : Array Value), w.heap[b]? = some (.cells cur T fr) → (w.setCells b o vs).heap[b]? = some (.cells (putAt cur o vs) T fr)
  | [], _, _, _, h => h
  | v :: r, o, w, cur, h => by
    rw [World.setCells, putAt]
    refine heap_setCells b T fr r (o + 1) _ _ ?_
    simp [World.setCell, Array.getElem?_modify, h]
theorem below_setCells {B b : Nat} (hB : B ≤ b) : ∀ (vs : List Value) (o : Nat) (w : World), Below B w (w.setCells b o vs)
  | [], _, w => Below.refl B w
  | v :: r, o, w => by
    rw [World.setCells]
    exact ((Below.refl B w).setCell (p := ⟨b, o, none⟩) hB v).trans (below_setCells hB r (o + 1) _)
theorem run_clear_cells {P : Program} (w : World) (t e ty : TypeId) (z : Value) (ht : P.underlying t = some (.slice e)) (hv : ∀ w, (zeroValue e).run P w = .ok z w) (b o n c : Nat) (hn : 0 < n)
    (h1 : ∀ u ∈ (Builtin.zeroCells z.cells n).toList, u.oneCell' = true) (hc : ∀ j, j < (Builtin.zeroCells z.cells n).size → (w.cell? ⟨b, o + j, none⟩).isSome = true ∧ w.frozen? ⟨b, o + j, none⟩ = false) :
    (Builtin.clear_ #[t] ty #[.slice (some ⟨b, o, none⟩) n c]).run P w = .ok (.tuple #[]) (w.setCells b o (Builtin.zeroCells z.cells n).toList) := by
  have hst := run_storeCells_cells (P := P) b o (Builtin.zeroCells z.cells n).toList 0 w (fun j hj => (hc j (by simpa using hj)).1) (fun j hj => (hc j (by simpa using hj)).2) h1
  simp only [Nat.add_zero] at hst
  obtain ⟨m, rfl⟩ : ∃ m, n = m + 1 := ⟨n - 1, by omega⟩
  simp [Builtin.clear_, run_underlying ht, hv, hst]
theorem flat_set {l : List Tp} {i : Nat} {x : Tp} (h : i < l.length) : (l.set i x).flatMap tpL = (l.take i).flatMap tpL ++ (tpL x ++ (l.drop (i + 1)).flatMap tpL) := by
  rw [List.set_eq_take_append_cons_drop, if_pos h, List.flatMap_append, List.flatMap_cons]
theorem flat_split {l : List Tp} {i : Nat} {y : Tp} (h : l[i]? = some y) : l.flatMap tpL = (l.take i).flatMap tpL ++ (tpL y ++ (l.drop (i + 1)).flatMap tpL) := by
  conv => lhs; rw [← List.take_append_drop i l, drop_cons_of h]
  rw [List.flatMap_append, List.flatMap_cons]
theorem take_flat (l : List Tp) (k : Nat) : (l.flatMap tpL).take (k * 12) = (l.take k).flatMap tpL := by
  have e : l.flatMap tpL = (l.take k).flatMap tpL ++ (l.drop k).flatMap tpL := by rw [← List.flatMap_append, List.take_append_drop]
  by_cases h : k ≤ l.length
  · rw [e, List.take_left' (by rw [tpL_len, List.length_take, Nat.min_eq_left h])]
  · rw [List.take_of_length_le (by rw [tpL_len]; omega), List.take_of_length_le (by omega)]
theorem putAt_row {l : List Tp} {rest : List Value} {i : Nat} {x : Tp} (h : i < l.length) : putAt (l.flatMap tpL ++ rest).toArray (i * 12) (tpL x) = ((l.set i x).flatMap tpL ++ rest).toArray := by
  have hy : l[i]? = some l[i] := List.getElem?_eq_getElem h
  have hp := putAt_mid (tpL x) ((l.take i).flatMap tpL) (tpL l[i]) ((l.drop (i + 1)).flatMap tpL ++ rest) rfl
  rw [tpL_len, List.length_take, Nat.min_eq_left (by omega)] at hp
  rw [flat_split hy, flat_set h]
  simpa only [List.append_assoc] using hp
/-- The triples l lie in block g from its head on, then rest. -/
def RowTp (g : Nat) (l : List Tp) (rest : List Value) (w : World) : Prop := w.heap[g]? = some (.cells (l.flatMap tpL ++ rest).toArray 29 (0, 0))
theorem RowTp.store {g : Nat} {l : List Tp} {rest : List Value} {w : World} (h : RowTp g l rest w) {i : Nat} (hi : i < l.length) (x : Tp) : RowTp g (l.set i x) rest (w.setCells g (i * 12) (tpL x)) := by
  have := heap_setCells g _ _ (tpL x) (i * 12) w _ h
  rw [putAt_row hi] at this
  exact this
theorem RowTp.rd {g : Nat} {l : List Tp} {rest : List Value} {w : World} (h : RowTp g l rest w) : Rd w (some ⟨g, 0, none⟩) (l.flatMap tpL) := by
  refine .inr ⟨g, 0, rfl, fun j u hu => ?_⟩
  rw [Lib.cell_of_heap h, Nat.zero_add, List.getElem?_toArray, List.getElem?_append_left (List.getElem?_eq_some_iff.1 hu).1]
  exact hu
theorem RowTp.lt {g : Nat} {l : List Tp} {rest : List Value} {w : World} (h : RowTp g l rest w) : g < w.heap.size := (Array.getElem?_eq_some_iff.1 h).1
theorem RowTp.frozen {g : Nat} {l : List Tp} {rest : List Value} {w : World} (h : RowTp g l rest w) (i : Nat) : w.frozen? ⟨g, i, none⟩ = false := Lib.frozen_of_heap h i
theorem RowTp.there {g : Nat} {l : List Tp} {rest : List Value} {w : World} (h : RowTp g l rest w) {o n : Nat} (hn : o + n ≤ l.length * 12) : w.there g o n := fun j hj => by
  refine ⟨?_, h.frozen _⟩
  rw [Lib.cell_of_heap h, List.getElem?_toArray, List.getElem?_eq_getElem (by rw [List.length_append, tpL_len]; omega)]
  rfl
theorem RowTp.at12 {g : Nat} {l : List Tp} {rest : List Value} {w : World} (h : RowTp g l rest w) {i : Nat} {t : Tp} (ht : l[i]? = some t) :
    w.cell? ⟨g, i * 12, none⟩ = some (.int .i64 t.s.k) ∧ w.cell? ⟨g, i * 12 + 1, none⟩ = some (.string t.s.x) ∧ w.cell? ⟨g, i * 12 + 2, none⟩ = some (.string t.s.l) ∧ w.cell? ⟨g, i * 12 + 3, none⟩ = some (.string t.s.y) ∧ w.cell? ⟨g, i * 12 + 4, none⟩ = some (.int .i64 t.p.k) ∧ w.cell? ⟨g, i * 12 + 5, none⟩ = some (.string t.p.x) ∧ w.cell? ⟨g, i * 12 + 6, none⟩ = some (.string t.p.l) ∧ w.cell? ⟨g, i * 12 + 7, none⟩ = some (.string t.p.y) ∧ w.cell? ⟨g, i * 12 + 8, none⟩ = some (.int .i64 t.o.k) ∧ w.cell? ⟨g, i * 12 + 9, none⟩ = some (.string t.o.x) ∧ w.cell? ⟨g, i * 12 + 10, none⟩ = some (.string t.o.l) ∧ w.cell? ⟨g, i * 12 + 11, none⟩ = some (.string t.o.y) := by
  obtain ⟨g', o, he, h⟩ := rd_at12 h.rd ht
  injection he with he; injection he with h5 h6; subst h5; subst h6
  simpa only [Nat.zero_add] using h
/-- A row of the call's own, known whole. -/
theorem RowTp.of_own {w : World} {base n : Nat} {v : Value} {l : List Tp} (h : w.ownsRow base 29 12 v n (l.flatMap tpL)) : (v = .slice none 0 0 ∧ l = []) ∨ ∃ g cap rest, v = .slice (some ⟨g, 0, none⟩) n cap ∧ base ≤ g ∧ RowTp g l rest w ∧ n ≤ cap ∧ cap ≤ maxLen ∧ l.length = n ∧ rest.length = (cap - n) * 12 := by
  have hl := h.1
  rw [tpL_len] at hl
  rcases h.2 with ⟨rfl, h0⟩ | ⟨g, cap, cur, rfl, hg, hh, hn, hm, hs, ht⟩
  · subst h0
    exact .inl ⟨rfl, List.eq_nil_of_length_eq_zero (by omega)⟩
  · refine .inr ⟨g, cap, cur.toList.drop (n * 12), rfl, hg, ?_, hn, hm, by omega, by simp [hs]; omega⟩
    unfold RowTp
    rw [← ht, List.take_append_drop, Array.toArray_toList]
    exact hh
theorem RowTp.own {w : World} {base g cap k : Nat} {l : List Tp} {rest : List Value} (h : RowTp g l rest w) (hb : base ≤ g) (hk : k ≤ l.length) (hc : (l.length * 12 + rest.length) = cap * 12) (hm : cap ≤ maxLen) :
    w.ownsRow base 29 12 (.slice (some ⟨g, 0, none⟩) k cap) k ((l.take k).flatMap tpL) := by
  refine ⟨by rw [tpL_len, List.length_take, Nat.min_eq_left hk], .inr ⟨g, cap, _, rfl, hb, h, by omega, hm, by simp only [List.size_toArray, List.length_append, tpL_len]; omega, ?_⟩⟩
  rw [List.take_append_of_le_length (by rw [tpL_len]; omega), take_flat]
/-- Its end cleared. -/
theorem RowTp.cleared {w : World} {base g cap k : Nat} {l : List Tp} {rest vs : List Value} (h : RowTp g l rest w) (hb : base ≤ g) (hk : k ≤ l.length) (hc : (l.length * 12 + rest.length) = cap * 12) (hm : cap ≤ maxLen) :
    (w.setCells g (k * 12) vs).ownsRow base 29 12 (.slice (some ⟨g, 0, none⟩) k cap) k ((l.take k).flatMap tpL) := by
  refine ⟨by rw [tpL_len, List.length_take, Nat.min_eq_left hk], .inr ⟨g, cap, _, rfl, hb, heap_setCells g _ _ vs (k * 12) w _ h, by omega, hm, by rw [putAt_size]; simp only [List.size_toArray, List.length_append, tpL_len]; omega, ?_⟩⟩
  rw [putAt_low _ _ _ _ (Nat.le_refl _), List.take_append_of_le_length (by rw [tpL_len]; omega), take_flat]
/-- Where a walk is to stop. -/
def Stay (p : Prop) : Prop := p
theorem stay {p : Prop} (h : Stay p) : p := h
theorem tp_size : (Tryz.prog.info? 29).map (·.size) = some 12 := by kernel_rfl
theorem tpC_one (t : Tp) : (tpC t).all (·.oneCell') = true := all_oneCell_toArray (tpL_one t)
/-- A triple stored at its place of a row. -/
theorem wpList_store_tp {w : World} {ops : Array Oper} {rest : List Oper} {op : Oper} {a : Act} {Q : Exit → Act → World → Prop} (hgd : op.guard = none) (x y : Operand) (ho : op.op = .store 29 x y)
    (g k : Nat) (t : Tp) (hx : a.eval x = .pointer (some ⟨g, k * 12, none⟩)) (hy : a.eval y = tpA t) (ht : w.there g (k * 12) 12)
    (h : wpList Tryz.prog ops Q rest (a.put op.dst undef) (w.setCells g (k * 12) (tpL t))) : wpList Tryz.prog ops Q (op :: rest) a w :=
  wpList_store_mid hgd 29 x y ho g (k * 12) (tpC t) hx hy ht tp_size (tpC_one t) h
end Go.Proofs.YthdlepalglgmoaaGreatDoor
