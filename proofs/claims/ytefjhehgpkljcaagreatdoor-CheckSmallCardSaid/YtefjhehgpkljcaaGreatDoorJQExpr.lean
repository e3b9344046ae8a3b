/- The program's package query, walked: Expr. -/
import Derived.Test.YtefjhehgpkljcaaGreatDoorJQRules
import Derived.Test.YtefjhehgpkljcaaGreatDoorJQPart2
import Derived.RangeFuncNested
namespace Go.Proofs.YtefjhehgpkljcaaGreatDoor
open Go Go.RowKit Go.Maps Go.ChangeMaps Go.Shelf Um Fm
attribute [local go_sem] Oper.semAt_some

/-- A condition is right: no more than 40 parts, each as it must be. -/
def partsB (l : List Pt) : Bool := l.all fun p => partB p.1 p.2
theorem partsB_nil : partsB [] = true := rfl
theorem partsB_app (l m : List Pt) : partsB (l ++ m) = (partsB l && partsB m) := List.all_append
theorem partsB_one (n : Nat) (x : ExT n) : partsB [⟨n, x⟩] = partB n x := by simp [partsB]
def exprB (n : Nat) (x : ExT n) : Bool := decide ((preE n x).length ≤ 40) && partsB (preE n x)
theorem keeps_of_below {B : Nat} {W W' : World} (h : Below W.heap.size W W') : KeepsFrom B W W' :=
  ⟨h.size, fun k o _ hk _ => by rw [h.block k (Array.getElem?_eq_some_iff.1 hk).1]; exact hk⟩
/-- What lies between two rounds of Expr. -/
structure ExprI (w : World) (bn r : Nat) (k : Nat) (W : World) : Prop where
  n : W.cell? ⟨bn, 0, none⟩ = some (.int .i64 k)
  fn : W.frozen? ⟨bn, 0, none⟩ = false
  res : (W.cell? ⟨w.heap.size + 1, 0, none⟩).isSome = true
  fres : W.frozen? ⟨w.heap.size + 1, 0, none⟩ = false
  all : W.cell? ⟨bn + 1, 0, none⟩ = some (.map (some r))
  m : MapOf W .i64 r rulesL
  below : Below w.heap.size w W
theorem exprI_own {w : World} {bn r k : Nat} {S : Nat} (hrS : r < S) (_hbn : bn < S) {A B : World} {row : Option Nat} (h : ExprI w bn r k A) (hg : A.grownBy B row) (hr : ∀ q, row = some q → S ≤ q ∧ ∃ o : Obj, A.heap[q]? = some o ∧ o.isCells = false) (hwS : w.heap.size ≤ S := by omega) : ExprI w bn r k B := by
  have hr2 : ∀ q, row = some q → ∃ o : Obj, A.heap[q]? = some o ∧ o.isCells = false := fun q e => (hr q e).2
  obtain ⟨v, hv⟩ := Option.isSome_iff_exists.1 h.res
  refine ⟨cell_kept h.n hg hr2, (frozen_kept h.n hg hr2).trans h.fn, by rw [cell_kept hv hg hr2]; rfl, (frozen_kept hv hg hr2).trans h.fres, cell_kept h.all hg hr2, ?_, h.below.grown hg h.below.size fun q e => by have := (hr q e).1; omega⟩
  obtain ⟨es, cl, h1, h2⟩ := h.m
  refine ⟨es, cl, ?_, h2⟩
  rw [hg.block r (Array.getElem?_eq_some_iff.1 h1).1 (fun e => by have := (hr r e.symm).1; omega)]; exact h1
theorem exprI_later {w : World} {bn r k : Nat} {A B : World} (h : ExprI w bn r k A) (hb : Below A.heap.size A B) : ExprI w bn r k B := by
  obtain ⟨v, hv⟩ := Option.isSome_iff_exists.1 h.res
  exact ⟨cell_on h.n hb, by rw [hb.frozen (cell_lt h.n)]; exact h.fn, by rw [cell_on hv hb]; rfl, by rw [hb.frozen (cell_lt hv)]; exact h.fres, cell_on h.all hb, h.m.later hb, below_tr h.below hb⟩
theorem exprI_set {w : World} {bn r k : Nat} {W : World} (h : ExprI w bn r k W) (h1 : w.heap.size + 1 < bn) (h2 : r ≠ bn) : ExprI w bn r (k + 1) (W.setCell ⟨bn, 0, none⟩ (.int .i64 ((k : Int) + 1))) := by
  have hne : ∀ j, j ≠ bn → (W.setCell ⟨bn, 0, none⟩ (.int .i64 ((k : Int) + 1))).heap[j]? = W.heap[j]? := fun j hj => Below.heap_setCell _ _ _ j hj
  refine ⟨by rw [World.cell?_setCell_same' _ _ _ (by rw [h.n]; rfl)]; simp, by rw [World.frozen?_setCell]; exact h.fn, ?_, by rw [World.frozen?_setCell]; exact h.fres, ?_, ?_, h.below.setCell (p := ⟨bn, 0, none⟩) (by simp; omega) _⟩
  · rw [World.cell?, hne _ (by simp; omega)]; exact h.res
  · rw [World.cell?, hne _ (by simp)]; exact h.all
  · obtain ⟨es, cl, h1, h2'⟩ := h.m
    exact ⟨es, cl, by rw [hne _ h2]; exact h1, h2'⟩
theorem Kb.grown {h : Nat → Obj → Bool} {S : Nat} {w A B : World} {row : Option Nat} (k : Kb h S w A) (hg : A.grownBy B row) (hr : ∀ q, row = some q → S ≤ q ∧ ∃ o : Obj, A.heap[q]? = some o ∧ o.isCells = false) (_hwA : S ≤ w.heap.size := by exact Nat.le_refl _) : Kb h S w B := by
  refine k.trans (.of_blocks (fun i o ho _ hor => ?_) hg.size)
  rw [hg.block i (Array.getElem?_eq_some_iff.1 ho).1 ?_]; exact ho
  intro e
  obtain ⟨h1, q, hq, hc⟩ := hr i e.symm
  rcases hor with h2 | h2
  · rw [ho] at hq; cases hq; rw [hc] at h2; cases h2
  · omega
set_option maxRecDepth 100000 in
set_option maxHeartbeats 4000000 in
theorem qExpr (n : Nat) (x : ExT n) (cs : List Value) (w : World) (hC : Ctx w) (hr : RdE n w cs x) (hz : szX n x) :
    Calls Tryz.prog 118 #[.agg cs.toArray] w fun e w' => e = .returned (.bool (exprB n x)) ∧ Below w.heap.size w w' := by
  obtain ⟨k, s, t, A, m, c, rfl, _⟩ := rd_spell hr
  refine (callsIn_wide (n := 6)).1 ?_
  generalize hF : Fence.wide = F
  have hd : F.depth = none := by rw [← hF]; rfl
  have hfn : ∀ k, F.fn k := by rw [← hF]; exact fun _ => trivial
  have hro : F.round = none := by rw [← hF]; rfl
  have hpl : ∀ {m : Nat} {f : FuncId} {args : Array Value} {W : World} {R : Ending → World → Prop}, Calls Tryz.prog f args W R → CallsIn F m Tryz.prog f args W R := by rw [← hF]; exact fun h => callsIn_wide.2 h
  have hdd : ∀ k : Nat, (F.depth.isSome = true → 1 ≤ k) := fun k h => by rw [hd] at h; cases h
  have h4 := hfn 156
  have h0 := hfn 118
  have h5 := hfn 184
  have h6 := hfn 185
  have h7 := hfn 164
  have h8 := hfn 165
  clear hF hfn
  refine callsIn_of_wp_marks Tryz.func118 rfl h0 ?_ hro
  simp only [Tryz.ntmps118, List.size_toArray, List.length_cons, List.length_nil, Nat.reduceAdd, Nat.reduceSub, Array.replicate_succ, Array.replicate_zero, List.push_toArray, List.append_toArray, List.nil_append, List.cons_append]
  gi_wp2_with (first
    | ((try refine ⟨hdd _, ?_⟩); gi_at_call 164; refine (hpl (qRules _)).mono ?_; rintro e w1 ⟨r, rfl, hM1, hr1, hb1⟩; obtain ⟨hc1, hf1⟩ := bcell hb1; have hz1 : w.heap.size + 1 < w1.heap.size := (by have := hb1.size; simp at this; omega); have hz0 : w.heap.size < w1.heap.size := (by omega); have hz2 : w.heap.size < w1.heap.size + 1 := (by omega); have hz3 : w.heap.size < w1.heap.size + 1 + 1 := (by omega))
    | ((try refine ⟨hdd _, ?_⟩); gi_at_call 156; refine (qParts_in F _ h4 hro _ _ _ _).mono ?_; rintro e w' ⟨rfl, rfl⟩))
  have hb01 : Below w.heap.size w w1 := (((Below.refl _ w).alloc (Nat.le_refl _) _).alloc (by simp) _).trans (hb1.mono (by simp; omega))
  obtain ⟨W1, hW1⟩ : ∃ W : World, (((w1.alloc (.cells #[.int .i64 0] 3)).alloc (.cells #[.map (some r)] 183)).alloc (.cells #[.int .i64 k, .string s, .int .i64 t.k, .string t.x, .string t.l, .string t.y, .slice A m c] 31)).alloc (.cells #[.slice (some ⟨w1.heap.size + 1 + 1, 0, none⟩) 1 1] 29) = W := ⟨_, rfl⟩
  have hsz : W1.heap.size = w1.heap.size + 1 + 1 + 1 + 1 := by rw [← hW1]; simp
  have hB1 : Below w1.heap.size w1 W1 := by rw [← hW1]; exact (by repeat (first | exact Below.refl _ _ | assumption | exact (Below.refl _ _).alloc (Nat.le_refl _) _ | refine below_tr ?_ (by assumption) | refine below_alloc ?_ | refine below_tr ?_ (below_regrown _ _ _)))
  have g0 : W1.heap[w1.heap.size]? = some (.cells #[.int .i64 0] 3 (0, 0)) := by
    rw [← hW1, Below.heap_alloc _ _ _ (by simp; omega), Below.heap_alloc _ _ _ (by simp; omega)]; exact heap_two_1 w1 _ _
  have g1 : W1.heap[w1.heap.size + 1]? = some (.cells #[.map (some r)] 183 (0, 0)) := by
    rw [← hW1, Below.heap_alloc _ _ _ (by simp), Below.heap_alloc _ _ _ (by simp)]; exact heap_two_2 w1 _ _
  have g2 : W1.heap[w1.heap.size + 1 + 1]? = some (.cells #[.int .i64 k, .string s, .int .i64 t.k, .string t.x, .string t.l, .string t.y, .slice A m c] 31 (0, 0)) := by
    rw [← hW1, Below.heap_alloc _ _ _ (by simp)]
    have := heap_alloc_new ((w1.alloc (.cells #[.int .i64 0] 3)).alloc (.cells #[.map (some r)] 183)) (.cells #[.int .i64 k, .string s, .int .i64 t.k, .string t.x, .string t.l, .string t.y, .slice A m c] 31)
    simpa using this
  have g3 : W1.heap[w1.heap.size + 1 + 1 + 1]? = some (.cells #[.slice (some ⟨w1.heap.size + 1 + 1, 0, none⟩) 1 1] 29 (0, 0)) := by
    rw [← hW1]
    have := heap_alloc_new (((w1.alloc (.cells #[.int .i64 0] 3)).alloc (.cells #[.map (some r)] 183)).alloc (.cells #[.int .i64 k, .string s, .int .i64 t.k, .string t.x, .string t.l, .string t.y, .slice A m c] 31)) (.cells #[.slice (some ⟨w1.heap.size + 1 + 1, 0, none⟩) 1 1] 29)
    simpa using this
  have hres1 : w1.cell? ⟨w.heap.size + 1, 0, none⟩ = some (.bool false) := by
    rw [hb1.cell (p := ⟨w.heap.size + 1, 0, none⟩) (by simp), World.cell?, heap_two_2]; rfl
  have hfres1 : w1.frozen? ⟨w.heap.size + 1, 0, none⟩ = false := by
    rw [hb1.frozen (p := ⟨w.heap.size + 1, 0, none⟩) (by simp), World.frozen?, heap_two_2]; rfl
  have hI0 : ExprI w w1.heap.size r 0 W1 := ⟨by rw [World.cell?, g0]; rfl, by simp [World.frozen?, g0], by rw [cell_on hres1 hB1]; rfl, by rw [hB1.frozen (p := ⟨w.heap.size + 1, 0, none⟩) hz1]; exact hfres1, by rw [World.cell?, g1]; rfl, hM1.later hB1, below_tr hb01 hB1⟩
  have hcm : CM w (wo (fun k _ => k == w.heap.size + 1 || k == w1.heap.size) W1) := fun p u hp => wo_cellN.2 ⟨cell_on hp hI0.below, by have := cell_lt hp; simp; omega⟩
  have hrs : RdEs n (wo (fun k _ => k == w.heap.size + 1 || k == w1.heap.size) W1) (some ⟨w1.heap.size + 1 + 1, 0, none⟩) [x] := by
    refine ⟨[.int .i64 k, .string s, .int .i64 t.k, .string t.x, .string t.l, .string t.y, .slice A m c], .inr ⟨w1.heap.size + 1 + 1, 0, rfl, fun j u hu => wo_cellN.2 ⟨?_, by simp; omega⟩⟩, All.one rfl (hr.cm hcm)⟩
    rw [World.cell?, g2]
    simpa using hu
  have hbx : (wo (fun k _ => k == w.heap.size + 1 || k == w1.heap.size) W1).cell? ⟨w1.heap.size + 1 + 1 + 1, 0, none⟩ = some (.slice (some ⟨w1.heap.size + 1 + 1, 0, none⟩) 1 1) := wo_cellN.2 ⟨by rw [World.cell?, g3]; rfl, by simp; omega⟩
  have hs := qParts_stops F hd h5 h6 hro (fun k _ => k == w.heap.size + 1 || k == w1.heap.size) (6 - 1) n W1 (fun k _ _ hk => by simp; omega) szX (fun n k s t kids h => ⟨h.2.2.1, h.2.2.2⟩) [x] (some ⟨w1.heap.size + 1 + 1, 0, none⟩) 1 (w1.heap.size + 1 + 1 + 1) hrs (by simp) (by simpa using hz) hbx
  have hrw : r < w1.heap.size := by
    obtain ⟨es, cl, h, _⟩ := hM1
    exact (Array.getElem?_eq_some_iff.1 h).1
  have hrS : r < W1.heap.size := by omega
  simp only [hW1]
  have HW := Lib.hid hW1
  have Hsz := Lib.hid hsz
  have hbn : w1.heap.size < W1.heap.size := by omega
  have hfl : [x].flatMap (preE n) = preE n x := by simp
  rw [hfl] at hs
  clear hW1 hrs hbx hcm g0 g1 g2 g3 hfl hres1 hfres1 hc1 hf1 hM1 hsz
  refine wpIn_rangeFunc_ownH hro (by omega) (gf := 184) (lb := #[.pointer (some ⟨w1.heap.size + 1 + 1 + 1, 0, none⟩)]) rfl h5 (enters_of Tryz.func184 (by kernel_rfl) rfl)
    hs (fun h k => h.trans k) (fun W l o o' hl ho hc _ => Kb.put hl ho hc) (Below.refl _ _) (fun _ => rfl)
    (fun pre W => ExprI w w1.heap.size r pre.length W ∧ Kb (fun k _ => k == w.heap.size + 1 || k == w1.heap.size) W1.heap.size W1 W ∧ pre.length ≤ 40 ∧ partsB (pts pre) = true)
    (fun cc pre W => cc = .ret ∧ W.cell? ⟨w.heap.size + 1, 0, none⟩ = some (.bool false) ∧ Below w.heap.size w W ∧ (40 < pre.length ∨ partsB (pts pre) = false))
    (fun s A B row hs hg hr => ⟨exprI_own hrS hbn hs.1 hg hr (by have := hI0.below.size; omega), hs.2.1.grown hg hr, hs.2.2⟩)
    (fun c s A B row hs hg hr => ⟨hs.1, cell_kept hs.2.1 hg (fun q e => (hr q e).2), hs.2.2.1.grown hg (Nat.le_trans (Nat.le_refl _) hs.2.2.1.size) (fun q e => by have := (hr q e).1; have := hI0.below.size; omega), hs.2.2.2⟩)
    ⟨hI0, Kb.refl _ _ _, by simp, rfl⟩
    (fun a a' W => ∃ (Bx : Nat) (k' : Int) (s' : ByteArray) (t' : Tm) (A' : Option Addr) (m' c' : Nat), a.cs = [.int .i64 k', .string s', .int .i64 t'.k, .string t'.x, .string t'.l, .string t'.y, .slice A' m' c'] ∧ W.heap[Bx]? = some (.cells #[.int .i64 k', .string s', .int .i64 t'.k, .string t'.x, .string t'.l, .string t'.y, .slice A' m' c'] 31 (0, 0)) ∧ W1.heap.size ≤ Bx ∧
      a' = { tmps := #[.agg #[.int .i64 k, .string s, .int .i64 t.k, .string t.x, .string t.l, .string t.y, .slice A m c], .pointer (some ⟨w.heap.size, 0, none⟩), .pointer (some ⟨w.heap.size + 1, 0, none⟩), .pointer (some ⟨w1.heap.size, 0, none⟩), .pointer (some ⟨w1.heap.size + 1, 0, none⟩), .pointer (some ⟨Bx, 0, none⟩), .map (some r), .agg #[.int .i64 k, .string s, .int .i64 t.k, .string t.x, .string t.l, .string t.y, .slice A m c], .slice (some ⟨w1.heap.size + 1 + 1, 0, none⟩) 1 1, .func (.func 184) #[] #[.pointer (some ⟨w1.heap.size + 1 + 1 + 1, 0, none⟩)], .agg #[.int .i64 k', .string s', .int .i64 t'.k, .string t'.x, .string t'.l, .string t'.y, .slice A' m' c'], undef, undef, undef, undef, undef, undef, undef, undef, undef, undef], defers := [] })
    ?hAx ?assign ?body ?done ?stop
  case hAx =>
    rintro a a' _ A B row ⟨Bx, k', s', t', A', m', c', h1, h2, h3, h4⟩ hg hr
    refine ⟨Bx, k', s', t', A', m', c', h1, ?_, h3, h4⟩
    rw [hg.block Bx (Array.getElem?_eq_some_iff.1 h2).1 (fun e => by obtain ⟨_, o, ho, hoc⟩ := hr Bx e.symm; rw [h2] at ho; cases ho; cases hoc)]; exact h2
  case assign =>
    rintro l pre a W K ⟨hi, hk, hlen, hall⟩ hK
    have e : ∀ (b : Array Value) (v : Value), (#[10].zip #[v]).foldl (fun t (p, v) => t.setIfInBounds p v) b = b.setIfInBounds 10 v := fun b v => by simp
    rw [e]
    obtain ⟨k', s', t', A', m', c', hcs, _⟩ := rd_spell a.rd
    have hB2 : Below W.heap.size W (W.alloc (.cells #[.int .i64 k', .string s', .int .i64 t'.k, .string t'.x, .string t'.l, .string t'.y, .slice A' m' c'] 31)) := (by repeat (first | exact Below.refl _ _ | assumption | exact (Below.refl _ _).alloc (Nat.le_refl _) _ | refine below_tr ?_ (by assumption) | refine below_alloc ?_ | refine below_tr ?_ (below_regrown _ _ _)))
    have hfin := fun a' h => hK a' (W.alloc (.cells #[.int .i64 k', .string s', .int .i64 t'.k, .string t'.x, .string t'.l, .string t'.y, .slice A' m' c'] 31)) (keeps_of_below hB2) (Kb.of_below hB2 hk.size) ⟨exprI_later hi hB2, hk.trans (Kb.of_below hB2 hk.size), hlen, hall⟩ ⟨W.heap.size, k', s', t', A', m', c', hcs, heap_alloc_new _ _, hk.size, h⟩
    have Hfin := Lib.hid hfin
    rw [hcs]
    clear hK hi hall hfin hk hB2
    gi_wp2
    exact Hfin.out _ rfl
  case body =>
    rintro l pre a a' W hl ⟨rr, hrr⟩ ⟨hi, hk, hlen, hall⟩ ⟨Bx, k', s', t', A', m', c', hcs, hbx, hBx, rfl⟩ hN
    have c0 := hi.n
    have c1 := hi.fn
    have c2 := hi.all
    have c3 := hi.fres
    obtain ⟨v0, c4⟩ := Option.isSome_iff_exists.1 hi.res
    have hlen' : (pre.length : Int) ≤ 40 := by omega
    have hwb : w.heap.size ≤ w1.heap.size := by omega
    have hBw : Below w.heap.size w (W.setCell ⟨w1.heap.size, 0, none⟩ (.int .i64 ((pre.length : Int) + 1))) := hi.below.setCell (p := ⟨w1.heap.size, 0, none⟩) hwb _
    have hkw : Kb (fun k _ => k == w.heap.size + 1 || k == w1.heap.size) W1.heap.size W (W.setCell ⟨w1.heap.size, 0, none⟩ (.int .i64 ((pre.length : Int) + 1))) := Kb.set _ (by simp)
    have hra : RdE a.n (W.setCell ⟨w1.heap.size, 0, none⟩ (.int .i64 ((pre.length : Int) + 1))) a.cs a.x := a.rd.cm ((hk.trans hkw).cells.trans fun p u h => (wo_cell.1 h).1)
    have hMw : MapOf (W.setCell ⟨w1.heap.size, 0, none⟩ (.int .i64 ((pre.length : Int) + 1))) .i64 r rulesL := by
      obtain ⟨es, cl, h1, h2⟩ := hi.m
      exact ⟨es, cl, by rw [Below.heap_setCell _ _ _ r (by simp; omega)]; exact h1, h2⟩
    have hq := qPart a.n a.x a.cs r _ (hC.step hBw) hra a.z hMw
    rw [hcs] at hq
    have hBn : w1.heap.size < Bx := by omega
    have b0 : W.cell? ⟨Bx, 0, none⟩ = some (.int .i64 k') := by rw [World.cell?, hbx]; rfl
    have b1 : W.cell? ⟨Bx, 1, none⟩ = some (.string s') := by rw [World.cell?, hbx]; rfl
    have b2 : W.cell? ⟨Bx, 2, none⟩ = some (.int .i64 t'.k) := by rw [World.cell?, hbx]; rfl
    have b3 : W.cell? ⟨Bx, 3, none⟩ = some (.string t'.x) := by rw [World.cell?, hbx]; rfl
    have b4 : W.cell? ⟨Bx, 4, none⟩ = some (.string t'.l) := by rw [World.cell?, hbx]; rfl
    have b5 : W.cell? ⟨Bx, 5, none⟩ = some (.string t'.y) := by rw [World.cell?, hbx]; rfl
    have b6 : W.cell? ⟨Bx, 6, none⟩ = some (.slice A' m' c') := by rw [World.cell?, hbx]; rfl
    have e4 : (W.setCell ⟨w1.heap.size, 0, none⟩ (.int .i64 ((pre.length : Int) + 1))).cell? ⟨w.heap.size + 1, 0, none⟩ = some v0 := by rw [World.cell?, Below.heap_setCell _ _ _ _ (by simp; omega)]; exact c4
    have e3 : (W.setCell ⟨w1.heap.size, 0, none⟩ (.int .i64 ((pre.length : Int) + 1))).frozen? ⟨w.heap.size + 1, 0, none⟩ = false := by rw [World.frozen?_setCell]; exact c3
    obtain ⟨q, hqv⟩ : ∃ q, partB a.n a.x = q := ⟨_, rfl⟩
    rw [hqv] at hq
    have Hb := Lib.hid hbx
    have Hs := Lib.hid hBx
    clear hbx hBx
    have Hi := Lib.hid hi
    have Hk := Lib.hid hk
    have Hall := Lib.hid hall
    have HB := Lib.hid hBw
    have Hkw := Lib.hid hkw
    clear hi hk hall hra hMw hBw hkw
    gi_wp2_with ((try refine ⟨hdd _, ?_⟩); gi_at_call 165; refine (CallsIn.inRound l (hpl hq)).mono ?_; rintro e w' ⟨rfl, hb'⟩; have d4 := cell_on e4 hb'; have d3 := (hb'.frozen (p := ⟨w.heap.size + 1, 0, none⟩) (cell_lt e4)).trans e3)
    · rename_i h1 h2
      have hq0 : q = false := by
        cases q
        · rfl
        · rcases h2 with h | h
          · omega
          · cases h
      subst hq0
      have hB' := below_tr HB.out hb'
      refine ⟨((KeepsOthers.setCell _ _ _).from _).trans ((keeps_of_below hb').trans ((KeepsOthers.setCell _ _ _).from _)), rfl, World.cell?_setCell_same' _ _ _ (by rw [d4]; rfl), hB'.setCell (p := ⟨w.heap.size + 1, 0, none⟩) (by simp) _, .inr ?_⟩
      rw [pts_append, partsB_app]
      have : partsB (pts [a]) = false := by rw [← hqv]; exact partsB_one _ _
      rw [this, Bool.and_false]
    · have hq1 : q = true := by cases q <;> simp_all
      subst hq1
      have hsz' : W1.heap.size ≤ (W.setCell ⟨w1.heap.size, 0, none⟩ (.int .i64 ((pre.length : Int) + 1))).heap.size := Nat.le_trans Hk.out.size Hkw.out.size
      have hkk := Hkw.out.trans (Kb.of_below hb' hsz')
      refine ⟨((KeepsOthers.setCell _ _ _).from _).trans (keeps_of_below hb'), hkk, ?_, Hk.out.trans hkk, by simp; omega, ?_⟩
      · rw [List.length_append]
        exact exprI_later (exprI_set Hi.out (by omega) (by omega)) hb'
      · rw [pts_append, partsB_app, Hall.out]
        have : partsB (pts [a]) = true := by rw [← hqv]; exact partsB_one _ _
        rw [this, Bool.and_true]
    · rename_i hgt
      refine ⟨((KeepsOthers.setCell _ _ _).from _).trans ((KeepsOthers.setCell _ _ _).from _), rfl, World.cell?_setCell_same' _ _ _ (by rw [e4]; rfl), HB.out.setCell (p := ⟨w.heap.size + 1, 0, none⟩) (by simp) _, .inl ?_⟩
      simp; omega
  case done =>
    rintro D ys W hD hS ⟨hi, hk, hlen, hall⟩ hK
    have c3 := hi.fres
    obtain ⟨v0, c4⟩ := Option.isSome_iff_exists.1 hi.res
    have hB := Lib.hid hi.below
    have hv : exprB n x = true := by
      rw [exprB, ← hS, hall, pts_length]; simp [hlen]
    clear hi hk hall
    gi_wp2
    have hK2 := (KeepsOthers.setCell W ⟨w.heap.size + 1, 0, none⟩ (Value.bool true)).same D _ hK rfl
    refine ⟨by simp, .inl ⟨_, _, rfl, run_takeDeferred hK2, ?_⟩⟩
    have hc2 : (W.setCell ⟨w.heap.size + 1, 0, none⟩ (Value.bool true)).cell? ⟨w.heap.size + 1, 0, none⟩ = some (.bool true) := World.cell?_setCell_same' _ _ _ (by rw [c4]; rfl)
    have hc3 := cell_kept hc2 (grownBy_putObj' _ D (.deferred none)) (fun r e => by cases e; exact ⟨_, hK2, rfl⟩)
    refine ⟨.bool true, ?_, by rw [hv], (hB.out.setCell (p := ⟨w.heap.size + 1, 0, none⟩) (by simp) _).trans (belowK_b (w := w) (Nat.le_refl _) _ D _ _ (by omega) hK2 rfl rfl)⟩
    simp [results, Tryz.results118, go_sem, hc3]
  case stop =>
    rintro D cc pre W hD hS ⟨rfl, hc, hB, hbad⟩ hK
    have hv : exprB n x = false := by
      obtain ⟨rest, hrest⟩ := hS
      rw [exprB, ← hrest]
      rcases hbad with hb | hb
      · have : ¬ ((pts pre ++ rest).length ≤ 40) := by rw [List.length_append, pts_length]; omega
        rw [decide_eq_false this, Bool.false_and]
      · rw [partsB_app, hb]; simp
    have HB := Lib.hid hB
    clear hbad hB hS
    gi_wp2
    refine ⟨by simp, .inl ⟨_, _, rfl, run_takeDeferred hK, ?_⟩⟩
    have hc3 := cell_kept hc (grownBy_putObj' _ D (.deferred none)) (fun r e => by cases e; exact ⟨_, hK, rfl⟩)
    refine ⟨.bool false, ?_, by rw [hv], HB.out.trans (belowK_b (w := w) (Nat.le_refl _) _ D _ _ (by omega) hK rfl rfl)⟩
    simp [results, Tryz.results118, go_sem, hc3]
end Go.Proofs.YtefjhehgpkljcaaGreatDoor
