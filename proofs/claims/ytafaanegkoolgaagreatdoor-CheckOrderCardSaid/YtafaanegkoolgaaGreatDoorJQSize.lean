/- The program's package query, walked: Size. -/
import Derived.Test.YtafaanegkoolgaaGreatDoorJQWalk
import Derived.RangeFuncFrom
namespace Go.Proofs.YtafaanegkoolgaaGreatDoor
open Go Go.RowKit Go.Shelf Um Fm
attribute [local go_sem] Oper.semAt_some

theorem Kb.set {h : Nat → Obj → Bool} {S b : Nat} {w : World} {i : Nat} (v : Value) (h1 : ∀ o, h b o = true) : Kb h S w (w.setCell ⟨b, i, none⟩ v) := by
  have hne : ∀ k, k ≠ b → (w.setCell ⟨b, i, none⟩ v).heap[k]? = w.heap[k]? := fun k hk => Below.heap_setCell _ _ _ k hk
  refine .of_blocks (fun k o ho hn _ => ?_) (KeepsWalks.setCell w _ v).size
  rw [hne k (by intro e; rw [e, h1] at hn; cases hn)]; exact ho

set_option maxHeartbeats 1000000 in
theorem qParts_in (F : Fence) (m : Nat) (h4 : F.fn 66) (hro : F.round = none) (a : Option Addr) (len cap : Nat) (w : World) :
    CallsIn F m Tryz.prog 66 #[.slice a len cap] w fun e w' => e = .returned (.func (.func 134) #[] #[.pointer (some ⟨w.heap.size, 0, none⟩)]) ∧ w' = w.alloc (.cells #[.slice a len cap] 24) := by
  refine callsIn_of_wp Tryz.func66 rfl h4 ?_ hro
  simp only [Tryz.ntmps66, List.size_toArray, List.length_cons, List.length_nil, Nat.reduceAdd, Nat.reduceSub, Array.replicate_succ, Array.replicate_zero, List.push_toArray, List.append_toArray, List.nil_append, List.cons_append]
  gi_wp2
  go_ret
  exact ⟨rfl, rfl⟩

def SizeI (w : World) (b : Nat) (k : Nat) (W : World) : Prop := W.cell? ⟨b, 0, none⟩ = some (.int .i64 k) ∧ W.frozen? ⟨b, 0, none⟩ = false
set_option maxRecDepth 100000 in
set_option maxHeartbeats 2000000 in
theorem qSize (n : Nat) (x : ExT n) (cs : List Value) (w : World) (hr : RdE n w cs x) (hz : szE n x) (hN : (preE n x).length ≤ 4611686018427387904) :
    Calls Tryz.prog 16 #[.agg cs.toArray] w fun e w' => e = .returned (.int .i64 (preE n x).length) ∧ Below w.heap.size w w' := by
  have hcs : ∃ (k : Int) (s : ByteArray) (t : Tm) (A : Option Addr) (m c : Nat), cs = [.int .i64 k, .string s, .int .i64 t.k, .string t.x, .string t.l, .string t.y, .slice A m c] := by
    match n, x, hr with
    | n + 1, (k, s, t, kids), ⟨A, c, h, _⟩ => exact ⟨k, s, t, A, _, c, h⟩
  obtain ⟨k, s, t, A, m, c, rfl⟩ := hcs
  refine (callsIn_wide (n := 5)).1 ?_
  generalize hF : Fence.wide = F
  have hd : F.depth = none := by rw [← hF]; rfl
  have hfn : ∀ k, F.fn k := by rw [← hF]; exact fun _ => trivial
  have hro : F.round = none := by rw [← hF]; rfl
  have h4 := hfn 66
  have h0 := hfn 16
  have h5 := hfn 134
  have h6 := hfn 135
  clear hF hfn
  refine callsIn_of_wp_marks Tryz.func16 rfl h0 ?_ hro
  simp only [Tryz.ntmps16, List.size_toArray, List.length_cons, List.length_nil, Nat.reduceAdd, Nat.reduceSub, Array.replicate_succ, Array.replicate_zero, List.push_toArray, List.append_toArray, List.nil_append, List.cons_append]
  gi_wp2_with (gi_at_call 66; refine (qParts_in F _ h4 hro _ _ _ _).mono ?_; rintro e w' ⟨rfl, rfl⟩)
  obtain ⟨W1, hW1⟩ : ∃ W : World, (((w.alloc (.cells #[.int .i64 k, .string s, .int .i64 t.k, .string t.x, .string t.l, .string t.y, .slice A m c] 38)).alloc (.cells #[.int .i64 0] 3)).alloc (.cells #[.int .i64 k, .string s, .int .i64 t.k, .string t.x, .string t.l, .string t.y, .slice A m c] 38)).alloc (.cells #[.slice (some ⟨w.heap.size + 1 + 1, 0, none⟩) 1 1] 24) = W := ⟨_, rfl⟩
  have hsz : W1.heap.size = w.heap.size + 1 + 1 + 1 + 1 := by rw [← hW1]; simp
  have hB1 : Below w.heap.size w W1 := by rw [← hW1]; exact (by repeat (first | exact Below.refl _ _ | assumption | exact (Below.refl _ _).alloc (Nat.le_refl _) _ | refine below_tr ?_ (by assumption) | refine below_alloc ?_ | refine below_tr ?_ (below_regrown _ _ _)))
  have g1 : W1.heap[w.heap.size + 1]? = some (.cells #[.int .i64 0] 3 (0, 0)) := by
    rw [← hW1, Below.heap_alloc _ _ _ (by simp), Below.heap_alloc _ _ _ (by simp)]; exact heap_two_2 w _ _
  have g2 : W1.heap[w.heap.size + 1 + 1]? = some (.cells #[.int .i64 k, .string s, .int .i64 t.k, .string t.x, .string t.l, .string t.y, .slice A m c] 38 (0, 0)) := by
    rw [← hW1, Below.heap_alloc _ _ _ (by simp)]
    have := heap_alloc_new ((w.alloc (.cells #[.int .i64 k, .string s, .int .i64 t.k, .string t.x, .string t.l, .string t.y, .slice A m c] 38)).alloc (.cells #[.int .i64 0] 3)) (.cells #[.int .i64 k, .string s, .int .i64 t.k, .string t.x, .string t.l, .string t.y, .slice A m c] 38)
    simpa using this
  have g3 : W1.heap[w.heap.size + 1 + 1 + 1]? = some (.cells #[.slice (some ⟨w.heap.size + 1 + 1, 0, none⟩) 1 1] 24 (0, 0)) := by
    rw [← hW1]
    have := heap_alloc_new (((w.alloc (.cells #[.int .i64 k, .string s, .int .i64 t.k, .string t.x, .string t.l, .string t.y, .slice A m c] 38)).alloc (.cells #[.int .i64 0] 3)).alloc (.cells #[.int .i64 k, .string s, .int .i64 t.k, .string t.x, .string t.l, .string t.y, .slice A m c] 38)) (.cells #[.slice (some ⟨w.heap.size + 1 + 1, 0, none⟩) 1 1] 24)
    simpa using this
  have hcm : CM w (wo (fun k _ => k == w.heap.size + 1) W1) := fun p u hp => wo_cellN.2 ⟨cell_on hp hB1, by have := cell_lt hp; simp; omega⟩
  have hrs : RdEs n (wo (fun k _ => k == w.heap.size + 1) W1) (some ⟨w.heap.size + 1 + 1, 0, none⟩) [x] := by
    refine ⟨[.int .i64 k, .string s, .int .i64 t.k, .string t.x, .string t.l, .string t.y, .slice A m c], .inr ⟨w.heap.size + 1 + 1, 0, rfl, fun j u hu => wo_cellN.2 ⟨?_, by simp⟩⟩, All.one rfl (hr.cm hcm)⟩
    rw [World.cell?, g2]
    simpa using hu
  have hbx : (wo (fun k _ => k == w.heap.size + 1) W1).cell? ⟨w.heap.size + 1 + 1 + 1, 0, none⟩ = some (.slice (some ⟨w.heap.size + 1 + 1, 0, none⟩) 1 1) := wo_cellN.2 ⟨by rw [World.cell?, g3]; rfl, by simp⟩
  have hs := qParts_stops F hd h5 h6 hro (fun k _ => k == w.heap.size + 1) (5 - 1) n W1 (fun k _ _ hk => by simp; omega) szE (fun n k s t kids h => ⟨h.2.2.1, h.2.2.2⟩) [x] (some ⟨w.heap.size + 1 + 1, 0, none⟩) 1 (w.heap.size + 1 + 1 + 1) hrs (by simp) (by simpa using hz) hbx
  simp only [hW1]
  have HW := Lib.hid hW1
  have Hsz := Lib.hid hsz
  clear hW1 hrs hbx hcm g2 g3
  have hfl : [x].flatMap (preE n) = preE n x := by simp
  rw [hfl] at hs
  refine wpIn_rangeFunc_ownF hro (by omega) (gf := 134) (lb := #[.pointer (some ⟨w.heap.size + 1 + 1 + 1, 0, none⟩)]) rfl h5 (enters_of Tryz.func134 (by kernel_rfl) rfl)
    hs (fun h k => h.trans k) (fun W l o o' hl ho hc _ => Kb.put hl ho hc) (Below.refl _ _) (fun _ => rfl)
    (fun pre W => SizeI w (w.heap.size + 1) pre.length W ∧ Below w.heap.size w W) (fun _ _ _ => False)
    (OwnFrom.and (Own.from (fun s A B row hs hg hr => ⟨cell_kept hs.1 hg hr, (frozen_kept hs.1 hg hr).trans hs.2⟩) _) (ownFrom_below (Nat.le_refl _) (by omega)))
    (fun _ _ _ _ _ hs _ _ => hs.elim)
    ⟨⟨by rw [World.cell?, g1]; rfl, by simp [World.frozen?, g1]⟩, hB1⟩
    (fun a => { tmps := #[.agg #[.int .i64 k, .string s, .int .i64 t.k, .string t.x, .string t.l, .string t.y, .slice A m c], .pointer (some ⟨w.heap.size, 0, none⟩), .pointer (some ⟨w.heap.size + 1, 0, none⟩), .agg #[.int .i64 k, .string s, .int .i64 t.k, .string t.x, .string t.l, .string t.y, .slice A m c], .slice (some ⟨w.heap.size + 1 + 1, 0, none⟩) 1 1, .func (.func 134) #[] #[.pointer (some ⟨w.heap.size + 1 + 1 + 1, 0, none⟩)], .agg a.cs.toArray, undef, undef, undef], defers := [] }) ?assign ?body ?done ?stop
  case assign =>
    intro l x W K hK
    have e : ∀ (b : Array Value) (v : Value), (#[6].zip #[v]).foldl (fun t (p, v) => t.setIfInBounds p v) b = b.setIfInBounds 6 v := fun b v => by simp
    rw [e]
    gi_wp2
    exact hK
  case body =>
    rintro l pre x W ⟨⟨hc, hf⟩, hB⟩ hlen
    gi_wp2
    exact ⟨KeepsOthers.setCell _ _ _, Kb.set _ (by simp), ⟨⟨by rw [World.cell?_setCell_same' _ _ _ (by rw [hc]; rfl)]; simp, by rw [World.frozen?_setCell]; exact hf⟩, hB.setCell (p := ⟨w.heap.size + 1, 0, none⟩) (by simp) _⟩⟩
  case done =>
    rintro D ys W hD hS ⟨⟨hc, hf⟩, hB⟩ hK
    gi_wp2
    have hK2 := (KeepsOthers.setCell W ⟨w.heap.size + 1, 0, none⟩ (Value.int .i64 ↑ys.length)).same D _ hK rfl
    refine ⟨by simp, .inl ⟨_, _, rfl, run_takeDeferred hK2, ?_⟩⟩
    have hc2 : (W.setCell ⟨w.heap.size + 1, 0, none⟩ (Value.int .i64 ↑ys.length)).cell? ⟨w.heap.size + 1, 0, none⟩ = some (.int .i64 ↑ys.length) := World.cell?_setCell_same' _ _ _ (by rw [hc]; rfl)
    have hc3 := cell_kept hc2 (grownBy_putObj' _ D (.deferred none)) (fun r e => by cases e; exact ⟨_, hK2, rfl⟩)
    have hlen : ys.length = (preE n x).length := by rw [← pts_length, hS]
    refine ⟨.int .i64 ys.length, ?_, by rw [hlen], (hB.setCell (p := ⟨w.heap.size + 1, 0, none⟩) (by simp) _).trans (belowK_b (w := w) (Nat.le_refl _) _ D _ _ (by omega) hK2 rfl rfl)⟩
    simp [results, Tryz.results16, go_sem, hc3]
  case stop =>
    rintro D c pre W _ _ h _
    exact h.elim
end Go.Proofs.YtafaanegkoolgaaGreatDoor
