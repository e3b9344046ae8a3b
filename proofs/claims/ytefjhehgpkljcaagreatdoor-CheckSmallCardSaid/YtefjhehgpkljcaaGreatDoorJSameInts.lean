/- The kit's queries, lent and kept: printed by gen/keptq.py. The kit's OverTexts: a list written over, the spare room too. The kit's SameInts (as in XKitInts). -/
import Derived.Test.YtefjhehgpkljcaaGreatDoorJLaw22p
import Derived.Test.YtefjhehgpkljcaaGreatDoorJLent4
import Derived.Great.Walk
import Derived.Test.YtefjhehgpkljcaaGreatDoorJMetMath
namespace Go.Proofs.YtefjhehgpkljcaaGreatDoor
open Go Go.RowKit Um Fm Mt
/-- A query lent reads so. -/
def RdQl (n B : Nat) (w : World) (cs : List Value) (q : Qy n) : Prop := ∃ (g1 g2 g3 g4 : Nat) (xs : List Value), cs = [.bool q.ask, .bool q.dist, .slice (some ⟨g1, 0, none⟩) q.vars.length (q.vars.length + 12), .slice (some ⟨g2, 0, none⟩) q.pats.length (q.pats.length + 12), .slice (some ⟨g3, 0, none⟩) q.fils.length (q.fils.length + 12), .slice (some ⟨g4, 0, none⟩) q.ord.length (q.ord.length + 12), .int .i64 q.lim, .int .i64 q.off] ∧ (B ≤ g1 ∧ B ≤ g2 ∧ B ≤ g3 ∧ B ≤ g4) ∧
  LentB 9 w g1 ((q.vars ++ marksOf (fun i => mkT 1 i)).map Value.string) ∧ LentB 58 w g2 ((q.pats ++ marksOf mkPt).flatMap cPat) ∧ (LentB 31 w g3 (xs ++ marksE) ∧ All 7 (RdLn n B w) xs q.fils) ∧ LentB 60 w g4 ((q.ord ++ marksOf mkKy).flatMap cKey)
theorem RdQl.step {n B : Nat} {w w' : World} {cs : List Value} {q : Qy n} (h : RdQl n B w cs q) (hs : Stays B w w') : RdQl n B w' cs q := by
  obtain ⟨g1, g2, g3, g4, xs, h0, ⟨b1, b2, b3, b4⟩, h1, h2, ⟨h3, h5⟩, h4⟩ := h
  exact ⟨g1, g2, g3, g4, xs, h0, ⟨b1, b2, b3, b4⟩, h1.stays hs b1, h2.stays hs b2, ⟨h3.stays hs b3, h5.mono fun _ _ _ h => h.step hs⟩, h4.stays hs b4⟩
theorem RdQl.later {n B : Nat} {w w' : World} {cs : List Value} {q : Qy n} (h : RdQl n B w cs q) (hb : Below w.heap.size w w') : RdQl n B w' cs q := h.step (Stays.below hb)
theorem LentB.rdPat {w : World} {g : Nat} {l m : List Pat} {T : TypeId} (h : LentB T w g ((l ++ m).flatMap cPat)) : RdPat w (some ⟨g, 0, none⟩) l := by
  rw [List.flatMap_append] at h
  exact (RdL.flatC (f := cPat) (sz := 15) fun _ => rfl).2 h.rd1
theorem LentB.rdKey {w : World} {g : Nat} {l m : List Ky} {T : TypeId} (h : LentB T w g ((l ++ m).flatMap cKey)) : RdKey w (some ⟨g, 0, none⟩) l := by
  rw [List.flatMap_append] at h
  exact (RdL.flatC (f := cKey) (sz := 2) fun _ => rfl).2 h.rd1
theorem LentB.rdStr {w : World} {g : Nat} {l m : List ByteArray} {T : TypeId} (h : LentB T w g ((l ++ m).map Value.string)) : Rd w (some ⟨g, 0, none⟩) (l.map Value.string) := by
  rw [List.map_append] at h
  exact h.rd1
theorem RdQl.rdQ {n B : Nat} {w : World} {cs : List Value} {q : Qy n} (h : RdQl n B w cs q) : RdQ n w cs q := by
  obtain ⟨g1, g2, g3, g4, xs, h0, -, h1, h2, ⟨h3, h5⟩, h4⟩ := h
  exact ⟨_, _, _, _, _, _, _, _, h0, ⟨Nat.le_add_right _ _, Nat.le_add_right _ _, Nat.le_add_right _ _, Nat.le_add_right _ _⟩, h1.rdStr, h2.rdPat, ⟨xs, h3.rd1, h5.mono fun _ _ _ h => h.rdE⟩, h4.rdKey⟩
theorem lentQ (n : Nat) (q : Qy n) (cs : List Value) (w : World) (hr : RdQ n w cs q) (hz : szL q) (z1 : q.vars.length ≤ 1048576) (z2 : q.pats.length ≤ 1048576) (z4 : q.ord.length ≤ 1048576) :
    Calls Tryz.prog 13 #[.agg cs.toArray] w fun e w' => ∃ ds, e = .returned (.agg ds.toArray) ∧ RdQl n w.heap.size w' ds q ∧ Below w.heap.size w w' := by
  obtain ⟨a1, a2, a3, a4, c1, c2, c3, c4, rfl, -, r1, r2, r3, r4⟩ := hr
  refine (kitLentQ n q.ask q.dist q.lim q.off q.vars q.pats q.fils q.ord a1 a2 a3 a4 c1 c2 c3 c4 w r1 ((RdL.flatC (f := cPat) (sz := 15) fun _ => rfl).1 r2) r3 ((RdL.flatC (f := cKey) (sz := 2) fun _ => rfl).1 r4) z1 z2 hz.2.2.1 z4 hz.2.2.2.2).mono ?_
  rintro e w' ⟨g1, g2, g3, g4, xs, rfl, ⟨b1, b2, b3, b4⟩, h1, h2, ⟨h3, h5⟩, h4, hb⟩
  exact ⟨_, rfl, ⟨g1, g2, g3, g4, xs, rfl, ⟨by omega, by omega, by omega, by omega⟩, h1, h2, ⟨h3, h5.mono fun _ _ _ h => h.lower (by omega)⟩, h4⟩, hb⟩
theorem sameQ_self {n : Nat} (q : Qy n) : sameQ q q = true := sameQ_iff.2 rfl
set_option maxRecDepth 20000 in
set_option maxHeartbeats 4000000 in
theorem keptQ (n B : Nat) (q : Qy n) (cs ds : List Value) (W : World) (hL : RdQl n B W cs q) (hr : RdQ n W ds q) (hz : szL q) (z1 : q.vars.length ≤ 1048576) (z2 : q.pats.length ≤ 1048576) (z4 : q.ord.length ≤ 1048576) :
    Calls Tryz.prog 24 #[.agg cs.toArray, .agg ds.toArray] W fun e w' => e = .returned (.bool true) ∧ Below W.heap.size W w' := by
  have hS0 : ∀ w', Below W.heap.size W w' → Calls Tryz.prog 75 #[.agg cs.toArray, .agg ds.toArray] w' fun e w2 => e = .returned (.bool true) ∧ Below w'.heap.size w' w2 := fun w' hb => by
    have h := kitSame n q q cs ds w' (hL.later hb).rdQ (hr.later hb) hz hz
    rwa [sameQ_self] at h
  obtain ⟨g1, g2, g3, g4, xs, rfl, ⟨b1, b2, b3, b4⟩, h1, h2, ⟨h3, h5⟩, h4⟩ := hL
  obtain ⟨a1, a2, a3, a4, c1, c2, c3, c4, rfl, -, r1, r2, r3, r4⟩ := hr
  have hB2 : Below W.heap.size W ((W.alloc (.cells #[.bool q.ask, .bool q.dist, .slice (some ⟨g1, 0, none⟩) q.vars.length (q.vars.length + 12), .slice (some ⟨g2, 0, none⟩) q.pats.length (q.pats.length + 12), .slice (some ⟨g3, 0, none⟩) q.fils.length (q.fils.length + 12), .slice (some ⟨g4, 0, none⟩) q.ord.length (q.ord.length + 12), .int .i64 q.lim, .int .i64 q.off] 40)).alloc (.cells #[.bool q.ask, .bool q.dist, .slice a1 q.vars.length c1, .slice a2 q.pats.length c2, .slice a3 q.fils.length c3, .slice a4 q.ord.length c4, .int .i64 q.lim, .int .i64 q.off] 40)) := (by repeat (first | exact Below.refl _ _ | assumption | exact (Below.refl _ _).alloc (Nat.le_refl _) _ | refine below_tr ?_ (by assumption) | refine below_alloc ?_ | refine below_tr ?_ (below_regrown _ _ _)))
  have hc := hS0 _ hB2
  have K1 := fun (w' : World) (hb : Below W.heap.size W w') => keptTexts q.vars g1 a1 c1 w' (h1.stays (Stays.below hb) b1) (r1.later hb) z1
  have K2 := fun (w' : World) (hb : Below W.heap.size W w') => keptPatterns q.pats g2 a2 c2 w' (h2.stays (Stays.below hb) b2) ((RdL.flatC (f := cPat) (sz := 15) fun _ => rfl).1 (RdL.mono r2 hb fun _ _ _ h => h)) z2
  have K3 := fun (w' : World) (hb : Below W.heap.size W w') => keptExprs n (keptExpr n) B q.fils g3 xs a3 c3 w' b3 (h3.stays (Stays.below hb) b3) (h5.mono fun _ _ _ h => h.old hb) (RdEs.later r3 hb) hz.2.2.1 hz.2.2.2.2
  have K4 := fun (w' : World) (hb : Below W.heap.size W w') => keptKeys q.ord g4 a4 c4 w' (h4.stays (Stays.below hb) b4) ((RdL.flatC (f := cKey) (sz := 2) fun _ => rfl).1 (RdL.mono r4 hb fun _ _ _ h => h)) z4
  clear hS0 h1 h2 h3 h4 h5 r1 r2 r3 r4 hz z1 z2 z4
  go_enter Tryz.func24, Tryz.ntmps24
  go_wp2_with fail
  refine hc.mono ?_
  rintro e w1 ⟨rfl, hb1⟩
  have hs1 := hb1.size
  have k1 : w1.cell? ⟨W.heap.size, 2, none⟩ = some (.slice (some ⟨g1, 0, none⟩) q.vars.length (q.vars.length + 12)) := cell_on (by rw [World.cell?, heap_two_1]; rfl) hb1
  have l1 : w1.cell? ⟨W.heap.size + 1, 2, none⟩ = some (.slice a1 q.vars.length c1) := cell_on (by rw [World.cell?, heap_two_2]; rfl) hb1
  have k2 : w1.cell? ⟨W.heap.size, 3, none⟩ = some (.slice (some ⟨g2, 0, none⟩) q.pats.length (q.pats.length + 12)) := cell_on (by rw [World.cell?, heap_two_1]; rfl) hb1
  have l2 : w1.cell? ⟨W.heap.size + 1, 3, none⟩ = some (.slice a2 q.pats.length c2) := cell_on (by rw [World.cell?, heap_two_2]; rfl) hb1
  have k3 : w1.cell? ⟨W.heap.size, 4, none⟩ = some (.slice (some ⟨g3, 0, none⟩) q.fils.length (q.fils.length + 12)) := cell_on (by rw [World.cell?, heap_two_1]; rfl) hb1
  have l3 : w1.cell? ⟨W.heap.size + 1, 4, none⟩ = some (.slice a3 q.fils.length c3) := cell_on (by rw [World.cell?, heap_two_2]; rfl) hb1
  have k4 : w1.cell? ⟨W.heap.size, 5, none⟩ = some (.slice (some ⟨g4, 0, none⟩) q.ord.length (q.ord.length + 12)) := cell_on (by rw [World.cell?, heap_two_1]; rfl) hb1
  have l4 : w1.cell? ⟨W.heap.size + 1, 5, none⟩ = some (.slice a4 q.ord.length c4) := cell_on (by rw [World.cell?, heap_two_2]; rfl) hb1
  have B1 := below_tr hB2 hb1
  clear hc hB2 hb1
  have hk := K1 _ B1
  go_wp2_with fail
  refine hk.mono ?_
  rintro e w2 ⟨rfl, hb2⟩
  clear hk
  replace k2 := cell_on k2 hb2
  replace l2 := cell_on l2 hb2
  replace k3 := cell_on k3 hb2
  replace l3 := cell_on l3 hb2
  replace k4 := cell_on k4 hb2
  replace l4 := cell_on l4 hb2
  have B2 := below_tr B1 hb2
  clear hb2
  clear k1 l1
  have hk := K2 _ B2
  go_wp2_with fail
  refine hk.mono ?_
  rintro e w3 ⟨rfl, hb3⟩
  clear hk
  replace k3 := cell_on k3 hb3
  replace l3 := cell_on l3 hb3
  replace k4 := cell_on k4 hb3
  replace l4 := cell_on l4 hb3
  have B3 := below_tr B2 hb3
  clear hb3
  clear k2 l2
  have hk := K3 _ B3
  go_wp2_with fail
  refine hk.mono ?_
  rintro e w4 ⟨rfl, hb4⟩
  clear hk
  replace k4 := cell_on k4 hb4
  replace l4 := cell_on l4 hb4
  have B4 := below_tr B3 hb4
  clear hb4
  clear k3 l3
  have hk := K4 _ B4
  go_wp2_with fail
  refine hk.mono ?_
  rintro e w5 ⟨rfl, hb5⟩
  clear hk
  go_wp2
  go_ret
  exact ⟨rfl, below_tr B4 hb5⟩
end Go.Proofs.YtefjhehgpkljcaaGreatDoor
namespace Go.Proofs.YtefjhehgpkljcaaGreatDoor
open Go Go.RowKit Um Fm Mt
/-- A block holds cells, none of them frozen. -/
def Holds (w : World) (g m : Nat) : Prop := ∃ cur : Array Value, w.heap[g]? = some (.cells cur 9 (0, 0)) ∧ m ≤ cur.size
theorem Holds.lt {w : World} {g m : Nat} (h : Holds w g m) : g < w.heap.size := by
  obtain ⟨cur, h1, _⟩ := h
  rcases Nat.lt_or_ge g w.heap.size with hlt | hge
  · exact hlt
  · rw [Array.getElem?_eq_none hge] at h1; cases h1
theorem Holds.below {w w' : World} {g m : Nat} (h : Holds w g m) (hb : Below w.heap.size w w') : Holds w' g m := by
  have hlt := h.lt
  obtain ⟨cur, h1, h2⟩ := h
  exact ⟨cur, by rw [hb.block g hlt]; exact h1, h2⟩
theorem Holds.set {w : World} {g m i : Nat} {v : Value} (h : Holds w g m) : Holds (w.setCell ⟨g, i, none⟩ v) g m := by
  obtain ⟨cur, h1, h2⟩ := h
  exact ⟨_, heap_setCell_same _ _ _ _ _ _ h1, by simpa using h2⟩
theorem Holds.cell {w : World} {g m i : Nat} (h : Holds w g m) (hi : i < m) : ∃ u, w.cell? ⟨g, i, none⟩ = some u := by
  obtain ⟨cur, h1, h2⟩ := h
  exact ⟨cur[i]'(by show i < cur.size; omega), by rw [World.cell?, h1]; exact Array.getElem?_eq_getElem (by show i < cur.size; omega)⟩
theorem Holds.frozen {w : World} {g m i : Nat} (h : Holds w g m) : w.frozen? ⟨g, i, none⟩ = false := by
  obtain ⟨cur, h1, h2⟩ := h
  exact frozen_of_row h1
theorem Holds.of_own {w : World} {base g n cap : Nat} {xs : List Value} (h : w.ownsRow base 9 1 (.slice (some ⟨g, 0, none⟩) n cap) n xs) : Holds w g cap ∧ base ≤ g := by
  rcases h.2 with ⟨hv, _⟩ | ⟨g2, cap2, cur, hv, hb, hh, _, _, hcs, ht⟩
  · cases hv
  · injection hv with hA _ hcap
    injection hA with hA
    injection hA with hA
    subst hA
    subst hcap
    exact ⟨⟨cur, hh, by omega⟩, hb⟩
set_option maxRecDepth 10000 in
set_option maxHeartbeats 2000000 in
theorem overTexts (base g n cap : Nat) (w : World) (hH : Holds w g cap) (hb : base ≤ g) (hn : n ≤ 900000) (hc : n ≤ cap) (hc2 : cap ≤ 9223372036854775807) :
    Calls Tryz.prog 23 #[.slice (some ⟨g, 0, none⟩) n cap] w fun e w' => (∃ v, e = .returned v) ∧ Below base w w' := by
  have hlt0 := hH.lt
  go_enter Tryz.func23, Tryz.ntmps23
  go_wp2
  obtain ⟨m, hm⟩ : ∃ m : Nat, m = min cap (n + 12) := ⟨_, rfl⟩
  have hmin : min (cap : Int) ((n : Int) + 12) = (m : Int) := by omega
  simp only [hmin, Int.toNat_natCast]
  have hm1 : m ≤ cap := by omega
  have hm2 : m ≤ n + 12 := by omega
  clear hm hmin
  go_loopw [3] (fun i wr => ∃ k : Nat, k ≤ m ∧ i = .int .i64 k ∧ Below base w wr ∧ Holds wr g cap) (fun i _ => m - (intOf i).toNat)
  case atStart => exact ⟨0, by omega, rfl, Below.refl _ _, hH⟩
  case round =>
    obtain ⟨k, hk, rfl, hB, hH⟩ := hrel
    by_cases hlt : k < m
    · have hmk := fun W => markTxt 2 (k : Int) W (by omega) (by omega) (by omega) (by omega)
      generalize mkT 2 (k : Int) = s at *
      go_wp2_with fail
      refine (hmk _).mono ?_
      rintro e w3 ⟨rfl, hb3⟩
      have hH3 := hH.below hb3
      obtain ⟨u, hu⟩ := hH3.cell (i := k) (by omega)
      have hf := hH3.frozen (i := k)
      have HH := Lib.hid hH3
      clear hH hH3
      go_wp2
      go_roundw
      case rel => exact ⟨k+1, by omega, by go_num, (hB.trans (hb3.mono (Nat.le_trans (Nat.le_trans hb (Nat.le_of_lt hlt0)) hB.size))).setCell (p := ⟨g, k, none⟩) hb _, HH.out.set⟩
      case measure => simp [intOf]; omega
    · go_wp2
      ((try simp only [Exit.inBlock, Exit.then]); refine Go.Great.bodyPost_end0 rfl rfl ?_)
      exact ⟨⟨_, rfl⟩, hB⟩
set_option maxRecDepth 10000 in
set_option maxHeartbeats 2000000 in
theorem overNone (w : World) : Calls Tryz.prog 23 #[.slice none 0 0] w fun e w' => (∃ v, e = .returned v) ∧ Below w.heap.size w w' := by
  go_enter Tryz.func23, Tryz.ntmps23
  go_wp2
  simp only [show min (0 : Int) 12 = 0 by decide, show (0 : Int).toNat = 0 from rfl]
  go_loopw [3] (fun i wr => i = .int .i64 0 ∧ Below w.heap.size w wr) (fun _ _ => 0)
  case atStart => exact ⟨rfl, Below.refl _ _⟩
  case round =>
    obtain ⟨rfl, hB⟩ := hrel
    go_wp2
    ((try simp only [Exit.inBlock, Exit.then]); refine Go.Great.bodyPost_end0 rfl rfl ?_)
    exact ⟨⟨_, rfl⟩, hB⟩
/-- A list of the call's own, written over. -/
theorem overOwn {w : World} {base n : Nat} {v : Value} {xs : List Value} (h : w.ownsRow base 9 1 v n xs) (hn : n ≤ 900000) (hb : base ≤ w.heap.size) :
    Calls Tryz.prog 23 #[v] w fun e w' => (∃ v, e = .returned v) ∧ Below base w w' := by
  have h0 := h
  rcases h0.2 with ⟨rfl, -⟩ | ⟨g, cap, cur, rfl, -, -, hle, hcap, -, -⟩
  · exact (overNone w).mono fun _ _ ⟨h1, h2⟩ => ⟨h1, h2.mono hb⟩
  · obtain ⟨hH, hb⟩ := Holds.of_own h
    exact overTexts base g n cap w hH hb hn hle (by simpa [maxLen] using hcap)
end Go.Proofs.YtefjhehgpkljcaaGreatDoor
namespace Go.Proofs.YtefjhehgpkljcaaGreatDoor
open Go Go.RowKit
theorem Rd.of_belowI {w w' : World} {A : Option Addr} {xs : List Value} (h : Rd w A xs) (hb : Below w.heap.size w w') : Rd w' A xs := h.below hb (Nat.le_refl _)
theorem below_drewN {B : Nat} {a w : World} (h : Below B a w) (n : Nat) : Below B a (w.drewN n) := ⟨h.os, h.tape, h.output, h.size, h.block⟩
theorem intInfo0 : (Tryz.prog.info? 3).map (fun i => (i.zero, i.size, i.bytes)) = some (some (.int .i64 0), 1, 8) := by kernel_rfl

def sameL (a b : List Int) (k : Nat) : Prop := ∀ j, j < k → a[j]? = b[j]?

set_option maxHeartbeats 1000000 in
theorem sameInts (a b : List Int) (A B : Option Addr) (c d : Nat) (w : World) (ha : Rd w A (a.map (Value.int .i64))) (hb : Rd w B (b.map (Value.int .i64))) (hl : a.length ≤ 1000000000) (hl2 : b.length ≤ 1000000000) :
    Calls Tryz.prog 21 #[.slice A a.length c, .slice B b.length d] w fun e w' => e = .returned (.bool (decide (a = b))) ∧ Below w.heap.size w w' := by
  by_cases hlen : a.length = b.length
  case neg =>
    have hne : decide (a = b) = false := by simp; intro h; exact hlen (by rw [h])
    have h1 : ((a.length : Int) != (b.length : Int)) = true := by rw [bne_iff_ne]; omega
    rw [hne]
    clear hne hlen
    go_enter Tryz.func21, Tryz.ntmps21
    go_wp2
    go_ret
    exact ⟨rfl, Below.refl _ _⟩
  have h1 : ((a.length : Int) != (b.length : Int)) = false := by simp; omega
  have hab : a.length ≤ b.length := by omega
  have Hlen := Lib.hid hlen
  clear hlen
  go_enter Tryz.func21, Tryz.ntmps21
  go_wp2
  go_loopw [5] (fun i wr => ∃ k : Nat, k ≤ a.length ∧ i = .int .i64 k ∧ Below w.heap.size w wr ∧ Hid (sameL a b k)) (fun i _ => a.length - (intOf i).toNat)
  case atStart => exact ⟨0, by omega, rfl, Below.refl _ _, fun j h => by omega⟩
  case round =>
    obtain ⟨k, hk, rfl, hB, H⟩ := hrel
    by_cases hlt : k < a.length
    · obtain ⟨x, hx⟩ : ∃ x, a[k]? = some x := ⟨_, List.getElem?_eq_getElem hlt⟩
      obtain ⟨y, hy⟩ : ∃ x, b[k]? = some x := ⟨_, List.getElem?_eq_getElem (by omega)⟩
      obtain ⟨g, o, rfl, hcx⟩ := (ha.below hB (Nat.le_refl _)).at_ (j := k) (u := .int .i64 x) (by simp [hx])
      obtain ⟨g', o', rfl, hcy⟩ := (hb.below hB (Nat.le_refl _)).at_ (j := k) (u := .int .i64 y) (by simp [hy])
      have Hx := Lib.hid hx
      have Hy := Lib.hid hy
      have hlt2 : k < b.length := by omega
      clear hx hy ha hb
      by_cases hxy : x = y
      · have hq : (x != y) = false := by simp [hxy]
        have Hxy := Lib.hid hxy
        clear hxy
        go_wp2
        go_quiet (fail)
        go_wp2
        go_roundw
        case rel => exact ⟨k+1, by omega, by go_num, below_drewN hB nq, fun j hj => by
          rcases Nat.lt_or_ge j k with h | h
          · exact H.out j h
          · have : j = k := by omega
            subst this; rw [Hx.out, Hy.out, Hxy.out]⟩
        case measure => simp [intOf]; omega
      · have hq : (x != y) = true := by simp [hxy]
        have hne : decide (a = b) = false := by
          simp; intro h; subst h
          have := Hx.out.symm.trans Hy.out
          injection this with this; exact hxy this
        have Hne := Lib.hid hne
        clear hxy hne
        go_wp2
        go_quiet (fail)
        go_wp2
        go_ret
        exact ⟨by rw [Hne.out]; rfl, below_drewN hB nq⟩
    · have he : decide (a = b) = true := by
        simp
        apply List.ext_getElem?
        intro j
        rcases Nat.lt_or_ge j k with h | h
        · exact H.out j h
        · rw [List.getElem?_eq_none (by omega), List.getElem?_eq_none (by have := Hlen.out; omega)]
      have He := Lib.hid he
      clear he
      go_wp2
      go_ret
      exact ⟨by rw [He.out]; rfl, hB⟩

end Go.Proofs.YtefjhehgpkljcaaGreatDoor
