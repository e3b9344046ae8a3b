/- The kit's OverTriples: a list of triples written over. Layer 11's law ShowTells. -/
import Derived.Test.YthdlepalglgmoaaGreatDoorJShKit
import Derived.Great.Walk
import Derived.Test.YthdlepalglgmoaaGreatDoorJShSub
namespace Go.Proofs.YthdlepalglgmoaaGreatDoor
open Go Go.RowKit Um Fm Lx Tx

/-- A block holds cells, none of them frozen. -/
def HoldsT (w : World) (g m : Nat) : Prop := ∃ cur : Array Value, w.heap[g]? = some (.cells cur 29 (0, 0)) ∧ m ≤ cur.size
theorem HoldsT.lt {w : World} {g m : Nat} (h : HoldsT w g m) : g < w.heap.size := by
  obtain ⟨cur, h1, _⟩ := h
  exact (Array.getElem?_eq_some_iff.1 h1).1
theorem HoldsT.below {w w' : World} {g m : Nat} (h : HoldsT w g m) (hb : Below w.heap.size w w') : HoldsT w' g m := by
  have hlt := h.lt
  obtain ⟨cur, h1, h2⟩ := h
  exact ⟨cur, by rw [hb.block g hlt]; exact h1, h2⟩
theorem HoldsT.set {w : World} {g m o : Nat} {vs : List Value} (h : HoldsT w g m) : HoldsT (w.setCells g o vs) g m := by
  obtain ⟨cur, h1, h2⟩ := h
  exact ⟨_, heap_setCells _ _ _ _ _ _ _ h1, by rw [putAt_size]; exact h2⟩
theorem HoldsT.there {w : World} {g m o n : Nat} (h : HoldsT w g m) (hn : o + n ≤ m) : w.there g o n := fun j hj => by
  obtain ⟨cur, h1, h2⟩ := h
  exact ⟨by rw [Lib.cell_of_heap h1, Array.getElem?_eq_getElem (by omega)]; rfl, Lib.frozen_of_heap h1 _⟩
theorem HoldsT.of_own {w : World} {base g n cap : Nat} {xs : List Value} (h : w.ownsRow base 29 12 (.slice (some ⟨g, 0, none⟩) n cap) n xs) : HoldsT w g (cap * 12) ∧ base ≤ g := by
  rcases h.2 with ⟨hv, _⟩ | ⟨g2, cap2, cur, hv, hb, hh, _, _, hcs, ht⟩
  · cases hv
  · injection hv with hA _ hcap
    injection hA with hA
    injection hA with hA
    subst hA
    subst hcap
    exact ⟨⟨cur, hh, by omega⟩, hb⟩
set_option maxRecDepth 10000 in
set_option maxHeartbeats 1000000 in
theorem overTriples (base g n cap : Nat) (w : World) (hH : HoldsT w g (cap * 12)) (hb : base ≤ g) (hn : n ≤ 900000) (hc : n ≤ cap) (hc2 : cap ≤ 9223372036854775807) :
    Calls Tryz.prog 22 #[.slice (some ⟨g, 0, none⟩) n cap] w fun e w' => (∃ v, e = .returned v) ∧ Below base w w' := by
  have hlt0 := hH.lt
  go_enter Tryz.func22, Tryz.ntmps22
  go_wp2
  obtain ⟨m, hm⟩ : ∃ m : Nat, m = min cap (n + 12) := ⟨_, rfl⟩
  have hmin : min (cap : Int) ((n : Int) + 12) = (m : Int) := by omega
  simp only [hmin, Int.toNat_natCast]
  have hm1 : m ≤ cap := by omega
  have hm2 : m ≤ n + 12 := by omega
  clear hm hmin
  go_loopw [3] (fun i wr => ∃ k : Nat, k ≤ m ∧ i = .int .i64 k ∧ Below base w wr ∧ HoldsT wr g (cap * 12)) (fun i _ => m - (intOf i).toNat)
  case atStart => exact ⟨0, by omega, rfl, Below.refl _ _, hH⟩
  case round =>
    obtain ⟨k, hk, rfl, hB, hH⟩ := hrel
    by_cases hlt : k < m
    · have hmk := fun W => markTp2 (k : Int) W (by omega) (by omega)
      go_wp2_with fail
      refine (hmk _).mono ?_
      rintro e w3 ⟨⟨s, rfl⟩, hb3⟩
      have hH3 := hH.below hb3
      have hth := hH3.there (o := k * 12) (n := 12) (by omega)
      have HH := Lib.hid hH3
      clear hH hH3
      go_wp2_with (with_reducible refine (?_ : wpList _ _ _ (_ :: []) _ _); with_reducible refine stay ?_)
      unfold Stay
      with_reducible refine wpList_store_tp ?gd ?px ?py ?ho g k ⟨⟨s, ⟨#[]⟩, ⟨#[]⟩, ⟨#[]⟩⟩, zTm, zTm⟩ ?hx ?hy ?ht ?hh
      case ho => rfl
      case gd => rfl
      case hx => rfl
      case hy => rfl
      case ht => exact hth
      go_wp2
      go_roundw
      case rel => exact ⟨k+1, by omega, by go_num, (hB.trans (hb3.mono (Nat.le_trans (Nat.le_trans hb (Nat.le_of_lt hlt0)) hB.size))).trans (below_setCells hb _ _ _), HH.out.set⟩
      case measure => simp [intOf]; omega
    · go_wp2
      ((try simp only [Exit.inBlock, Exit.then]); refine Go.Great.bodyPost_end0 rfl rfl ?_)
      exact ⟨⟨_, rfl⟩, hB⟩
set_option maxRecDepth 10000 in
set_option maxHeartbeats 2000000 in
theorem overNoneT (w : World) : Calls Tryz.prog 22 #[.slice none 0 0] w fun e w' => (∃ v, e = .returned v) ∧ Below w.heap.size w w' := by
  go_enter Tryz.func22, Tryz.ntmps22
  go_wp2
  simp only [show min (0 : Int) 12 = 0 by decide, show (0 : Int).toNat = 0 from rfl]
  go_loopw [3] (fun i wr => i = .int .i64 0 ∧ Below w.heap.size w wr) (fun _ _ => 0)
  case atStart => exact ⟨rfl, Below.refl _ _⟩
  case round =>
    obtain ⟨rfl, hB⟩ := hrel
    go_wp2
    ((try simp only [Exit.inBlock, Exit.then]); refine Go.Great.bodyPost_end0 rfl rfl ?_)
    exact ⟨⟨_, rfl⟩, hB⟩
/-- A list of the call's own, written over. -/
theorem overOwnT {w : World} {base n : Nat} {v : Value} {xs : List Value} (h : w.ownsRow base 29 12 v n xs) (hn : n ≤ 900000) (hb : base ≤ w.heap.size) :
    Calls Tryz.prog 22 #[v] w fun e w' => (∃ v, e = .returned v) ∧ Below base w w' := by
  have h0 := h
  rcases h0.2 with ⟨rfl, -⟩ | ⟨g, cap, cur, rfl, -, -, hle, hcap, -, -⟩
  · exact (overNoneT w).mono fun _ _ ⟨h1, h2⟩ => ⟨h1, h2.mono hb⟩
  · obtain ⟨hH, hb⟩ := HoldsT.of_own h
    exact overTriples base g n cap w hH hb hn hle (by simpa [maxLen] using hcap)
end Go.Proofs.YthdlepalglgmoaaGreatDoor
namespace Go.Proofs.YthdlepalglgmoaaGreatDoor
open Go Go.RowKit Um Fm Lx Tx

theorem showSize (l : List Tp) (A : Option Addr) (c : Nat) (w : World) (hC : CtxT w) (hr : Rd w A (l.flatMap tpL)) (hz : ∀ t ∈ l, smallP3 t) (hl : l.length ≤ 1000000) :
    Calls Tryz.prog 21 #[.slice A l.length c] w fun e w' => e = .returned (.int .i64 ((setTp l).length : Nat)) ∧ Below w.heap.size w w' := by
  have h1 := showSet l A c w hC hr hz hl
  unfold SetR at h1
  clear hr hC
  go_enter Tryz.func21, Tryz.ntmps21
  go_wp2_with fail
  refine h1.mono ?_
  rintro e w1 ⟨v, rfl, own, hb⟩
  obtain ⟨A1, c1, rfl, -, -⟩ := own_slice own
  have HB := Lib.hid hb
  clear own hb h1
  go_wp2
  go_ret
  exact ⟨rfl, HB.out⟩
set_option maxRecDepth 20000 in
set_option maxHeartbeats 8000000 in
theorem lawShowTells (l : List Tp) (A : Option Addr) (c : Nat) (w : World) (hC : CtxT w) (hr : Rd w A (l.flatMap tpL)) (hl : l.length ≤ 837723144947) (hz : ∀ t ∈ l, hugeTp t) :
    Calls Tryz.prog 9 #[.slice A l.length c] w fun e w' => e = .returned (.bool true) ∧ Below w.heap.size w w' := by
  have hg := lawGreat11 l A c w hr hl hz
  unfold GreatR at hg
  obtain ⟨N, hN⟩ : ∃ N, l.length = N := ⟨_, rfl⟩
  have HN := Lib.hid hN
  have HR := Lib.hid hr
  have HC := Lib.hid hC
  rw [hN] at hl hg ⊢
  clear hN hr hz hC
  go_enter Tryz.func9, Tryz.ntmps9
  go_wp2_with fail
  refine hg.mono ?_
  rintro e w1 ⟨⟨b, rfl, hbf⟩, b1⟩
  have HB1 := Lib.hid b1
  cases b
  · obtain ⟨hN1, hfit⟩ := hbf rfl
    replace hfit := fit_of hfit
    have hsm : ∀ t ∈ l, smallP t := fun t ht => (hfit t ht).small
    have Hsm := Lib.hid hsm
    have hlt := lentTriples l A c w1 (HR.out.later b1) (by rw [HN.out]; omega)
    rw [HN.out] at hlt
    clear hbf hg b1 hfit hsm
    go_wp2_with fail
    refine hlt.mono ?_
    rintro e w2 ⟨rfl, hl2, b2⟩
    have HB2 := Lib.hid (below_tr HB1.out b2)
    have hgw : w1.heap.size < w2.heap.size := hl2.lt
    generalize w1.heap.size = gg at *
    have HL2 := Lib.hid hl2
    clear hl2 b2 hlt
    go_wp2
    go_loopw [4] (fun i wr => ∃ k : Nat, k ≤ N ∧ i = .int .i64 k ∧ Below w2.heap.size w2 wr) (fun i _ => N - (intOf i).toNat)
    case atStart => exact ⟨0, by omega, rfl, Below.refl _ _⟩
    case round =>
      obtain ⟨k, hk, rfl, hB⟩ := hrel
      have HB := Lib.hid (below_tr HB2.out hB)
      have HBr := Lib.hid hB
      by_cases hlt : k < N
      · have hd1 : decide (k < N) = true := by simp; omega
        obtain ⟨t, ht⟩ : ∃ t, l[k]? = some t := ⟨_, List.getElem?_eq_getElem (by rw [HN.out]; exact hlt)⟩
        have hts := Hsm.out t (List.mem_of_getElem? ht)
        obtain ⟨g, o, rfl, a0, a1, a2, a3, a4, a5, a6, a7, a8, a9, a10, a11⟩ := rd_at12 (HR.out.later HB.out) ht
        have hl1 := showLine t wr (HC.out.step HB.out) hts
        have hl2 := fun W => refLine11 t W hts
        unfold LineR11 at hl1 hl2
        generalize lineS t = s at *
        generalize errTp t = er at *
        clear hB ht hts
        go_wp2_with fail
        refine hl1.mono ?_
        rintro e w3 ⟨rfl, b3⟩
        replace a0 := cell_on a0 b3
        replace a1 := cell_on a1 b3
        replace a2 := cell_on a2 b3
        replace a3 := cell_on a3 b3
        replace a4 := cell_on a4 b3
        replace a5 := cell_on a5 b3
        replace a6 := cell_on a6 b3
        replace a7 := cell_on a7 b3
        replace a8 := cell_on a8 b3
        replace a9 := cell_on a9 b3
        replace a10 := cell_on a10 b3
        replace a11 := cell_on a11 b3
        have HB3 := Lib.hid (below_tr HBr.out b3)
        clear b3 hl1
        go_wp2_with fail
        refine (hl2 _).mono ?_
        rintro e w4 ⟨rfl, b4⟩
        have HB4 := Lib.hid (below_tr HB3.out b4)
        clear b4 hl2 a0 a1 a2 a3 a4 a5 a6 a7 a8 a9 a10 a11
        go_wp2
        go_roundw
        case rel => exact ⟨k + 1, by omega, by go_num, HB4.out⟩
        case measure => simp [intOf]; omega
      · obtain rfl : k = N := by omega
        have hd1 : decide (k < k) = false := by simp
        have hlent := HL2.out.below hB hgw
        have hrin := hlent
        rw [List.flatMap_append] at hrin
        have hri := hrin.front
        have hC3 := HC.out.step HB.out
        have hz3 := hB.size
        have hf1 := showFile l (some ⟨gg, 0, none⟩) (k + 12) wr hC3 hri Hsm.out (by rw [HN.out]; omega)
        have hf2 := fun W (hb : Below wr.heap.size wr W) => refFile11 l A c W (HR.out.later (below_tr HB.out hb)) Hsm.out (by rw [HN.out]; omega)
        have hs1 := fun W (hb : Below wr.heap.size wr W) => showSet l (some ⟨gg, 0, none⟩) (k + 12) W (hC3.step hb) (hri.later hb) Hsm.out (by rw [HN.out]; omega)
        have hs2 := fun W (hb : Below wr.heap.size wr W) => refSet11 l A c W (HR.out.later (below_tr HB.out hb)) Hsm.out (by rw [HN.out]; omega)
        have hz1 := fun W (hb : Below wr.heap.size wr W) => showSize l (some ⟨gg, 0, none⟩) (k + 12) W (hC3.step hb) (hri.later hb) Hsm.out (by rw [HN.out]; omega)
        have hkp := fun W (hb : Below wr.heap.size wr W) => keptTriples l gg A c W (hlent.below hb (Nat.lt_of_lt_of_le hgw hz3)) (HR.out.later (below_tr HB.out hb)) (by rw [HN.out]; omega)
        have haw := fun W (hb : Below wr.heap.size wr W) => lawAwake11 W (hC3.step hb)
        have hml := set_len l
        rw [HN.out] at hf1 hml
        simp only [HN.out] at hf2 hs1 hs2 hz1 hkp
        unfold FileR at hf1 hf2
        unfold SetR at hs1 hs2
        generalize setTp l = m at *
        generalize fileP l = q at *
        obtain ⟨qs, qe⟩ := q
        simp only at hf1 hf2
        obtain ⟨M, hM⟩ : ∃ M, m.length = M := ⟨_, rfl⟩
        simp only [hM] at hs1 hs2 hz1
        have HM := Lib.hid hM
        have hM1 : M ≤ 1000 := by omega
        clear hB hlent hrin hri hC3 hM hml
        go_wp2_with fail
        refine hf1.mono ?_
        rintro e w3 ⟨rfl, b3⟩
        go_wp2_with fail
        refine (hf2 _ b3).mono ?_
        rintro e w4 ⟨rfl, b4⟩
        have b34 := below_tr b3 b4
        go_wp2_with fail
        refine (hs1 _ b34).mono ?_
        rintro e w5 ⟨v5, rfl, own5, b5⟩
        have s4 := b34.size
        have s5 := b5.size
        have b35 := below_tr b34 b5
        obtain ⟨A5, c5, rfl, -, r5⟩ := own_slice own5
        have hc6 := hs2 _ b35
        have Own5 := Lib.hid own5
        clear own5 b3 b4 b34 hf1 hf2 hs1 hs2
        go_wp2_with fail
        refine hc6.mono ?_
        rintro e w6 ⟨v6, rfl, own6, b6⟩
        have s6 := b6.size
        obtain ⟨A6, c6, rfl, -, r6⟩ := own_slice own6
        have b36 := below_tr b35 b6
        have hsm6 := kitSameTp m M A5 c5 A6 c6 w6 HM.out (by omega) (r5.later b6) r6
        have Own56 := Lib.hid (own_below Own5.out b6 (Nat.le_refl _))
        clear own6 b6 b35 hc6 r5 r6
        go_wp2_with fail
        refine hsm6.mono ?_
        rintro e w7 ⟨rfl, b7⟩
        have s7 := b7.size
        have b37 := below_tr b36 b7
        have Own57 := Lib.hid (own_below Own56.out b7 (Nat.le_refl _))
        have hz7 := hz1 _ b37
        have hqq : (qe == qe) = true := by simp
        clear b7 b36 hsm6 hz1
        go_wp2_with fail
        refine hz7.mono ?_
        rintro e w8 ⟨rfl, b8⟩
        have b38 := below_tr b37 b8
        have own8 := own_below Own57.out b8 (Nat.le_refl _)
        have s8 := b8.size
        have hov := overOwnT own8 (by omega) (by omega)
        have Hb38 := Lib.hid b38
        clear b8 b37 hz7 own8 b38
        go_wp2_with fail
        refine hov.mono ?_
        rintro e w9 ⟨⟨v9, rfl⟩, b9⟩
        have b39 := Hb38.out.trans (b9.mono s4)
        have hk9 := hkp _ b39
        clear b9 hov
        go_wp2_with fail
        refine hk9.mono ?_
        rintro e w10 ⟨rfl, b10⟩
        have b310 := below_tr b39 b10
        have hk10 := haw _ b310
        clear b10 b39 hk9
        go_wp2_with fail
        refine hk10.mono ?_
        rintro e w11 ⟨rfl, b11⟩
        have HB11 := Lib.hid (below_tr HB.out (below_tr b310 b11))
        clear b11 b310 hk10
        go_wp2
        go_ret
        exact ⟨rfl, HB11.out⟩
  · have ha := lawAwake11 w1 (HC.out.step b1)
    clear hbf hg b1
    go_wp2_with fail
    refine ha.mono ?_
    rintro e w2 ⟨rfl, b2⟩
    have HB2 := Lib.hid (below_tr HB1.out b2)
    clear b2
    go_wp2
    go_ret
    exact ⟨rfl, HB2.out⟩
end Go.Proofs.YthdlepalglgmoaaGreatDoor
