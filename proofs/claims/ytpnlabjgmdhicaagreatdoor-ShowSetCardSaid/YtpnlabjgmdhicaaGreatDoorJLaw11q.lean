/- The kit's OverTriples: a list of triples written over. Layer 11's law ShowTells. Layer 11's law ShowSet. Layer 11's law ShowSet, walked. Layer 11's laws ShowTells, ShowSet, as their cards open their arguments. -/
import Derived.Test.YtpnlabjgmdhicaaGreatDoorJShKit
import Derived.Great.Walk
import Derived.Test.YtpnlabjgmdhicaaGreatDoorJShRef2
namespace Go.Proofs.YtpnlabjgmdhicaaGreatDoor
open Go Go.RowKit Um Fm Lx Tx

/-- A block holds cells, none of them frozen. -/
def HoldsT (w : World) (g m : Nat) : Prop := ∃ cur : Array Value, w.heap[g]? = some (.cells cur 31 (0, 0)) ∧ m ≤ cur.size
theorem HoldsT.lt {w : World} {g m : Nat} (h : HoldsT w g m) : g < w.heap.size := by
  obtain ⟨cur, h1, _⟩ := h
  exact (Array.getElem?_eq_some_iff.1 h1).1
theorem HoldsT.below {w w' : World} {g m : Nat} (h : HoldsT w g m) (hb : Below w.heap.size w w') : HoldsT w' g m := by
  have hlt := h.lt
  obtain ⟨cur, h1, h2⟩ := h
  exact ⟨cur, by rw [hb.block g hlt]; exact h1, h2⟩
theorem HoldsT.set {w : World} {g m o : Nat} {vs : List Value} (h : HoldsT w g m) : HoldsT (w.setCells g o vs) g m := by
  obtain ⟨cur, h1, h2⟩ := h
  exact ⟨_, heap_setCells _ _ _ _ _ _ _ h1, by rw [putAt_size]; exact h2⟩
theorem HoldsT.there {w : World} {g m o n : Nat} (h : HoldsT w g m) (hn : o + n ≤ m) : w.there g o n := fun j hj => by
  obtain ⟨cur, h1, h2⟩ := h
  exact ⟨by rw [Lib.cell_of_heap h1, Array.getElem?_eq_getElem (by omega)]; rfl, Lib.frozen_of_heap h1 _⟩
theorem HoldsT.of_own {w : World} {base g n cap : Nat} {xs : List Value} (h : w.ownsRow base 31 12 (.slice (some ⟨g, 0, none⟩) n cap) n xs) : HoldsT w g (cap * 12) ∧ base ≤ g := by
  rcases h.2 with ⟨hv, _⟩ | ⟨g2, cap2, cur, hv, hb, hh, _, _, hcs, ht⟩
  · cases hv
  · injection hv with hA _ hcap
    injection hA with hA
    injection hA with hA
    subst hA
    subst hcap
    exact ⟨⟨cur, hh, by omega⟩, hb⟩
set_option maxRecDepth 10000 in
set_option maxHeartbeats 1000000 in
theorem overTriples (base g n cap : Nat) (w : World) (hH : HoldsT w g (cap * 12)) (hb : base ≤ g) (hn : n ≤ 900000) (hc : n ≤ cap) (hc2 : cap ≤ 9223372036854775807) :
    Calls Tryz.prog 20 #[.slice (some ⟨g, 0, none⟩) n cap] w fun e w' => (∃ v, e = .returned v) ∧ Below base w w' := by
  have hlt0 := hH.lt
  go_enter Tryz.func20, Tryz.ntmps20
  go_wp2
  obtain ⟨m, hm⟩ : ∃ m : Nat, m = min cap (n + 12) := ⟨_, rfl⟩
  have hmin : min (cap : Int) ((n : Int) + 12) = (m : Int) := by omega
  simp only [hmin, Int.toNat_natCast]
  have hm1 : m ≤ cap := by omega
  have hm2 : m ≤ n + 12 := by omega
  clear hm hmin
  go_loopw [3] (fun i wr => ∃ k : Nat, k ≤ m ∧ i = .int .i64 k ∧ Below base w wr ∧ HoldsT wr g (cap * 12)) (fun i _ => m - (intOf i).toNat)
  case atStart => exact ⟨0, by omega, rfl, Below.refl _ _, hH⟩
  case round =>
    obtain ⟨k, hk, rfl, hB, hH⟩ := hrel
    by_cases hlt : k < m
    · have hmk := fun W => markTp2 (k : Int) W (by omega) (by omega)
      go_wp2_with fail
      refine (hmk _).mono ?_
      rintro e w3 ⟨⟨s, rfl⟩, hb3⟩
      have hH3 := hH.below hb3
      have hth := hH3.there (o := k * 12) (n := 12) (by omega)
      have HH := Lib.hid hH3
      clear hH hH3
      go_wp2_with (with_reducible refine (?_ : wpList _ _ _ (_ :: []) _ _); with_reducible refine stay ?_)
      unfold Stay
      with_reducible refine wpList_store_tp ?gd ?px ?py ?ho g k ⟨⟨s, ⟨#[]⟩, ⟨#[]⟩, ⟨#[]⟩⟩, zTm, zTm⟩ ?hx ?hy ?ht ?hh
      case ho => rfl
      case gd => rfl
      case hx => rfl
      case hy => rfl
      case ht => exact hth
      go_wp2
      go_roundw
      case rel => exact ⟨k+1, by omega, by go_num, (hB.trans (hb3.mono (Nat.le_trans (Nat.le_trans hb (Nat.le_of_lt hlt0)) hB.size))).trans (below_setCells hb _ _ _), HH.out.set⟩
      case measure => simp [intOf]; omega
    · go_wp2
      ((try simp only [Exit.inBlock, Exit.then]); refine Go.Great.bodyPost_end0 rfl rfl ?_)
      exact ⟨⟨_, rfl⟩, hB⟩
set_option maxRecDepth 10000 in
set_option maxHeartbeats 2000000 in
theorem overNoneT (w : World) : Calls Tryz.prog 20 #[.slice none 0 0] w fun e w' => (∃ v, e = .returned v) ∧ Below w.heap.size w w' := by
  go_enter Tryz.func20, Tryz.ntmps20
  go_wp2
  simp only [show min (0 : Int) 12 = 0 by decide, show (0 : Int).toNat = 0 from rfl]
  go_loopw [3] (fun i wr => i = .int .i64 0 ∧ Below w.heap.size w wr) (fun _ _ => 0)
  case atStart => exact ⟨rfl, Below.refl _ _⟩
  case round =>
    obtain ⟨rfl, hB⟩ := hrel
    go_wp2
    ((try simp only [Exit.inBlock, Exit.then]); refine Go.Great.bodyPost_end0 rfl rfl ?_)
    exact ⟨⟨_, rfl⟩, hB⟩
/-- A list of the call's own, written over. -/
theorem overOwnT {w : World} {base n : Nat} {v : Value} {xs : List Value} (h : w.ownsRow base 31 12 v n xs) (hn : n ≤ 900000) (hb : base ≤ w.heap.size) :
    Calls Tryz.prog 20 #[v] w fun e w' => (∃ v, e = .returned v) ∧ Below base w w' := by
  have h0 := h
  rcases h0.2 with ⟨rfl, -⟩ | ⟨g, cap, cur, rfl, -, -, hle, hcap, -, -⟩
  · exact (overNoneT w).mono fun _ _ ⟨h1, h2⟩ => ⟨h1, h2.mono hb⟩
  · obtain ⟨hH, hb⟩ := HoldsT.of_own h
    exact overTriples base g n cap w hH hb hn hle (by simpa [maxLen] using hcap)
end Go.Proofs.YtpnlabjgmdhicaaGreatDoor
namespace Go.Proofs.YtpnlabjgmdhicaaGreatDoor
open Go Go.RowKit Um Fm Lx Tx

theorem showSize (l : List Tp) (A : Option Addr) (c : Nat) (w : World) (hC : CtxT w) (hr : Rd w A (l.flatMap tpL)) (hz : ∀ t ∈ l, smallP3 t) (hl : l.length ≤ 1000000) :
    Calls Tryz.prog 19 #[.slice A l.length c] w fun e w' => e = .returned (.int .i64 ((setTp l).length : Nat)) ∧ Below w.heap.size w w' := by
  have h1 := showSet l A c w hC hr hz hl
  unfold SetR at h1
  clear hr hC
  go_enter Tryz.func19, Tryz.ntmps19
  go_wp2_with fail
  refine h1.mono ?_
  rintro e w1 ⟨v, rfl, own, hb⟩
  obtain ⟨A1, c1, rfl, -, -⟩ := own_slice own
  have HB := Lib.hid hb
  clear own hb h1
  go_wp2
  go_ret
  exact ⟨rfl, HB.out⟩
set_option maxRecDepth 20000 in
set_option maxHeartbeats 8000000 in
theorem lawShowTells (l : List Tp) (A : Option Addr) (c : Nat) (w : World) (hC : CtxT w) (hr : Rd w A (l.flatMap tpL)) (hl : l.length ≤ 837723144947) (hz : ∀ t ∈ l, hugeTp t) :
    Calls Tryz.prog 4 #[.slice A l.length c] w fun e w' => e = .returned (.bool true) ∧ Below w.heap.size w w' := by
  have hg := lawGreat11 l A c w hr hl hz
  unfold GreatR at hg
  obtain ⟨N, hN⟩ : ∃ N, l.length = N := ⟨_, rfl⟩
  have HN := Lib.hid hN
  have HR := Lib.hid hr
  have HC := Lib.hid hC
  rw [hN] at hl hg ⊢
  clear hN hr hz hC
  go_enter Tryz.func4, Tryz.ntmps4
  go_wp2_with fail
  refine hg.mono ?_
  rintro e w1 ⟨⟨b, rfl, hbf⟩, b1⟩
  have HB1 := Lib.hid b1
  cases b
  · obtain ⟨hN1, hfit⟩ := hbf rfl
    replace hfit := fit_of hfit
    have hsm : ∀ t ∈ l, smallP t := fun t ht => (hfit t ht).small
    have Hsm := Lib.hid hsm
    have hlt := lentTriples l A c w1 (HR.out.later b1) (by rw [HN.out]; omega)
    rw [HN.out] at hlt
    clear hbf hg b1 hfit hsm
    go_wp2_with fail
    refine hlt.mono ?_
    rintro e w2 ⟨rfl, hl2, b2⟩
    have HB2 := Lib.hid (below_tr HB1.out b2)
    have hgw : w1.heap.size < w2.heap.size := hl2.lt
    generalize w1.heap.size = gg at *
    have HL2 := Lib.hid hl2
    clear hl2 b2 hlt
    go_wp2
    go_loopw [4] (fun i wr => ∃ k : Nat, k ≤ N ∧ i = .int .i64 k ∧ Below w2.heap.size w2 wr) (fun i _ => N - (intOf i).toNat)
    case atStart => exact ⟨0, by omega, rfl, Below.refl _ _⟩
    case round =>
      obtain ⟨k, hk, rfl, hB⟩ := hrel
      have HB := Lib.hid (below_tr HB2.out hB)
      have HBr := Lib.hid hB
      by_cases hlt : k < N
      · have hd1 : decide (k < N) = true := by simp; omega
        obtain ⟨t, ht⟩ : ∃ t, l[k]? = some t := ⟨_, List.getElem?_eq_getElem (by rw [HN.out]; exact hlt)⟩
        have hts := Hsm.out t (List.mem_of_getElem? ht)
        obtain ⟨g, o, rfl, a0, a1, a2, a3, a4, a5, a6, a7, a8, a9, a10, a11⟩ := rd_at12 (HR.out.later HB.out) ht
        have hl1 := showLine t wr (HC.out.step HB.out) hts
        have hl2 := fun W => refLine11 t W hts
        unfold LineR11 at hl1 hl2
        generalize lineS t = s at *
        generalize errTp t = er at *
        clear hB ht hts
        go_wp2_with fail
        refine hl1.mono ?_
        rintro e w3 ⟨rfl, b3⟩
        replace a0 := cell_on a0 b3
        replace a1 := cell_on a1 b3
        replace a2 := cell_on a2 b3
        replace a3 := cell_on a3 b3
        replace a4 := cell_on a4 b3
        replace a5 := cell_on a5 b3
        replace a6 := cell_on a6 b3
        replace a7 := cell_on a7 b3
        replace a8 := cell_on a8 b3
        replace a9 := cell_on a9 b3
        replace a10 := cell_on a10 b3
        replace a11 := cell_on a11 b3
        have HB3 := Lib.hid (below_tr HBr.out b3)
        clear b3 hl1
        go_wp2_with fail
        refine (hl2 _).mono ?_
        rintro e w4 ⟨rfl, b4⟩
        have HB4 := Lib.hid (below_tr HB3.out b4)
        clear b4 hl2 a0 a1 a2 a3 a4 a5 a6 a7 a8 a9 a10 a11
        go_wp2
        go_roundw
        case rel => exact ⟨k + 1, by omega, by go_num, HB4.out⟩
        case measure => simp [intOf]; omega
      · obtain rfl : k = N := by omega
        have hd1 : decide (k < k) = false := by simp
        have hlent := HL2.out.below hB hgw
        have hrin := hlent
        rw [List.flatMap_append] at hrin
        have hri := hrin.front
        have hC3 := HC.out.step HB.out
        have hz3 := hB.size
        have hf1 := showFile l (some ⟨gg, 0, none⟩) (k + 12) wr hC3 hri Hsm.out (by rw [HN.out]; omega)
        have hf2 := fun W (hb : Below wr.heap.size wr W) => refFile11 l A c W (HR.out.later (below_tr HB.out hb)) Hsm.out (by rw [HN.out]; omega)
        have hs1 := fun W (hb : Below wr.heap.size wr W) => showSet l (some ⟨gg, 0, none⟩) (k + 12) W (hC3.step hb) (hri.later hb) Hsm.out (by rw [HN.out]; omega)
        have hs2 := fun W (hb : Below wr.heap.size wr W) => refSet11 l A c W (HR.out.later (below_tr HB.out hb)) Hsm.out (by rw [HN.out]; omega)
        have hz1 := fun W (hb : Below wr.heap.size wr W) => showSize l (some ⟨gg, 0, none⟩) (k + 12) W (hC3.step hb) (hri.later hb) Hsm.out (by rw [HN.out]; omega)
        have hkp := fun W (hb : Below wr.heap.size wr W) => keptTriples l gg A c W (hlent.below hb (Nat.lt_of_lt_of_le hgw hz3)) (HR.out.later (below_tr HB.out hb)) (by rw [HN.out]; omega)
        have haw := fun W (hb : Below wr.heap.size wr W) => lawAwake11 W (hC3.step hb)
        have hml := set_len l
        rw [HN.out] at hf1 hml
        simp only [HN.out] at hf2 hs1 hs2 hz1 hkp
        unfold FileR at hf1 hf2
        unfold SetR at hs1 hs2
        generalize setTp l = m at *
        generalize fileP l = q at *
        obtain ⟨qs, qe⟩ := q
        simp only at hf1 hf2
        obtain ⟨M, hM⟩ : ∃ M, m.length = M := ⟨_, rfl⟩
        simp only [hM] at hs1 hs2 hz1
        have HM := Lib.hid hM
        have hM1 : M ≤ 1000 := by omega
        clear hB hlent hrin hri hC3 hM hml
        go_wp2_with fail
        refine hf1.mono ?_
        rintro e w3 ⟨rfl, b3⟩
        go_wp2_with fail
        refine (hf2 _ b3).mono ?_
        rintro e w4 ⟨rfl, b4⟩
        have b34 := below_tr b3 b4
        go_wp2_with fail
        refine (hs1 _ b34).mono ?_
        rintro e w5 ⟨v5, rfl, own5, b5⟩
        have s4 := b34.size
        have s5 := b5.size
        have b35 := below_tr b34 b5
        obtain ⟨A5, c5, rfl, -, r5⟩ := own_slice own5
        have hc6 := hs2 _ b35
        have Own5 := Lib.hid own5
        clear own5 b3 b4 b34 hf1 hf2 hs1 hs2
        go_wp2_with fail
        refine hc6.mono ?_
        rintro e w6 ⟨v6, rfl, own6, b6⟩
        have s6 := b6.size
        obtain ⟨A6, c6, rfl, -, r6⟩ := own_slice own6
        have b36 := below_tr b35 b6
        have hsm6 := kitSameTp m M A5 c5 A6 c6 w6 HM.out (by omega) (r5.later b6) r6
        have Own56 := Lib.hid (own_below Own5.out b6 (Nat.le_refl _))
        clear own6 b6 b35 hc6 r5 r6
        go_wp2_with fail
        refine hsm6.mono ?_
        rintro e w7 ⟨rfl, b7⟩
        have s7 := b7.size
        have b37 := below_tr b36 b7
        have Own57 := Lib.hid (own_below Own56.out b7 (Nat.le_refl _))
        have hz7 := hz1 _ b37
        have hqq : (qe == qe) = true := by simp
        clear b7 b36 hsm6 hz1
        go_wp2_with fail
        refine hz7.mono ?_
        rintro e w8 ⟨rfl, b8⟩
        have b38 := below_tr b37 b8
        have own8 := own_below Own57.out b8 (Nat.le_refl _)
        have s8 := b8.size
        have hov := overOwnT own8 (by omega) (by omega)
        have Hb38 := Lib.hid b38
        clear b8 b37 hz7 own8 b38
        go_wp2_with fail
        refine hov.mono ?_
        rintro e w9 ⟨⟨v9, rfl⟩, b9⟩
        have b39 := Hb38.out.trans (b9.mono s4)
        have hk9 := hkp _ b39
        clear b9 hov
        go_wp2_with fail
        refine hk9.mono ?_
        rintro e w10 ⟨rfl, b10⟩
        have b310 := below_tr b39 b10
        have hk10 := haw _ b310
        clear b10 b39 hk9
        go_wp2_with fail
        refine hk10.mono ?_
        rintro e w11 ⟨rfl, b11⟩
        have HB11 := Lib.hid (below_tr HB.out (below_tr b310 b11))
        clear b11 b310 hk10
        go_wp2
        go_ret
        exact ⟨rfl, HB11.out⟩
  · have ha := lawAwake11 w1 (HC.out.step b1)
    clear hbf hg b1
    go_wp2_with fail
    refine ha.mono ?_
    rintro e w2 ⟨rfl, b2⟩
    have HB2 := Lib.hid (below_tr HB1.out b2)
    clear b2
    go_wp2
    go_ret
    exact ⟨rfl, HB2.out⟩
end Go.Proofs.YtpnlabjgmdhicaaGreatDoor
namespace Go.Proofs.YtpnlabjgmdhicaaGreatDoor
open Go Go.RowKit Um Fm Lx Tx

def hasP (l : List Tp) (t : Tp) : Bool := l.any fun u => sameTp u t
theorem hasP_iff {l : List Tp} {t : Tp} : hasP l t = true ↔ t ∈ l := by
  unfold hasP
  rw [List.any_eq_true]
  constructor
  · rintro ⟨u, hu, h⟩
    rw [sameTp_iff] at h
    subst h; exact hu
  · exact fun h => ⟨t, h, sameTp_iff.2 rfl⟩
set_option maxRecDepth 20000 in
set_option maxHeartbeats 4000000 in
theorem lawHas11 (l : List Tp) (t : Tp) (A : Option Addr) (c : Nat) (w : World) (hr : Rd w A (l.flatMap tpL)) (hl : l.length ≤ 1000000) : Calls Tryz.prog 10 #[.slice A l.length c, tpA t] w fun e w' => e = .returned (.bool (hasP l t)) ∧ Below w.heap.size w w' := by
  have hb0 : Below w.heap.size w (w.alloc (.cells (tpC t) 31)) := (Below.refl _ w).alloc (Nat.le_refl _) _
  have hga := heap_alloc_new w (.cells (tpC t) 31)
  obtain ⟨N, hN⟩ : ∃ N, l.length = N := ⟨_, rfl⟩
  have HN := Lib.hid hN
  have HR := Lib.hid (hr.later hb0)
  have HB0 := Lib.hid hb0
  rw [hN] at hl ⊢
  have hzw : (w.alloc (.cells (tpC t) 31)).heap.size = w.heap.size + 1 := by simp
  obtain ⟨r, hres⟩ : ∃ r, hasP l t = r := ⟨_, rfl⟩
  rw [hres]
  have Hres := Lib.hid hres
  clear hN hr hb0 hres
  go_enter Tryz.func10, Tryz.ntmps10
  go_wp2
  generalize w.alloc (.cells (tpC t) 31) = w0 at *
  have HG := Lib.hid hga
  clear hga
  go_loopw [5] (fun i wr => ∃ k : Nat, k ≤ N ∧ i = .int .i64 k ∧ Hid (∀ u ∈ l.take k, sameTp u t = false) ∧ Below w0.heap.size w0 wr) (fun i _ => N - (intOf i).toNat)
  case atStart => exact ⟨0, by omega, rfl, by intro u hu; simp at hu, Below.refl _ _⟩
  case round =>
    obtain ⟨k, hk, rfl, HA, hB⟩ := hrel
    have HB := Lib.hid hB
    by_cases hlt : k < N
    · have hd1 : decide (k < N) = true := by simp; omega
      obtain ⟨u, hu⟩ : ∃ u, l[k]? = some u := ⟨_, List.getElem?_eq_getElem (by rw [HN.out]; exact hlt)⟩
      obtain ⟨g, o, rfl, a0, a1, a2, a3, a4, a5, a6, a7, a8, a9, a10, a11⟩ := rd_at12 (HR.out.later hB) hu
      have hblk := below_blk hB HG.out
      have b0 := cells_at hblk 0 rfl
      have b1 := cells_at hblk 1 rfl
      have b2 := cells_at hblk 2 rfl
      have b3 := cells_at hblk 3 rfl
      have b4 := cells_at hblk 4 rfl
      have b5 := cells_at hblk 5 rfl
      have b6 := cells_at hblk 6 rfl
      have b7 := cells_at hblk 7 rfl
      have b8 := cells_at hblk 8 rfl
      have b9 := cells_at hblk 9 rfl
      have b10 := cells_at hblk 10 rfl
      have b11 := cells_at hblk 11 rfl
      have hq := run_eqTp u t
      have Hu := Lib.hid hu
      clear hB hu hblk
      cases hs : sameTp u t
      · rw [hs] at hq
        have HA2 : Hid (∀ v ∈ l.take (k + 1), sameTp v t = false) := by
          intro v hv
          rw [take_snoc_of Hu.out, List.mem_append, List.mem_singleton] at hv
          rcases hv with hv | rfl
          · exact HA.out v hv
          · exact hs
        clear hs HA
        go_wp2
        go_quiet (fail)
        go_wp2
        go_roundw
        case rel => exact ⟨k + 1, by omega, by go_num, HA2, HB.out.os, HB.out.tape, HB.out.output, HB.out.size, HB.out.block⟩
        case measure => simp [intOf]; omega
      · rw [hs] at hq
        have hr1 : r = true := by rw [← Hres.out]; exact List.any_eq_true.2 ⟨u, List.mem_of_getElem? Hu.out, hs⟩
        subst hr1
        clear hs HA
        go_wp2
        go_quiet (fail)
        go_wp2
        go_ret
        exact ⟨rfl, below_tr HB0.out ⟨HB.out.os, HB.out.tape, HB.out.output, HB.out.size, HB.out.block⟩⟩
    · obtain rfl : k = N := by omega
      have hd1 : decide (k < k) = false := by simp
      have hr1 : r = false := by
        rw [← Hres.out]
        unfold hasP
        rw [List.any_eq_false]
        intro u hu
        have := HA.out u (by rw [List.take_of_length_le (by rw [HN.out]; exact Nat.le_refl _)]; exact hu)
        simp [this]
      subst hr1
      clear hB HA
      go_wp2
      go_ret
      exact ⟨rfl, below_tr HB0.out HB.out⟩
def sameTps : List Tp → List Tp → Bool
  | [], [] => true
  | a :: x, b :: y => sameTp a b && sameTps x y
  | _, _ => false
theorem sameTps_iff : ∀ {xs ys : List Tp}, sameTps xs ys = true ↔ xs = ys
  | [], [] => by simp [sameTps]
  | [], _ :: _ => by simp [sameTps]
  | _ :: _, [] => by simp [sameTps]
  | a :: x, b :: y => by
    have ih := sameTps_iff (xs := x) (ys := y)
    rw [sameTps, Bool.and_eq_true, sameTp_iff, ih, List.cons.injEq]
theorem sameTps_no {xs ys : List Tp} (h : xs ≠ ys) : sameTps xs ys = false := by
  cases hs : sameTps xs ys
  · rfl
  · exact absurd (sameTps_iff.1 hs) h
set_option maxRecDepth 20000 in
set_option maxHeartbeats 4000000 in
theorem kitSameTps (xs ys : List Tp) (A1 : Option Addr) (c1 : Nat) (A2 : Option Addr) (c2 : Nat) (w : World) (hl1 : xs.length ≤ 1000000) (hl2 : ys.length ≤ 1000000) (hr1 : Rd w A1 (xs.flatMap tpL)) (hr2 : Rd w A2 (ys.flatMap tpL)) :
    Calls Tryz.prog 13 #[.slice A1 xs.length c1, .slice A2 ys.length c2] w fun e w' => e = .returned (.bool (sameTps xs ys)) ∧ Below w.heap.size w w' := by
  obtain ⟨r, hres⟩ : ∃ r, sameTps xs ys = r := ⟨_, rfl⟩
  rw [hres]
  obtain ⟨N, hN⟩ : ∃ N, xs.length = N := ⟨_, rfl⟩
  obtain ⟨M, hM⟩ : ∃ M, ys.length = M := ⟨_, rfl⟩
  have Hres := Lib.hid hres
  have HN := Lib.hid hN
  have HM := Lib.hid hM
  have HR := Lib.hid (And.intro hr1 hr2)
  rw [hN] at hl1 ⊢
  rw [hM] at hl2 ⊢
  clear hN hM hr1 hr2 hres
  by_cases hNM : N = M
  · subst hNM
    go_enter Tryz.func13, Tryz.ntmps13
    go_wp2
    go_loopw [5] (fun i wr => ∃ k : Nat, k ≤ N ∧ i = .int .i64 k ∧ Hid (xs.take k = ys.take k) ∧ Below w.heap.size w wr) (fun i _ => N - (intOf i).toNat)
    case atStart => exact ⟨0, by omega, rfl, rfl, Below.refl _ _⟩
    case round =>
      obtain ⟨k, hk, rfl, HT, hB⟩ := hrel
      have HBr := Lib.hid hB
      by_cases hlt : k < N
      · have hd1 : decide (k < N) = true := by simp; omega
        obtain ⟨t, ht⟩ : ∃ t, xs[k]? = some t := ⟨_, List.getElem?_eq_getElem (by rw [HN.out]; exact hlt)⟩
        obtain ⟨u, hu⟩ : ∃ u, ys[k]? = some u := ⟨_, List.getElem?_eq_getElem (by rw [HM.out]; exact hlt)⟩
        obtain ⟨g, o, rfl, a0, a1, a2, a3, a4, a5, a6, a7, a8, a9, a10, a11⟩ := rd_at12 (HR.out.1.later hB) ht
        obtain ⟨p, q, rfl, b0, b1, b2, b3, b4, b5, b6, b7, b8, b9, b10, b11⟩ := rd_at12 (HR.out.2.later hB) hu
        have hq := run_neTp t u
        have Htu := Lib.hid (And.intro ht hu)
        clear ht hu hB
        cases hs : sameTp t u
        · rw [hs] at hq
          have hr1 : r = false := by
            rw [← Hres.out]
            refine sameTps_no fun h => ?_
            have h1 := Htu.out.1
            rw [h, Htu.out.2] at h1
            injection h1 with h1
            subst h1
            rw [sameTp_iff.2 rfl] at hs
            cases hs
          subst hr1
          clear hs HT
          go_wp2
          go_quiet (fail)
          go_wp2
          go_ret
          exact ⟨rfl, HBr.out.os, HBr.out.tape, HBr.out.output, HBr.out.size, HBr.out.block⟩
        · rw [hs] at hq
          have HT2 : Hid (xs.take (k + 1) = ys.take (k + 1)) := by
            show _ = _
            rw [take_snoc_of Htu.out.1, take_snoc_of Htu.out.2, HT.out, sameTp_iff.1 hs]
          clear hs HT
          go_wp2
          go_quiet (fail)
          go_wp2
          go_roundw
          case rel => exact ⟨k + 1, by omega, by go_num, HT2, HBr.out.os, HBr.out.tape, HBr.out.output, HBr.out.size, HBr.out.block⟩
          case measure => simp [intOf]; omega
      · obtain rfl : k = N := by omega
        have hd1 : decide (k < k) = false := by simp
        have hr1 : r = true := by
          rw [← Hres.out, sameTps_iff]
          have := HT.out
          rwa [List.take_of_length_le (by rw [HN.out]; exact Nat.le_refl _), List.take_of_length_le (by rw [HM.out]; exact Nat.le_refl _)] at this
        subst hr1
        clear hB HT
        go_wp2
        go_ret
        exact ⟨rfl, HBr.out⟩
  · have hr1 : r = false := by
      rw [← Hres.out]
      refine sameTps_no fun h => ?_
      apply hNM
      rw [← HN.out, ← HM.out, h]
    subst hr1
    have hd : ((N : Int) != (M : Int)) = true := by simp; omega
    go_enter Tryz.func13, Tryz.ntmps13
    go_wp2
    go_ret
    exact ⟨rfl, Below.refl _ _⟩
end Go.Proofs.YtpnlabjgmdhicaaGreatDoor
namespace Go.Proofs.YtpnlabjgmdhicaaGreatDoor
open Go Go.RowKit Um Fm Lx Tx

theorem rise_at {m : List Tp} (h : Rise m) {i : Nat} {x y : Tp} (hx : m[i - 1]? = some x) (hy : m[i]? = some y) (hi : 0 < i) : cmpTp x y < 0 := by
  obtain ⟨j, rfl⟩ : ∃ j, i = j + 1 := ⟨i - 1, by omega⟩
  rw [Nat.add_sub_cancel] at hx
  unfold Rise at h
  rw [List.pairwise_iff_getElem] at h
  obtain ⟨h1, e1⟩ := List.getElem?_eq_some_iff.1 hx
  obtain ⟨h2, e2⟩ := List.getElem?_eq_some_iff.1 hy
  have := h j (j + 1) h1 h2 (by omega)
  rwa [e1, e2] at this
theorem mem_at {m : List Tp} {i : Nat} {x : Tp} (h : m[i]? = some x) : x ∈ m := List.mem_of_getElem? h
set_option maxRecDepth 20000 in
set_option maxHeartbeats 16000000 in
theorem lawShowSet (a : List Tp) (A1 : Option Addr) (c1 : Nat) (b : List Tp) (A2 : Option Addr) (c2 : Nat) (w : World) (hC : CtxT w) (hr1 : Rd w A1 (a.flatMap tpL)) (hl1 : a.length ≤ 837723144947) (hz1 : ∀ t ∈ a, hugeTp t) (hr2 : Rd w A2 (b.flatMap tpL)) (hl2 : b.length ≤ 837723144947) (hz2 : ∀ t ∈ b, hugeTp t) :
    Calls Tryz.prog 3 #[.slice A1 a.length c1, .slice A2 b.length c2] w fun e w' => e = .returned (.bool true) ∧ Below w.heap.size w w' := by
  have ha := lawAwake11 w hC
  have hg1 := fun W (hB : Below w.heap.size w W) => lawGreat11 a A1 c1 W (hr1.later hB) hl1 hz1
  have hg2 := fun W (hB : Below w.heap.size w W) => lawGreat11 b A2 c2 W (hr2.later hB) hl2 hz2
  unfold GreatR at hg1 hg2
  have HC := Lib.hid hC
  have HR1 := Lib.hid hr1
  have HR2 := Lib.hid hr2
  obtain ⟨N1, hN1⟩ : ∃ N, a.length = N := ⟨_, rfl⟩
  obtain ⟨N2, hN2⟩ : ∃ N, b.length = N := ⟨_, rfl⟩
  have HN1 := Lib.hid hN1
  have HN2 := Lib.hid hN2
  simp only [hN1] at hg1 hl1 ⊢
  simp only [hN2] at hg2 hl2 ⊢
  clear hC hr1 hr2 hz1 hz2 hN1 hN2
  go_enter Tryz.func3, Tryz.ntmps3
  go_wp2_with fail
  refine ha.mono ?_
  rintro e w1 ⟨rfl, b1⟩
  go_wp2_with fail
  refine (hg1 _ b1).mono ?_
  rintro e w2 ⟨⟨g1, rfl, hf1⟩, b2⟩
  have b12 := below_tr b1 b2
  cases g1
  · obtain ⟨q1, hfit1⟩ := hf1 rfl
    replace hfit1 := fit_of hfit1
    have Hf1 := Lib.hid hfit1
    clear hf1 hg1 b1 b2 hfit1 ha
    go_wp2_with fail
    refine (hg2 _ b12).mono ?_
    rintro e w3 ⟨⟨g2, rfl, hf2⟩, b3⟩
    have b13 := below_tr b12 b3
    cases g2
    · obtain ⟨q2, hfit2⟩ := hf2 rfl
      replace hfit2 := fit_of hfit2
      have hs1 : ∀ t ∈ a, smallP t := fun t ht => (Hf1.out t ht).small
      have hs2 : ∀ t ∈ b, smallP t := fun t ht => (hfit2 t ht).small
      have hst1 := showSet a A1 c1 w3 (HC.out.step b13) (HR1.out.later b13) hs1 (by rw [HN1.out]; omega)
      have hst2 := fun W (hB : Below w3.heap.size w3 W) => showSet b A2 c2 W (HC.out.step (below_tr b13 hB)) (HR2.out.later (below_tr b13 hB)) hs2 (by rw [HN2.out]; omega)
      have hfl1 := fun W (hB : Below w3.heap.size w3 W) => showFile a A1 c1 W (HC.out.step (below_tr b13 hB)) (HR1.out.later (below_tr b13 hB)) hs1 (by rw [HN1.out]; omega)
      have hfl2 := fun W (hB : Below w3.heap.size w3 W) => showFile b A2 c2 W (HC.out.step (below_tr b13 hB)) (HR2.out.later (below_tr b13 hB)) hs2 (by rw [HN2.out]; omega)
      have Hs1 := Lib.hid hs1
      have Hs2 := Lib.hid hs2
      unfold SetR at hst1 hst2
      unfold FileR at hfl1 hfl2
      have Hfl1 := Lib.hid hfl1
      have Hfl2 := Lib.hid hfl2
      simp only [HN1.out] at hst1 Hfl1
      simp only [HN2.out] at hst2 Hfl2
      have hm1 := set_len a
      have hm2 := set_len b
      rw [HN1.out] at hm1
      rw [HN2.out] at hm2
      obtain ⟨x, hx⟩ : ∃ x, setTp a = x := ⟨_, rfl⟩
      obtain ⟨y, hy⟩ : ∃ y, setTp b = y := ⟨_, rfl⟩
      have Hx := Lib.hid hx
      have Hy := Lib.hid hy
      rw [hx] at hst1 hm1
      simp only [hy] at hst2 hm2
      obtain ⟨M1, hM1⟩ : ∃ N, x.length = N := ⟨_, rfl⟩
      obtain ⟨M2, hM2⟩ : ∃ N, y.length = N := ⟨_, rfl⟩
      have HM1 := Lib.hid hM1
      have HM2 := Lib.hid hM2
      rw [hM1] at hst1 hm1
      simp only [hM2] at hst2 hm2
      have Hb13 := Lib.hid b13
      clear hg2 hf2 hfit2 hs1 hs2 hfl1 hfl2 hx hy hM1 hM2 b12 b3 b13
      go_wp2_with fail
      refine hst1.mono ?_
      rintro e w4 ⟨v4, rfl, own4, b4⟩
      obtain ⟨A4, c4, rfl, -, r4⟩ := own_slice own4
      have hst2 := hst2 _ b4
      clear hst1 own4
      go_wp2_with fail
      refine hst2.mono ?_
      rintro e w5 ⟨v5, rfl, own5, b5⟩
      obtain ⟨A5, c5, rfl, -, r5⟩ := own_slice own5
      have HR4 := Lib.hid (r4.later b5)
      have HR5 := Lib.hid r5
      have HB5 := Lib.hid (below_tr b4 b5)
      clear own5 b4 b5 r4 r5 hst2
      go_wp2
      go_loopw [7] (fun i wr => ∃ k : Nat, k ≤ M1 ∧ i = .int .i64 k ∧ Below w5.heap.size w5 wr) (fun i _ => M1 - (intOf i).toNat)
      case atStart => exact ⟨0, by omega, rfl, Below.refl _ _⟩
      case round =>
        obtain ⟨k, hk, rfl, hB⟩ := hrel
        have HBr := Lib.hid hB
        by_cases hlt : k < M1
        · have hd1 : decide (k < M1) = true := by simp; omega
          obtain ⟨t, ht⟩ : ∃ t, x[k]? = some t := ⟨_, List.getElem?_eq_getElem (by rw [HM1.out]; exact hlt)⟩
          obtain ⟨g, o, rfl, a0, a1, a2, a3, a4, a5, a6, a7, a8, a9, a10, a11⟩ := rd_at12 (HR4.out.later hB) ht
          have hh := fun W (hb : Below wr.heap.size wr W) => lawHas11 a t A1 c1 W (HR1.out.later (below_tr Hb13.out (below_tr HB5.out (below_tr hB hb)))) (by rw [HN1.out]; omega)
          simp only [HN1.out] at hh
          have hin : hasP a t = true := by rw [hasP_iff, ← set_mem, Hx.out]; exact mem_at ht
          rw [hin] at hh
          have y0 : ∀ d os, (Sort.grow (redrawn wr d) os).cell? ⟨g, o + k * 12, none⟩ = some (.int .i64 t.s.k) := fun d os => cell_on a0 (below_regrown wr d os)
          have y1 : ∀ d os, (Sort.grow (redrawn wr d) os).cell? ⟨g, o + k * 12 + 1, none⟩ = some (.string t.s.x) := fun d os => cell_on a1 (below_regrown wr d os)
          have y2 : ∀ d os, (Sort.grow (redrawn wr d) os).cell? ⟨g, o + k * 12 + 2, none⟩ = some (.string t.s.l) := fun d os => cell_on a2 (below_regrown wr d os)
          have y3 : ∀ d os, (Sort.grow (redrawn wr d) os).cell? ⟨g, o + k * 12 + 3, none⟩ = some (.string t.s.y) := fun d os => cell_on a3 (below_regrown wr d os)
          have y4 : ∀ d os, (Sort.grow (redrawn wr d) os).cell? ⟨g, o + k * 12 + 4, none⟩ = some (.int .i64 t.p.k) := fun d os => cell_on a4 (below_regrown wr d os)
          have y5 : ∀ d os, (Sort.grow (redrawn wr d) os).cell? ⟨g, o + k * 12 + 5, none⟩ = some (.string t.p.x) := fun d os => cell_on a5 (below_regrown wr d os)
          have y6 : ∀ d os, (Sort.grow (redrawn wr d) os).cell? ⟨g, o + k * 12 + 6, none⟩ = some (.string t.p.l) := fun d os => cell_on a6 (below_regrown wr d os)
          have y7 : ∀ d os, (Sort.grow (redrawn wr d) os).cell? ⟨g, o + k * 12 + 7, none⟩ = some (.string t.p.y) := fun d os => cell_on a7 (below_regrown wr d os)
          have y8 : ∀ d os, (Sort.grow (redrawn wr d) os).cell? ⟨g, o + k * 12 + 8, none⟩ = some (.int .i64 t.o.k) := fun d os => cell_on a8 (below_regrown wr d os)
          have y9 : ∀ d os, (Sort.grow (redrawn wr d) os).cell? ⟨g, o + k * 12 + 9, none⟩ = some (.string t.o.x) := fun d os => cell_on a9 (below_regrown wr d os)
          have y10 : ∀ d os, (Sort.grow (redrawn wr d) os).cell? ⟨g, o + k * 12 + 10, none⟩ = some (.string t.o.l) := fun d os => cell_on a10 (below_regrown wr d os)
          have y11 : ∀ d os, (Sort.grow (redrawn wr d) os).cell? ⟨g, o + k * 12 + 11, none⟩ = some (.string t.o.y) := fun d os => cell_on a11 (below_regrown wr d os)
          clear a0 a1 a2 a3 a4 a5 a6 a7 a8 a9 a10 a11 hin
          by_cases hk0 : 0 < k
          · have hd2 : decide (0 < k) = true := by simp; omega
            obtain ⟨u, hu⟩ : ∃ u, x[k - 1]? = some u := ⟨_, List.getElem?_eq_getElem (by rw [HM1.out]; omega)⟩
            obtain ⟨g', o', he, a0, a1, a2, a3, a4, a5, a6, a7, a8, a9, a10, a11⟩ := rd_at12 (HR4.out.later hB) hu
            injection he with he; injection he with h5 h6; subst h5; subst h6
            have hn := rise_at (by rw [← Hx.out]; exact set_rise a) hu ht hk0
            have hcm := fun W (hb : Below wr.heap.size wr W) => termTriples u t W (HC.out.step (below_tr Hb13.out (below_tr HB5.out (below_tr hB hb)))) (Hs1.out u (by rw [← set_mem, Hx.out]; exact mem_at hu)) (Hs1.out t (by rw [← set_mem, Hx.out]; exact mem_at ht))
            generalize cmpTp u t = n at *
            have hd3 : decide (0 ≤ n) = false := by simp; omega
            have hk9 : k - 1 < M1 := by omega
            have z0 : ∀ d os, (Sort.grow (redrawn wr d) os).cell? ⟨g, o + (k - 1) * 12, none⟩ = some (.int .i64 u.s.k) := fun d os => cell_on a0 (below_regrown wr d os)
            have z1 : ∀ d os, (Sort.grow (redrawn wr d) os).cell? ⟨g, o + (k - 1) * 12 + 1, none⟩ = some (.string u.s.x) := fun d os => cell_on a1 (below_regrown wr d os)
            have z2 : ∀ d os, (Sort.grow (redrawn wr d) os).cell? ⟨g, o + (k - 1) * 12 + 2, none⟩ = some (.string u.s.l) := fun d os => cell_on a2 (below_regrown wr d os)
            have z3 : ∀ d os, (Sort.grow (redrawn wr d) os).cell? ⟨g, o + (k - 1) * 12 + 3, none⟩ = some (.string u.s.y) := fun d os => cell_on a3 (below_regrown wr d os)
            have z4 : ∀ d os, (Sort.grow (redrawn wr d) os).cell? ⟨g, o + (k - 1) * 12 + 4, none⟩ = some (.int .i64 u.p.k) := fun d os => cell_on a4 (below_regrown wr d os)
            have z5 : ∀ d os, (Sort.grow (redrawn wr d) os).cell? ⟨g, o + (k - 1) * 12 + 5, none⟩ = some (.string u.p.x) := fun d os => cell_on a5 (below_regrown wr d os)
            have z6 : ∀ d os, (Sort.grow (redrawn wr d) os).cell? ⟨g, o + (k - 1) * 12 + 6, none⟩ = some (.string u.p.l) := fun d os => cell_on a6 (below_regrown wr d os)
            have z7 : ∀ d os, (Sort.grow (redrawn wr d) os).cell? ⟨g, o + (k - 1) * 12 + 7, none⟩ = some (.string u.p.y) := fun d os => cell_on a7 (below_regrown wr d os)
            have z8 : ∀ d os, (Sort.grow (redrawn wr d) os).cell? ⟨g, o + (k - 1) * 12 + 8, none⟩ = some (.int .i64 u.o.k) := fun d os => cell_on a8 (below_regrown wr d os)
            have z9 : ∀ d os, (Sort.grow (redrawn wr d) os).cell? ⟨g, o + (k - 1) * 12 + 9, none⟩ = some (.string u.o.x) := fun d os => cell_on a9 (below_regrown wr d os)
            have z10 : ∀ d os, (Sort.grow (redrawn wr d) os).cell? ⟨g, o + (k - 1) * 12 + 10, none⟩ = some (.string u.o.l) := fun d os => cell_on a10 (below_regrown wr d os)
            have z11 : ∀ d os, (Sort.grow (redrawn wr d) os).cell? ⟨g, o + (k - 1) * 12 + 11, none⟩ = some (.string u.o.y) := fun d os => cell_on a11 (below_regrown wr d os)
            clear a0 a1 a2 a3 a4 a5 a6 a7 a8 a9 a10 a11 hn hu ht hB
            go_wp2
            refine wp_region_quiet_below (by kernel_rfl) (by kernel_rfl) ?_; (repeat (any_goals (go_big_quiet_step ((first | (go_at_call 10; with_reducible exact Calls.regrown_of (hh _ (below_regrown _ _ _))) | (go_at_call 11; with_reducible exact Calls.regrown_of (hcm _ (below_regrown _ _ _)))))))); all_goals (refine wpQuiet_nil ?_; intro _ hw9; obtain ⟨⟨d9, os9⟩, hw8⟩ := hw9; subst hw8)
            have kq := below_tr HBr.out (below_regrown wr d9 os9)
            go_wp2
            go_roundw
            case rel => exact ⟨k + 1, by omega, by go_num, kq⟩
            case measure => simp [intOf]; omega
          · have hd2 : decide (0 < k) = false := by simp; omega
            clear ht hB
            go_wp2
            refine wp_region_quiet_below (by kernel_rfl) (by kernel_rfl) ?_; (repeat (any_goals (go_big_quiet_step ((first | (go_at_call 10; with_reducible exact Calls.regrown_of (hh _ (below_regrown _ _ _)))))))); all_goals (refine wpQuiet_nil ?_; intro _ hw9; obtain ⟨⟨d9, os9⟩, hw8⟩ := hw9; subst hw8)
            have kq := below_tr HBr.out (below_regrown wr d9 os9)
            go_wp2
            go_roundw
            case rel => exact ⟨k + 1, by omega, by go_num, kq⟩
            case measure => simp [intOf]; omega
        · obtain rfl : k = M1 := by omega
          have hd1 : decide (k < k) = false := by simp
          have HBk := Lib.hid (below_tr HB5.out hB)
          have HR6 := Lib.hid (HR4.out.later hB)
          have HR7 := Lib.hid (HR5.out.later hB)
          clear hB
          go_wp2
          obtain ⟨wk, rfl⟩ : ∃ wk, wk = wr := ⟨_, rfl⟩
          go_loopw [8] (fun i wr => ∃ j : Nat, j ≤ N1 ∧ i = .int .i64 j ∧ Below wk.heap.size wk wr) (fun i _ => N1 - (intOf i).toNat)
          case atStart => exact ⟨0, by omega, rfl, Below.refl _ _⟩
          case round =>
            obtain ⟨j, hj, rfl, hB9⟩ := hrel
            have HB9 := Lib.hid hB9
            by_cases hlt2 : j < N1
            · have hd2 : decide (j < N1) = true := by simp; omega
              obtain ⟨t, ht⟩ : ∃ t, a[j]? = some t := ⟨_, List.getElem?_eq_getElem (by rw [HN1.out]; exact hlt2)⟩
              obtain ⟨g, o, rfl, a0, a1, a2, a3, a4, a5, a6, a7, a8, a9, a10, a11⟩ := rd_at12 (HR1.out.later (below_tr Hb13.out (below_tr HBk.out hB9))) ht
              have hh := lawHas11 x t A4 c4 wr (HR6.out.later hB9) (by rw [HM1.out]; omega)
              have hin : hasP x t = true := by rw [hasP_iff, ← Hx.out, set_mem]; exact mem_at ht
              rw [hin, HM1.out] at hh
              clear hin ht hB9
              go_wp2_with fail
              refine hh.mono ?_
              rintro e w6 ⟨rfl, b6⟩
              have HB6 := Lib.hid (below_tr HB9.out b6)
              clear b6 hh
              go_wp2
              go_roundw
              case rel => exact ⟨j + 1, by omega, by go_num, HB6.out⟩
              case measure => simp [intOf]; omega
            · have hd2 : decide (j < N1) = false := by simp; omega
              have hq1 := Hfl1.out _ (below_tr HBk.out hB9)
              have hq2 := fun W (hb : Below wr.heap.size wr W) => Hfl2.out W (below_tr HBk.out (below_tr hB9 hb))
              have hsm := fun W (hb : Below wr.heap.size wr W) => kitSameTps x y A4 c4 A5 c5 W (by rw [HM1.out]; omega) (by rw [HM2.out]; omega) (HR6.out.later (below_tr hB9 hb)) (HR7.out.later (below_tr hB9 hb))
              simp only [HM1.out, HM2.out] at hsm
              have key : ∃ (sa sb : ByteArray) (ea eb : Int) (r : Bool), fileP a = (sa, ea) ∧ fileP b = (sb, eb) ∧ sameTps x y = r ∧ ((ea != (0 : Int)) = true ∨ (ea = 0 ∧ (eb != (0 : Int)) = true) ∨ (ea = 0 ∧ eb = 0 ∧ (sa.toList == sb.toList) = r)) := by
                refine ⟨(fileP a).1, (fileP b).1, (fileP a).2, (fileP b).2, sameTps x y, rfl, rfl, rfl, ?_⟩
                by_cases h1 : errF a = 0
                · by_cases h2 : errF b = 0
                  · refine .inr (.inr ⟨by unfold fileP; rw [if_pos h1], by unfold fileP; rw [if_pos h2], ?_⟩)
                    by_cases hxy : x = y
                    · have h3 := (file_same h1 h2).2 (by rw [Hx.out, Hy.out]; exact hxy)
                      rw [sameTps_iff.2 hxy, h3]; simp
                    · rw [sameTps_no hxy]
                      have h3 : (fileP a).1 ≠ (fileP b).1 := fun e => hxy (by rw [← Hx.out, ← Hy.out]; exact (file_same h1 h2).1 e)
                      rw [beq_eq_false_iff_ne]
                      intro e
                      rw [ByteArray.toList_eq, ByteArray.toList_eq] at e
                      exact h3 (ba_ext e)
                  · refine .inr (.inl ⟨by unfold fileP; rw [if_pos h1], ?_⟩)
                    unfold fileP; rw [if_neg h2]; simpa using h2
                · refine .inl ?_
                  unfold fileP; rw [if_neg h1]; simpa using h1
              obtain ⟨sa, sb, ea, eb, r, k1, k2, k3, k4⟩ := key
              rw [k1] at hq1
              simp only [k2] at hq2
              rw [k3] at hsm
              clear k1 k2 k3 hB9
              have HB8 := Lib.hid (below_tr Hb13.out (below_tr HBk.out HB9.out))
              rcases k4 with k4 | ⟨rfl, k4⟩ | ⟨rfl, rfl, k4⟩
              · clear hsm
                go_wp2_with fail
                refine hq1.mono ?_
                rintro e w6 ⟨rfl, b6⟩
                have hq2 := hq2 _ b6
                clear hq1
                go_wp2_with fail
                refine hq2.mono ?_
                rintro e w7 ⟨rfl, b7⟩
                have HB7 := Lib.hid (below_tr HB8.out (below_tr b6 b7))
                clear b6 b7 hq2
                go_wp2
                go_ret
                exact ⟨rfl, HB7.out⟩
              · clear hsm
                go_wp2_with fail
                refine hq1.mono ?_
                rintro e w6 ⟨rfl, b6⟩
                have hq2 := hq2 _ b6
                clear hq1
                go_wp2_with fail
                refine hq2.mono ?_
                rintro e w7 ⟨rfl, b7⟩
                have HB7 := Lib.hid (below_tr HB8.out (below_tr b6 b7))
                clear b6 b7 hq2
                go_wp2
                go_ret
                exact ⟨rfl, HB7.out⟩
              · go_wp2_with fail
                refine hq1.mono ?_
                rintro e w6 ⟨rfl, b6⟩
                have hq2 := hq2 _ b6
                clear hq1
                go_wp2_with fail
                refine hq2.mono ?_
                rintro e w7 ⟨rfl, b7⟩
                have b67 := below_tr b6 b7
                have hsm := hsm _ b67
                clear b6 b7 hq2
                cases r
                · go_wp2_with fail
                  refine hsm.mono ?_
                  rintro e w8 ⟨rfl, b8⟩
                  have HB7 := Lib.hid (below_tr HB8.out (below_tr b67 b8))
                  clear b8 b67 hsm
                  go_wp2
                  go_ret
                  exact ⟨rfl, HB7.out⟩
                · go_wp2_with fail
                  refine hsm.mono ?_
                  rintro e w8 ⟨rfl, b8⟩
                  have HB7 := Lib.hid (below_tr HB8.out (below_tr b67 b8))
                  clear b8 b67 hsm
                  go_wp2
                  go_ret
                  exact ⟨rfl, HB7.out⟩
    · clear hg2 hf2 Hf1 b3 b12
      go_wp2
      go_ret
      exact ⟨rfl, b13⟩
  · clear hg2 hf1 hg1 b1 b2 ha
    go_wp2
    go_ret
    exact ⟨rfl, b12⟩
end Go.Proofs.YtpnlabjgmdhicaaGreatDoor
namespace Go.Proofs.YtpnlabjgmdhicaaGreatDoor
open Go Go.RowKit Um Fm Lx Tx
theorem rd_flat12 {w : World} {A : Option Addr} {l : List Tp} (h : RdL 12 (fun cs (t : Tp) => cs = (tpC t).toList) w A l) : Rd w A (l.flatMap tpL) := by
  obtain ⟨xs, hr, ha⟩ := h
  have e : l.flatMap tpL = xs := ha.flat.symm
  rw [e]; exact hr
theorem lawShowTellsQ (l : List Tp) (A : Option Addr) (c : Nat) (w : World) (hC : CtxT w) (hr : RdL 12 (fun cs (t : Tp) => cs = (tpC t).toList) w A l) (hl : l.length ≤ 837723144947) (hz : ∀ t ∈ l, hugeTp t) :
    Calls Tryz.prog 4 #[.slice A l.length c] w fun e w' => e = .returned (.bool true) ∧ Below w.heap.size w w' := lawShowTells l A c w hC (rd_flat12 hr) hl hz
theorem lawShowSetQ (a : List Tp) (A1 : Option Addr) (c1 : Nat) (b : List Tp) (A2 : Option Addr) (c2 : Nat) (w : World) (hC : CtxT w) (hr1 : RdL 12 (fun cs (t : Tp) => cs = (tpC t).toList) w A1 a) (hl1 : a.length ≤ 837723144947) (hz1 : ∀ t ∈ a, hugeTp t) (hr2 : RdL 12 (fun cs (t : Tp) => cs = (tpC t).toList) w A2 b) (hl2 : b.length ≤ 837723144947) (hz2 : ∀ t ∈ b, hugeTp t) :
    Calls Tryz.prog 3 #[.slice A1 a.length c1, .slice A2 b.length c2] w fun e w' => e = .returned (.bool true) ∧ Below w.heap.size w w' := lawShowSet a A1 c1 b A2 c2 w hC (rd_flat12 hr1) hl1 hz1 (rd_flat12 hr2) hl2 hz2
end Go.Proofs.YtpnlabjgmdhicaaGreatDoor
