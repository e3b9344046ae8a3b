/- Layer 11's laws: great, awake, has. The answer's Line. Parts of rows of triples. -/
import Derived.Test.YthdlepalglgmoaaGreatDoorJOpenT
import Derived.Test.YthdlepalglgmoaaGreatDoorJR8g
import Derived.Test.YthdlepalglgmoaaGreatDoorJR8e
import Derived.Test.YthdlepalglgmoaaGreatDoorJDrawn
import Derived.Test.YthdlepalglgmoaaGreatDoorJShRow
import Derived.Deep.MidRow
namespace Go.Proofs.YthdlepalglgmoaaGreatDoor
open Go Go.RowKit Um Fm Lx Tx

/-- How many bytes a triple's texts have. -/
def szTp (t : Tp) : Nat := t.s.x.size + t.s.l.size + t.s.y.size + t.p.x.size + t.p.l.size + t.p.y.size + t.o.x.size + t.o.l.size + t.o.y.size
def sumTp (l : List Tp) : Nat := (l.map szTp).sum
theorem sum_snoc (l : List Tp) (t : Tp) : sumTp (l ++ [t]) = sumTp l + szTp t := by unfold sumTp; simp
theorem sum_le : ∀ {l : List Tp}, (∀ t ∈ l, hugeTp t) → sumTp l ≤ l.length * 2533274790395904
  | [], _ => Nat.zero_le _
  | t :: l, h => by
    have h1 := sum_le (l := l) fun u hu => h u (by simp [hu])
    obtain ⟨⟨a, b, c⟩, ⟨d, e, f⟩, ⟨g, i, j⟩⟩ := h t (by simp)
    unfold sumTp at h1 ⊢
    rw [List.map_cons, List.sum_cons, List.length_cons]
    have hs : szTp t ≤ 2533274790395904 := by unfold szTp; omega
    omega
theorem sum_mem : ∀ {l : List Tp} {t : Tp}, t ∈ l → szTp t ≤ sumTp l
  | u :: l, t, h => by
    unfold sumTp
    rw [List.map_cons, List.sum_cons]
    rw [List.mem_cons] at h
    rcases h with rfl | h
    · omega
    · have := sum_mem h
      unfold sumTp at this
      omega
/-- Texts that are gone through. -/
def fitT (t : Tm) : Prop := t.x.size ≤ 20000 ∧ t.l.size ≤ 20000 ∧ t.y.size ≤ 20000
def fitTp (t : Tp) : Prop := fitT t.s ∧ fitT t.p ∧ fitT t.o
theorem fitTp.small {t : Tp} (h : fitTp t) : smallP t := by
  obtain ⟨⟨a, b, c⟩, ⟨d, e, f⟩, ⟨g, i, j⟩⟩ := h
  exact ⟨⟨by omega, by omega, by omega⟩, ⟨by omega, by omega, by omega⟩, ⟨by omega, by omega, by omega⟩⟩
theorem fit_of {l : List Tp} (h : sumTp l ≤ 20000) : ∀ t ∈ l, fitTp t := fun t ht => by
  have := sum_mem ht
  unfold szTp at this
  exact ⟨⟨by omega, by omega, by omega⟩, ⟨by omega, by omega, by omega⟩, ⟨by omega, by omega, by omega⟩⟩
/-- What great says. -/
def GreatR (l : List Tp) (w : World) (e : Ending) (w' : World) : Prop := (∃ b : Bool, e = .returned (.bool b) ∧ (b = false → l.length ≤ 120 ∧ sumTp l ≤ 20000)) ∧ Below w.heap.size w w'
set_option maxRecDepth 20000 in
set_option maxHeartbeats 4000000 in
theorem lawGreat11 (l : List Tp) (A : Option Addr) (c : Nat) (w : World) (hr : Rd w A (l.flatMap tpL)) (hl : l.length ≤ 837723144947) (hz : ∀ t ∈ l, hugeTp t) : Calls Tryz.prog 12 #[.slice A l.length c] w (GreatR l w) := by
  have hR9 : ∀ e w', GreatR l w e w' → GreatR l w e w' := fun _ _ h => h
  have hsm : ∀ k, sumTp (l.take k) ≤ k * 2533274790395904 := fun k => by
    have := sum_le (l := l.take k) fun t ht => hz t (List.mem_of_mem_take ht)
    rw [List.length_take] at this
    refine Nat.le_trans this (Nat.mul_le_mul_right _ (Nat.min_le_left _ _))
  obtain ⟨N, hN⟩ : ∃ N, l.length = N := ⟨_, rfl⟩
  have HN := Lib.hid hN
  have HR := Lib.hid hr
  have Hz := Lib.hid hz
  have Hsm := Lib.hid hsm
  rw [hN] at hl ⊢
  clear hN hr hz hsm
  go_enter Tryz.func12, Tryz.ntmps12
  go_wp2
  go_loopw [3, 4] (fun n i wr => ∃ k s : Nat, k ≤ N ∧ k ≤ 121 ∧ i = .int .i64 k ∧ n = .int .i64 s ∧ Hid (s = sumTp (l.take k)) ∧ Below w.heap.size w wr) (fun _ i _ => 121 - (intOf i).toNat)
  case atStart => exact ⟨0, 0, by omega, by omega, rfl, rfl, rfl, Below.refl _ _⟩
  case round =>
    obtain ⟨k, s, hk, hk1, rfl, rfl, HS, hB⟩ := hrel
    have HB := Lib.hid hB
    have hsb : s ≤ k * 2533274790395904 := by rw [HS.out]; exact Hsm.out k
    by_cases hlt : k < N ∧ k ≤ 120
    · obtain ⟨hlt, hk2⟩ := hlt
      have hd1 : decide (k < N) = true := by simp; omega
      have hd2 : decide (k ≤ 120) = true := by simp; omega
      obtain ⟨t, ht⟩ : ∃ t, l[k]? = some t := ⟨_, List.getElem?_eq_getElem (by rw [HN.out]; exact hlt)⟩
      obtain ⟨⟨z1, z2, z3⟩, ⟨z4, z5, z6⟩, ⟨z7, z8, z9⟩⟩ := Hz.out t (List.mem_of_getElem? ht)
      obtain ⟨g, o, rfl, a0, a1, a2, a3, a4, a5, a6, a7, a8, a9, a10, a11⟩ := rd_at12 (HR.out.later hB) ht
      have HS2 : Hid (s + (t.s.x.size + t.s.l.size + t.s.y.size + t.p.x.size + t.p.l.size + t.p.y.size + t.o.x.size + t.o.l.size + t.o.y.size) = sumTp (l.take (k + 1))) := by
        show _ = _
        rw [take_snoc_of ht, sum_snoc, HS.out]; rfl
      have HB1 : Hid (Below w.heap.size w (wr.alloc (.cells (tpC t) 29))) := below_alloc hB
      clear hB ht
      go_wp2
      go_roundw
      case rel => exact ⟨k + 1, _, by omega, by omega, by go_num, by go_num, HS2, HB1.out⟩
      case measure => simp [intOf]; omega
    · have hR8 : ∀ b : Bool, (b = false → N ≤ 120 ∧ s ≤ 20000) → GreatR l w (.returned (.bool b)) wr := by
        intro b hb
        refine ⟨⟨b, rfl, fun h => ?_⟩, HB.out⟩
        obtain ⟨h1, h2⟩ := hb h
        have hk3 : k = N := by omega
        refine ⟨by rw [HN.out]; exact h1, ?_⟩
        have h3 := HS.out
        rw [List.take_of_length_le (by rw [HN.out]; omega)] at h3
        omega
      have HR8 := Lib.hid hR8
      clear hB hR8
      by_cases hN1 : 120 < N
      · have hd3 : decide (120 < N) = true := by simp; omega
        by_cases hkN : k < N
        · have hd1 : decide (k < N) = true := by simp; omega
          have hd2 : decide (k ≤ 120) = false := by simp; omega
          go_wp2
          go_ret
          exact HR8.out _ (fun h => by first | (simp at h; done) | (simp at h; omega) | omega)
        · have hd1 : decide (k < N) = false := by simp; omega
          go_wp2
          go_ret
          exact HR8.out _ (fun h => by first | (simp at h; done) | (simp at h; omega) | omega)
      · have hd3 : decide (120 < N) = false := by simp; omega
        have hd1 : decide (k < N) = false := by simp; omega
        by_cases hs : 20000 < s
        · have hd4 : decide (20000 < s) = true := by simp; omega
          go_wp2
          go_ret
          exact HR8.out _ (fun h => by first | (simp at h; done) | (simp at h; omega) | omega)
        · have hd4 : decide (20000 < s) = false := by simp; omega
          go_wp2
          go_ret
          exact HR8.out _ (fun h => by first | (simp at h; omega) | omega)
def exTp : Tp := ⟨⟨1, ⟨#[97]⟩, ⟨#[]⟩, ⟨#[]⟩⟩, ⟨1, ⟨#[98]⟩, ⟨#[]⟩, ⟨#[]⟩⟩, ⟨3, ⟨#[99]⟩, ⟨#[]⟩, ⟨#[]⟩⟩⟩
theorem exFile : fileP [exTp, exTp] = (⟨#[60, 97, 62, 32, 60, 98, 62, 32, 34, 99, 34, 32, 46, 10]⟩, 0) := by kernel_rfl
theorem exSmall : smallP exTp := ⟨⟨by decide, by decide, by decide⟩, ⟨by decide, by decide, by decide⟩, ⟨by decide, by decide, by decide⟩⟩
set_option maxRecDepth 20000 in
set_option maxHeartbeats 4000000 in
theorem lawAwake11 (w : World) (hC : CtxT w) : Calls Tryz.prog 10 #[] w fun e w' => e = .returned (.bool true) ∧ Below w.heap.size w w' := by
  have HC := Lib.hid hC
  have h1 := fun W => termIri ⟨#[97]⟩ W
  have h2 := fun W => termIri ⟨#[98]⟩ W
  have h3 := fun W => termLiteral ⟨#[99]⟩ W
  clear hC
  go_enter Tryz.func10, Tryz.ntmps10
  go_wp2_with fail
  refine (h1 _).mono ?_
  rintro e w1 ⟨rfl, b1⟩
  go_wp2_with fail
  refine (h2 _).mono ?_
  rintro e w2 ⟨rfl, b2⟩
  go_wp2_with fail
  refine (h3 _).mono ?_
  rintro e w3 ⟨rfl, b3⟩
  have hb3 := below_tr (below_tr b1 b2) b3
  have hb4 : Below w3.heap.size w3 (w3.alloc (.cells (tpC exTp) 29)) := (Below.refl _ w3).alloc (Nat.le_refl _) _
  have hb5 : Below w3.heap.size w3 ((w3.alloc (.cells (tpC exTp) 29)).alloc (.cells (tpC exTp ++ tpC exTp) 29)) := below_alloc hb4
  have hrd : Rd ((w3.alloc (.cells (tpC exTp) 29)).alloc (.cells (tpC exTp ++ tpC exTp) 29)) (some ⟨w3.heap.size + 1, 0, none⟩) ([exTp, exTp].flatMap tpL) := Rd.of_block (heap_two_2 w3 _ _) rfl
  have hF := showFile [exTp, exTp] (some ⟨w3.heap.size + 1, 0, none⟩) 2 _ ((HC.out.step hb3).step hb5) hrd (by intro t ht; simp at ht; subst ht; exact exSmall) (by decide)
  unfold FileR at hF
  rw [exFile] at hF
  have HB5 := Lib.hid (below_tr hb3 hb5)
  clear b1 b2 b3 hb3 hb4 hb5 hrd h1 h2 h3
  go_wp2_with fail
  refine hF.mono ?_
  rintro e w6 ⟨rfl, b6⟩
  have HB6 := Lib.hid (below_tr HB5.out b6)
  clear b6 hF
  go_wp2
  go_ret
  exact ⟨rfl, HB6.out⟩
end Go.Proofs.YthdlepalglgmoaaGreatDoor
namespace Go.Proofs.YthdlepalglgmoaaGreatDoor
open Go Go.RowKit Um Fm Lx Tx

theorem lineS_three {t : Tp} (h : errTp t = 0) : mkS (textL t.s) ++ ⟨#[32]⟩ ++ mkS (textL t.p) ++ ⟨#[32]⟩ ++ mkS (textL t.o) ++ ⟨#[32, 46]⟩ = lineS t := by
  have e : (⟨#[32]⟩ : ByteArray) = mkS [32] := rfl
  have e2 : (⟨#[32, 46]⟩ : ByteArray) = mkS [32, 46] := rfl
  unfold lineS
  rw [if_pos h, e, e2, mkS_app, mkS_app, mkS_app, mkS_app, mkS_app]
  congr 1
  unfold lineB
  simp
set_option maxRecDepth 20000 in
set_option maxHeartbeats 16000000 in
theorem refLine11 (t : Tp) (w : World) (hs : smallP t) : Calls Tryz.prog 15 #[tpA t] w (LineR11 t w) := by
  have hb0 : Below w.heap.size w (w.alloc (.cells (tpC t) 29)) := (Below.refl _ w).alloc (Nat.le_refl _) _
  have hga := heap_alloc_new w (.cells (tpC t) 29)
  have hT := r08Triple t (w.alloc (.cells (tpC t) 29)) hs
  have HB0 := Lib.hid hb0
  have HG := Lib.hid hga
  cases hr : tripB t
  · rw [hr] at hT
    have h1 := errTp_no hr
    have h2 := lineS_no (t := t) (by rw [h1]; omega)
    unfold LineR11
    rw [h1, h2]
    clear hr h1 h2 hb0 hga HG
    go_enter Tryz.func15, Tryz.ntmps15
    go_wp2_with fail
    refine hT.mono ?_
    rintro e w1 ⟨rfl, b1⟩
    have HB1 := Lib.hid (below_tr HB0.out b1)
    clear b1
    go_wp2
    refine bodyPost_ret (v := .tuple #[.string ⟨#[]⟩, .int .i64 2]) (by simp [results, Tryz.results15, go_sem]) rfl ?_
    exact ⟨rfl, HB1.out⟩
  · rw [hr] at hT
    obtain ⟨-, -, r1, r2, r3⟩ := trip_parts hr
    have h1 := fun W => r08Show t.s W hs.1
    have h2 := fun W => r08Show t.p W hs.2.1
    have h3 := fun W => r08Show t.o W hs.2.2
    rw [show_right r1] at h1
    rw [show_right r2] at h2
    rw [show_right r3] at h3
    have HR : Hid (∀ e w', (e = .returned (.tuple #[.string (lineS t), .int .i64 (errTp t)]) ∧ Below w.heap.size w w') → LineR11 t w e w') := fun _ _ h => h
    have key : (longB t.s = false ∧ longB t.p = false ∧ longB t.o = false ∧ errTp t = 0 ∧ mkS (textL t.s) ++ ⟨#[32]⟩ ++ mkS (textL t.p) ++ ⟨#[32]⟩ ++ mkS (textL t.o) ++ ⟨#[32, 46]⟩ = lineS t) ∨ ((longB t.s = true ∨ longB t.p = true ∨ longB t.o = true) ∧ errTp t = 3 ∧ lineS t = ⟨#[]⟩) := by
      cases hl : longP t
      · obtain ⟨q1, q2, q3⟩ := (longP_iff t).1 hl
        have h0 := errTp_ok hr hl
        exact .inl ⟨q1, q2, q3, h0, lineS_three h0⟩
      · have h0 := errTp_long hr hl
        refine .inr ⟨?_, h0, lineS_no (by rw [h0]; omega)⟩
        unfold longP at hl
        simpa [Bool.or_eq_true] using hl
    rcases key with ⟨q1, q2, q3, q4, q5⟩ | ⟨q1, q4, q5⟩
    · have z1 := text_le r1 q1
      have z2 := text_le r2 q2
      have z3 := text_le r3 q3
      rw [← mkS_size] at z1 z2 z3
      rw [q1, if_neg (by simp)] at h1
      rw [q2, if_neg (by simp)] at h2
      rw [q3, if_neg (by simp)] at h3
      rw [q4, ← q5] at HR
      clear hr r1 r2 r3 q1 q2 q3 q4 q5 hb0 hga hs
      generalize mkS (textL t.s) = s1 at *
      generalize mkS (textL t.p) = s2 at *
      generalize mkS (textL t.o) = s3 at *
      go_enter Tryz.func15, Tryz.ntmps15
      go_wp2_with fail
      refine hT.mono ?_
      rintro e w1 ⟨rfl, b1⟩
      have hk1 := below_blk b1 HG.out
      have a0 := cells_at hk1 0 rfl
      have a1 := cells_at hk1 1 rfl
      have a2 := cells_at hk1 2 rfl
      have a3 := cells_at hk1 3 rfl
      have HK1 := Lib.hid hk1
      have HB1 := Lib.hid (below_tr HB0.out b1)
      clear b1 hk1 hT
      go_wp2_with fail
      refine (h1 _).mono ?_
      rintro e w2 ⟨rfl, b2⟩
      have hk2 := below_blk b2 HK1.out
      have c0 := cells_at hk2 4 rfl
      have c1 := cells_at hk2 5 rfl
      have c2 := cells_at hk2 6 rfl
      have c3 := cells_at hk2 7 rfl
      have HK2 := Lib.hid hk2
      have HB2 := Lib.hid (below_tr HB1.out b2)
      clear b2 hk2 h1 a0 a1 a2 a3
      go_wp2_with fail
      refine (h2 _).mono ?_
      rintro e w3 ⟨rfl, b3⟩
      have hk3 := below_blk b3 HK2.out
      have d0 := cells_at hk3 8 rfl
      have d1 := cells_at hk3 9 rfl
      have d2 := cells_at hk3 10 rfl
      have d3 := cells_at hk3 11 rfl
      have HB3 := Lib.hid (below_tr HB2.out b3)
      clear b3 hk3 h2 c0 c1 c2 c3
      go_wp2_with fail
      refine (h3 _).mono ?_
      rintro e w4 ⟨rfl, b4⟩
      have HB4 := Lib.hid (below_tr HB3.out b4)
      clear b4 h3 d0 d1 d2 d3
      go_wp2
      refine bodyPost_ret (v := .tuple #[.string (s1 ++ ⟨#[32]⟩ ++ s2 ++ ⟨#[32]⟩ ++ s3 ++ ⟨#[32, 46]⟩), .int .i64 0]) (by simp [results, Tryz.results15, go_sem]) rfl ?_
      exact HR.out _ _ ⟨rfl, HB4.out⟩
    · rw [q4, q5] at HR
      obtain ⟨s1, e1, H1, g1⟩ : ∃ (s : ByteArray) (e : Int), (if longB t.s = true then ((⟨#[]⟩ : ByteArray), (3 : Int)) else (mkS (textL t.s), 0)) = (s, e) ∧ (e = 3 ∧ longB t.s = true ∨ e = 0 ∧ longB t.s = false) := by
        cases longB t.s
        · exact ⟨_, _, rfl, .inr ⟨rfl, rfl⟩⟩
        · exact ⟨_, _, rfl, .inl ⟨rfl, rfl⟩⟩
      obtain ⟨s2, e2, H2, g2⟩ : ∃ (s : ByteArray) (e : Int), (if longB t.p = true then ((⟨#[]⟩ : ByteArray), (3 : Int)) else (mkS (textL t.p), 0)) = (s, e) ∧ (e = 3 ∧ longB t.p = true ∨ e = 0 ∧ longB t.p = false) := by
        cases longB t.p
        · exact ⟨_, _, rfl, .inr ⟨rfl, rfl⟩⟩
        · exact ⟨_, _, rfl, .inl ⟨rfl, rfl⟩⟩
      obtain ⟨s3, e3, H3, g3⟩ : ∃ (s : ByteArray) (e : Int), (if longB t.o = true then ((⟨#[]⟩ : ByteArray), (3 : Int)) else (mkS (textL t.o), 0)) = (s, e) ∧ (e = 3 ∧ longB t.o = true ∨ e = 0 ∧ longB t.o = false) := by
        cases longB t.o
        · exact ⟨_, _, rfl, .inr ⟨rfl, rfl⟩⟩
        · exact ⟨_, _, rfl, .inl ⟨rfl, rfl⟩⟩
      rw [H1] at h1
      rw [H2] at h2
      rw [H3] at h3
      have hx : (e1 = 3) ∨ (e1 = 0 ∧ e2 = 3) ∨ (e1 = 0 ∧ e2 = 0 ∧ e3 = 3) := by
        rcases g1 with ⟨rfl, _⟩ | ⟨rfl, y1⟩
        · exact .inl rfl
        · rcases g2 with ⟨rfl, _⟩ | ⟨rfl, y2⟩
          · exact .inr (.inl ⟨rfl, rfl⟩)
          · rcases g3 with ⟨rfl, _⟩ | ⟨rfl, y3⟩
            · exact .inr (.inr ⟨rfl, rfl, rfl⟩)
            · rcases q1 with q | q | q <;> simp_all
      simp only at h1 h2 h3
      clear hr r1 r2 r3 q1 q4 q5 hb0 hga hs H1 H2 H3 g1 g2 g3
      rcases hx with rfl | ⟨rfl, rfl⟩ | ⟨rfl, rfl, rfl⟩
      all_goals
        go_enter Tryz.func15, Tryz.ntmps15
        go_wp2_with fail
        refine hT.mono ?_
        rintro e w1 ⟨rfl, b1⟩
        have hk1 := below_blk b1 HG.out
        have a0 := cells_at hk1 0 rfl
        have a1 := cells_at hk1 1 rfl
        have a2 := cells_at hk1 2 rfl
        have a3 := cells_at hk1 3 rfl
        have HK1 := Lib.hid hk1
        have HB1 := Lib.hid (below_tr HB0.out b1)
        clear b1 hk1 hT
        go_wp2_with fail
        refine (h1 _).mono ?_
        rintro e w2 ⟨rfl, b2⟩
        have hk2 := below_blk b2 HK1.out
        have c0 := cells_at hk2 4 rfl
        have c1 := cells_at hk2 5 rfl
        have c2 := cells_at hk2 6 rfl
        have c3 := cells_at hk2 7 rfl
        have HK2 := Lib.hid hk2
        have HB2 := Lib.hid (below_tr HB1.out b2)
        clear b2 hk2 h1 a0 a1 a2 a3
        go_wp2_with fail
        refine (h2 _).mono ?_
        rintro e w3 ⟨rfl, b3⟩
        have hk3 := below_blk b3 HK2.out
        have d0 := cells_at hk3 8 rfl
        have d1 := cells_at hk3 9 rfl
        have d2 := cells_at hk3 10 rfl
        have d3 := cells_at hk3 11 rfl
        have HB3 := Lib.hid (below_tr HB2.out b3)
        clear b3 hk3 h2 c0 c1 c2 c3
        go_wp2_with fail
        refine (h3 _).mono ?_
        rintro e w4 ⟨rfl, b4⟩
        have HB4 := Lib.hid (below_tr HB3.out b4)
        clear b4 h3 d0 d1 d2 d3
        go_wp2
        refine bodyPost_ret (v := .tuple #[.string ⟨#[]⟩, .int .i64 3]) (by simp [results, Tryz.results15, go_sem]) rfl ?_
        exact HR.out _ _ ⟨rfl, HB4.out⟩
end Go.Proofs.YthdlepalglgmoaaGreatDoor
namespace Go.Proofs.YthdlepalglgmoaaGreatDoor
open Go Go.RowKit Um Fm Lx Tx
/-- A row's address from its q-th on. -/
def subT (c q : Nat) (A : Option Addr) : Option Addr := if c = q then A else A.map (·.add (q * 12))
theorem run_from12 (A : Option Addr) (c q M : Nat) (hq : q ≤ M) (W : World) :
    (Instr.slice 31 (.slice A M c) (some (.int .i64 (q : Int))) none none).run Tryz.prog W = .ok (.slice (subT c q A) (M - q) (c - q)) W := by
  have h1 : (0 : Int) ≤ (q : Int) ∧ (q : Int) ≤ (M : Int) := by omega
  have hs := Tryz.sizeOf29
  unfold subT
  simp [Instr.slice, run_underlying Tryz.underlying31, Instr.sliceBounds, Instr.sliceBound, asIntOf, h1, hs]
  intro h; omega
theorem run_to12 (A : Option Addr) (c q M : Nat) (hq : q ≤ c) (W : World) :
    (Instr.slice 31 (.slice A M c) none (some (.int .i64 (q : Int))) none).run Tryz.prog W = .ok (.slice A q c) W := by
  have h1 : (0 : Int) ≤ (q : Int) ∧ (q : Int) ≤ (c : Int) := by omega
  have hs := Tryz.sizeOf29
  have hA : A.map (fun x => x.add 0) = A := by
    cases A with
    | none => rfl
    | some a => simp [Addr.add]
  simp [Instr.slice, run_underlying Tryz.underlying31, Instr.sliceBounds, Instr.sliceBound, asIntOf, h1, hs, hA]
  intro h; omega
theorem Rd.from12 {w : World} {A : Option Addr} {l : List Tp} (h : Rd w A (l.flatMap tpL)) {c q : Nat} (hl : l.length ≤ c) (hq : q ≤ l.length) : Rd w (subT c q A) ((l.drop q).flatMap tpL) := by
  unfold subT
  split
  · next he => rw [List.drop_of_length_le (by omega)]; exact .inl rfl
  · rcases h with h0 | ⟨g, o, rfl, hc⟩
    · have : l = [] := by
        have := tpL_len l
        rw [h0] at this
        exact List.eq_nil_of_length_eq_zero (by simp at this; omega)
      subst this
      exact .inl (by simp)
    · refine .inr ⟨g, o + q * 12, by rw [Option.map_some, Addr.add_mid], fun j u hu => ?_⟩
      rw [Nat.add_assoc]
      refine hc _ _ ?_
      have e : l.flatMap tpL = (l.take q).flatMap tpL ++ (l.drop q).flatMap tpL := by rw [← List.flatMap_append, List.take_append_drop]
      rw [e, List.getElem?_append_right (by rw [tpL_len, List.length_take]; omega), tpL_len, List.length_take, Nat.min_eq_left hq, Nat.add_sub_cancel_left]
      exact hu
theorem Rd.to12 {w : World} {A : Option Addr} {l : List Tp} (h : Rd w A (l.flatMap tpL)) (q : Nat) : Rd w A ((l.take q).flatMap tpL) := by
  have e : l.flatMap tpL = (l.take q).flatMap tpL ++ (l.drop q).flatMap tpL := by rw [← List.flatMap_append, List.take_append_drop]
  rcases h with h0 | ⟨g, o, rfl, hc⟩
  · rw [e] at h0
    exact .inl (List.append_eq_nil_iff.1 h0).1
  · exact .inr ⟨g, o, rfl, fun j u hu => hc j u (by rw [e, List.getElem?_append_left (List.getElem?_eq_some_iff.1 hu).1]; exact hu)⟩
end Go.Proofs.YthdlepalglgmoaaGreatDoor
