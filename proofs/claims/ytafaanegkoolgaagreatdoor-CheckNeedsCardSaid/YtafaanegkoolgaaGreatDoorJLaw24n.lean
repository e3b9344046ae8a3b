/- CheckNeeds: for every query the law returns true. -/
import Derived.Test.YtafaanegkoolgaaGreatDoorJChk9
import Derived.Test.YtafaanegkoolgaaGreatDoorJLaw24b
namespace Go.Proofs.YtafaanegkoolgaaGreatDoor
open Go Go.RowKit Um Fm Mt

theorem txt1 (l : List ByteArray) : ∀ u ∈ l.map Value.string, u.oneCell' = true := by
  intro u hu
  obtain ⟨x, _, rfl⟩ := List.mem_map.1 hu
  rfl
theorem szL_of' {n : Nat} {q : Qy n} (h : szQ q) (h2 : ∀ x ∈ q.fils, szE n x) : szL q := ⟨h.1, h.2.1, h.2.2.1, h.2.2.2.1, h2⟩
theorem few_of {n : Nat} {q : Qy n} (h : allQ q ≤ 400) (he : ∀ x ∈ q.fils, szE n x) : fewQ q := by
  unfold allQ cntQ at h
  exact ⟨by omega, by omega, by omega, by omega, he, by omega⟩
/-- The names that CheckNeeds looks for, in its own order. -/
def seekQ {n : Nat} (q : Qy n) : List ByteArray := (q.vars ++ usedN n q.fils) ++ keysN q.ord
theorem needs_seek {n : Nat} (q : Qy n) : needsOf q = needN (varsN q.pats) (seekQ q) := by
  unfold needsOf saidQ seekQ
  exact needN_congr fun x => by simp only [List.mem_append]; constructor <;> (intro h; rcases h with h | h) <;> (try rcases h with h | h) <;> simp [h]
def KeysN (vu : List ByteArray) (ord : List Ky) (B : Nat) (w : World) (v i : Value) (wr : World) : Prop := ∃ (k : Nat) (v' : Value), k ≤ ord.length ∧ i = .int .i64 k ∧ v = v' ∧ wr.ownsRow B 9 1 v' (vu.length + k) ((vu ++ keysN (ord.take k)).map Value.string) ∧ Below B w wr
theorem needN_at {all sk : List ByteArray} {i : Nat} {s : ByteArray} (hs : all[i]? = some s) (hh : hasS sk s = true) : (needN all sk)[(needN (all.take i) sk).length]? = some s := by
  have h1 : needN all sk = needN (all.take i) sk ++ needN (all.drop i) sk := by unfold needN; rw [← List.filter_append, List.take_append_drop]
  rw [h1, List.getElem?_append_right (Nat.le_refl _), Nat.sub_self, drop_cons_of hs]
  unfold needN
  simp [hh]
theorem hqx {n : Nat} {q : Qy n} {w w' : World} {cs : List Value} (h : RdQ n w cs q) (hb : Below w.heap.size w w') : RdQ n w' cs q := h.later hb
def SeekL (all sk : List ByteArray) (w : World) (kv iv : Value) (wr : World) : Prop := ∃ i : Nat, i ≤ all.length ∧ iv = .int .i64 i ∧ kv = .int .i64 (needN (all.take i) sk).length ∧ Below w.heap.size w wr
theorem idxFrom_at (x : ByteArray) : ∀ (l : List ByteArray) (i : Nat), x ∈ l → ∃ k, Lib.idxFromS l x i = ((i + k : Nat) : Int) ∧ l[k]? = some x
  | [], _, h => by cases h
  | a :: l, i, h => by
    unfold Lib.idxFromS
    by_cases e : a = x
    · exact ⟨0, by simp [e], by simp [e]⟩
    · rw [if_neg e]
      obtain ⟨k, h1, h2⟩ := idxFrom_at x l (i + 1) (by simpa [Ne.symm e, eq_comm, e] using h)
      exact ⟨k + 1, by rw [h1]; congr 1; omega, by simpa using h2⟩
theorem idx_at {x : ByteArray} {l : List ByteArray} (h : x ∈ l) : ∃ k : Nat, Lib.idxOfS l x = (k : Int) ∧ l[k]? = some x := by
  obtain ⟨k, h1, h2⟩ := idxFrom_at x l 0 h
  exact ⟨k, by unfold Lib.idxOfS; rw [h1]; simp, h2⟩
set_option maxRecDepth 100000 in
set_option maxHeartbeats 8000000 in
theorem lawCheckNeeds (n : Nat) (q : Qy n) (a1 a2 a3 a4 : Option Addr) (c1 c2 c3 c4 : Nat) (w : World) (hC : Ctx w) (hz : szQ q) (he : ∀ x ∈ q.fils, szE n x)
    (hq : RdQ n w [.bool q.ask, .bool q.dist, .slice a1 q.vars.length c1, .slice a2 q.pats.length c2, .slice a3 q.fils.length c3, .slice a4 q.ord.length c4, .int .i64 q.lim, .int .i64 q.off] q) (h1 : Rd w a1 (q.vars.map Value.string)) (h2 : RdPat w a2 q.pats) (h3 : RdEs n w a3 q.fils) (h4 : RdKey w a4 q.ord) :
    Calls Tryz.prog 8 #[.agg #[.bool q.ask, .bool q.dist, .slice a1 q.vars.length c1, .slice a2 q.pats.length c2, .slice a3 q.fils.length c3, .slice a4 q.ord.length c4, .int .i64 q.lim, .int .i64 q.off]] w fun e w' => e = .returned (.bool true) ∧ Below w.heap.size w w' := by
  have sL := szL_of' hz he
  obtain ⟨W, hW⟩ : ∃ W : World, w.alloc (.cells #[.bool q.ask, .bool q.dist, .slice a1 q.vars.length c1, .slice a2 q.pats.length c2, .slice a3 q.fils.length c3, .slice a4 q.ord.length c4, .int .i64 q.lim, .int .i64 q.off] 27) = W := ⟨_, rfl⟩
  have hB0 : Below w.heap.size w W := by rw [← hW]; exact (by repeat (first | exact Below.refl _ _ | assumption | exact (Below.refl _ _).alloc (Nat.le_refl _) _ | refine below_tr ?_ (by assumption) | refine below_alloc ?_ | refine below_tr ?_ (below_regrown _ _ _)))
  have b0 : W.cell? ⟨w.heap.size, 0, none⟩ = some (.bool q.ask) := by rw [← hW, World.cell?, heap_alloc_new]; rfl
  have b1 : W.cell? ⟨w.heap.size, 1, none⟩ = some (.bool q.dist) := by rw [← hW, World.cell?, heap_alloc_new]; rfl
  have b2 : W.cell? ⟨w.heap.size, 2, none⟩ = some (.slice a1 q.vars.length c1) := by rw [← hW, World.cell?, heap_alloc_new]; rfl
  have b3 : W.cell? ⟨w.heap.size, 3, none⟩ = some (.slice a2 q.pats.length c2) := by rw [← hW, World.cell?, heap_alloc_new]; rfl
  have b4 : W.cell? ⟨w.heap.size, 4, none⟩ = some (.slice a3 q.fils.length c3) := by rw [← hW, World.cell?, heap_alloc_new]; rfl
  have b5 : W.cell? ⟨w.heap.size, 5, none⟩ = some (.slice a4 q.ord.length c4) := by rw [← hW, World.cell?, heap_alloc_new]; rfl
  have b6 : W.cell? ⟨w.heap.size, 6, none⟩ = some (.int .i64 q.lim) := by rw [← hW, World.cell?, heap_alloc_new]; rfl
  have b7 : W.cell? ⟨w.heap.size, 7, none⟩ = some (.int .i64 q.off) := by rw [← hW, World.cell?, heap_alloc_new]; rfl
  have HW := Lib.hid hW
  have HB0 := Lib.hid hB0
  have hA := law24Awake W (hC.step hB0)
  have HH := Lib.hid (And.intro hC (And.intro hq (And.intro h1 (And.intro h2 (And.intro h3 h4)))))
  clear hW hB0 hC hq h1 h2 h3 h4
  go_enter Tryz.func8, Tryz.ntmps8
  go_wp2_with fail
  simp only [HW.out]
  refine hA.mono ?_
  rintro e w1 ⟨rfl, hb1⟩
  have d0 := cell_on b0 hb1
  have d1 := cell_on b1 hb1
  have d2 := cell_on b2 hb1
  have d3 := cell_on b3 hb1
  have d4 := cell_on b4 hb1
  have d5 := cell_on b5 hb1
  have d6 := cell_on b6 hb1
  have d7 := cell_on b7 hb1
  have B1 := below_tr HB0.out hb1
  have hG := law24Great n q a1 a2 a3 a4 c1 c2 c3 c4 w1 (RdEs.later HH.out.2.2.2.2.1 B1) sL
  clear hA
  go_wp2_with fail
  refine hG.mono ?_
  rintro e w2 ⟨gb, rfl, hgb, hb2⟩
  clear hG
  have HB2 := Lib.hid (below_tr B1 hb2)
  have HBb := Lib.hid (below_tr hb1 hb2)
  cases gb
  case true =>
    clear b0 b1 b2 b3 b4 b5 b6 b7
    go_wp2
    go_ret
    exact ⟨rfl, HB2.out⟩
  have hall := hgb rfl
  have hf := few_of hall he
  have e0 := cell_on b0 HBb.out
  have e1 := cell_on b1 HBb.out
  have e2 := cell_on b2 HBb.out
  have e3 := cell_on b3 HBb.out
  have e4 := cell_on b4 HBb.out
  have e5 := cell_on b5 HBb.out
  have e6 := cell_on b6 HBb.out
  have e7 := cell_on b7 HBb.out
  clear b0 b1 b2 b3 b4 b5 b6 b7 d0 d1 d2 d3 d4 d5 d6 d7 hb1 B1 hgb
  have hN := cNeeds n q a1 a2 a3 a4 c1 c2 c3 c4 w2 hf (HH.out.2.2.1.later HB2.out) (RdL.mono HH.out.2.2.2.1 HB2.out (fun _ _ _ h => h)) (RdEs.later HH.out.2.2.2.2.1 HB2.out) (RdL.mono HH.out.2.2.2.2.2 HB2.out (fun _ _ _ h => h))
  go_wp2_with fail
  refine hN.mono ?_
  rintro e w3 ⟨vN, rfl, own3, hb3⟩
  obtain ⟨NA, nc, rfl, hnc, rN⟩ := own_slice own3
  have HB3 := Lib.hid (below_tr HB2.out hb3)
  have hV := qVars q.pats a2 c2 w3 (RdL.mono HH.out.2.2.2.1 HB3.out (fun _ _ _ h => h)) hf.2.1
  have g0 := cell_on e0 hb3
  have g1 := cell_on e1 hb3
  have g2 := cell_on e2 hb3
  have g3 := cell_on e3 hb3
  have g4 := cell_on e4 hb3
  have g5 := cell_on e5 hb3
  have g6 := cell_on e6 hb3
  have g7 := cell_on e7 hb3
  clear hN own3 e0 e1 e2 e3 e4 e5 e6 e7 hb2 hb3
  go_wp2_with fail
  refine hV.mono ?_
  rintro e w4 ⟨vV, rfl, own4, hb4⟩
  obtain ⟨VA, vc, rfl, hvc, rV⟩ := own_slice own4
  have HB4 := Lib.hid (below_tr HB3.out hb4)
  have rN4 := rN.later hb4
  have hul := usedN_len n q.fils
  obtain ⟨f1, f2, f3, f4, f5, f6⟩ := id hf
  have i0 := cell_on g0 hb4
  have i1 := cell_on g1 hb4
  have i2 := cell_on g2 hb4
  have i3 := cell_on g3 hb4
  have i4 := cell_on g4 hb4
  have i5 := cell_on g5 hb4
  have i6 := cell_on g6 hb4
  have i7 := cell_on g7 hb4
  clear hV own4 g0 g1 g2 g3 g4 g5 g6 g7 hb4 rN
  have hbx : ∀ (i : Nat) v, (#[.bool q.ask, .bool q.dist, .slice a1 q.vars.length c1, .slice a2 q.pats.length c2, .slice a3 q.fils.length c3, .slice a4 q.ord.length c4, .int .i64 q.lim, .int .i64 q.off] : Array Value)[i]? = some v → w4.cell? ⟨w.heap.size, i, none⟩ = some v := by
    intro i v hv
    match i, hv with
    | 0, hv => cases hv; exact i0
    | 1, hv => cases hv; exact i1
    | 2, hv => cases hv; exact i2
    | 3, hv => cases hv; exact i3
    | 4, hv => cases hv; exact i4
    | 5, hv => cases hv; exact i5
    | 6, hv => cases hv; exact i6
    | 7, hv => cases hv; exact i7
    | k + 8, hv => simp at hv
  have HX := Lib.hid hbx
  clear i0 i1 i2 i3 i4 i5 i6 i7 hbx
  obtain ⟨vu, hvu⟩ : ∃ l, q.vars ++ usedN n q.fils = l := ⟨_, rfl⟩
  have hvul : vu.length ≤ 900 := by rw [← hvu, List.length_append]; unfold allQ cntQ at hall; omega
  have Hvu := Lib.hid hvu
  clear hvu
  go_upto_region 7 with (fail)
  go_cut [5] from 20 to 27 (fun s5 wx => wx.ownsRow w4.heap.size 9 1 s5 vu.length (vu.map Value.string) ∧ Below w4.heap.size w4 wx)
  case first =>
    rename_i hJ hM
    refine Rf.wp_region_pl w4.heap.size _ (Rf.Pl.quiet [1, 2, 4, 5] (Rf.Pl.one 0 (Rf.Pl.one 3 (Rf.Pl.one 6 (Rf.Pl.one 7 (Rf.Pl.quiet [8] (Rf.Pl.done))))))) _ (by kernel_rfl) (by kernel_rfl) (by simp only [Rf.Pl.pick, Rf.pickO, List.map_cons, List.map_nil, Rg.pickOps, List.getElem?_toArray, List.getElem?_cons_zero, List.getElem?_cons_succ, Option.getD_some]; rfl) ?_ (fun a w h => h)
    intro wd hbd hwz
    have y2 := cellL (HX.out 2 (.slice a1 q.vars.length c1) rfl) hbd
    have y4 := cellL (HX.out 4 (.slice a3 q.fils.length c3) rfl) hbd
    have e1 := (HH.out.2.2.1.later HB4.out).later hbd
    have e3 := RdEs.later (RdEs.later HH.out.2.2.2.2.1 HB4.out) hbd
    have Hbd := Lib.hid hbd
    have hle : w4.heap.size ≤ wd.heap.size := hbd.size
    clear hwz hbd
    refine Rf.pl_quiet ?_
    iterate 4 go_big_quiet_step (fail)
    refine wpQuiet_nil (Rf.pl_one ?_)
    go_wp2_with fail
    have x0 : Below w4.heap.size wd (wd.alloc (.cells #[] 9)) := (Below.refl _ _).alloc hle _
    have own0 : (wd.alloc (.cells #[] 9)).ownsRow w4.heap.size 9 1 (.slice (some ⟨wd.heap.size, 0, none⟩) 0 0) 0 ([] : List Value) :=
      ⟨rfl, .inr ⟨wd.heap.size, 0, #[], rfl, hle, heap_alloc_new wd _, Nat.le_refl _, by simp, rfl, rfl⟩⟩
    have x0' : Below wd.heap.size wd (wd.alloc (.cells #[] 9)) := (by repeat (first | exact Below.refl _ _ | assumption | exact (Below.refl _ _).alloc (Nat.le_refl _) _ | refine below_tr ?_ (by assumption) | refine below_alloc ?_ | refine below_tr ?_ (below_regrown _ _ _)))
    have e1' := e1.later x0'
    have e3' := RdEs.later e3 x0'
    refine ⟨x0, Rf.pl_one ?_⟩
    clear y2 y4 e1 e3
    go_wp2_with (at_builtin; refine wpList_appG rfl rfl Tryz.underlying22 stringInfo' rfl (by omega) rfl own0 rfl e1' (by rw [List.length_map]; omega) (txt1 _) (by omega) (by omega) (by simp; omega) ?_; intro v3 w5 own5 hb5 hg5)
    refine ⟨hb5, Rf.pl_one ?_⟩
    have hle5 : w4.heap.size ≤ w5.heap.size := Nat.le_trans hle (Nat.le_trans x0'.size hg5.size)
    have e35 : RdEs n w5 a3 q.fils := RdEs.later HH.out.2.2.2.2.1 (HB4.out.trans ((Hbd.out.trans (x0.trans hb5)).mono HB4.out.size))
    have hU := qUsed n q.fils a3 c3 w5 e35 f4 f5 f6
    clear own0 e1' e3' e35
    go_wp2_with (refine hU.mono ?_; rintro e w6 ⟨x6, rfl, own6, hb6⟩)
    obtain ⟨A6, m6, rfl, _, r6⟩ := own_slice own6
    have own5' := own_below own5 hb6 (Nat.le_refl _)
    refine ⟨hb6.mono hle5, Rf.pl_one ?_⟩
    have hle6 : w4.heap.size ≤ w6.heap.size := Nat.le_trans hle5 hb6.size
    simp only [Nat.zero_add, List.nil_append] at own5'
    clear own5 own6 hU
    go_wp2_with (at_builtin; refine wpList_appG rfl rfl Tryz.underlying22 stringInfo' rfl (by omega) rfl own5' rfl r6 (by rw [List.length_map]; omega) (txt1 _) (by omega) (by omega) hle6 ?_; intro v7 w7 own7 hb7 hg7)
    refine ⟨hb7, Rf.pl_quiet ?_⟩
    go_frame
    iterate 1 go_big_quiet_step (fail)
    refine wpQuiet_nil (Rf.pl_done ?_)
    refine hM _ _ (Met.intro (hJ _ _ ?_))
    (repeat apply Exists.intro)
    exact ⟨⟨by rw [← Hvu.out, List.map_append, List.length_append]; exact own7, (((Hbd.out.trans x0).trans hb5).trans (hb6.mono hle5)).trans hb7⟩, rfl⟩
  case rest =>
    obtain ⟨own5, hb5⟩ := hcut
    obtain ⟨A5, m5, rfl, _, _⟩ := own_slice own5
    have hon : (q.ord.length : Int) ≤ 400 := by unfold allQ cntQ at hall; omega
    have Hb5 := Lib.hid hb5
    have RN4 := Lib.hid rN4
    have RV4 := Lib.hid rV
    clear rN4 rV hb5
    go_wp2
    go_loopw [5, 6] (KeysN vu q.ord w4.heap.size wc) (fun _ i _ => q.ord.length - (intOf i).toNat)
    case atStart => exact ⟨0, _, by omega, rfl, rfl, by simpa [keysN] using own5, Below.refl _ _⟩
    case round =>
      obtain ⟨k, v', hk, rfl, rfl, own, hB⟩ := hrel
      have hB4r := Hb5.out.trans hB
      have hBr := HB4.out.trans (hB4r.mono HB4.out.size)
      have x5 : wr.cell? ⟨w.heap.size, 5, none⟩ = some (.slice a4 q.ord.length c4) := by rw [hB4r.cell (cell_lt (HX.out 5 (.slice a4 q.ord.length c4) rfl))]; exact HX.out 5 _ rfl
      have hle : w4.heap.size ≤ wr.heap.size := hB4r.size
      by_cases hlt : k < q.ord.length
      · obtain ⟨y, hy⟩ : ∃ x, q.ord[k]? = some x := ⟨_, List.getElem?_eq_getElem hlt⟩
        obtain ⟨g, o, cs, rfl, -, rfl, hc⟩ := (RdL.mono HH.out.2.2.2.2.2 hBr (fun _ _ _ h => h)).at_ (by omega) hy
        have y0 : wr.cell? ⟨g, o + k * 2, none⟩ = some (.string y.v) := hc 0 _ rfl
        have y1 : wr.cell? ⟨g, o + k * 2 + 1, none⟩ = some (.bool y.d) := hc 1 _ rfl
        obtain ⟨A6, m6, rfl, _, _⟩ := own_slice own
        have B2 : Below wr.heap.size wr (wr.alloc (.cells #[.string y.v] 9)) := (by repeat (first | exact Below.refl _ _ | assumption | exact (Below.refl _ _).alloc (Nat.le_refl _) _ | refine below_tr ?_ (by assumption) | refine below_alloc ?_ | refine below_tr ?_ (below_regrown _ _ _)))
        have own2 := own_below own B2 (Nat.le_refl _)
        have R2 : Rd (wr.alloc (.cells #[.string y.v] 9)) (some ⟨wr.heap.size, 0, none⟩) [.string y.v] := Rd.of_block (heap_alloc_new wr _) rfl
        have B02 := Lib.hid (hB.trans (B2.mono hle))
        have Hts : Hid (vu ++ keysN (q.ord.take (k + 1)) = (vu ++ keysN (q.ord.take k)) ++ [y.v]) := by show _ = _; unfold keysN; rw [take_snoc_of hy, List.map_append, List.append_assoc]; rfl
        clear hc hy own hB B2 hB4r hBr
        go_wp2_with (at_builtin; refine wpList_appG rfl rfl Tryz.underlying22 stringInfo' rfl (by omega) rfl own2 rfl R2 rfl (by intro u hu; simp at hu; subst hu; rfl) (by omega) (by omega) (by simp; omega) ?_; intro v7 w7 own7 hb7 _)
        go_roundw
        case rel => exact ⟨k + 1, v7, by omega, by go_num, rfl, by rw [Hts.out, List.map_append]; exact own7, B02.out.trans hb7⟩
        case measure => simp [intOf]; omega
      · obtain rfl : k = q.ord.length := by omega
        obtain ⟨sk, hsk⟩ : ∃ l, seekQ q = l := ⟨_, rfl⟩
        have hskl : vu ++ keysN q.ord = sk := by rw [← hsk]; unfold seekQ; rw [Hvu.out]
        have hskn : vu.length + q.ord.length = sk.length := by rw [← hskl, List.length_append, keysN_len]
        rw [List.take_length, hskl, hskn] at own
        have hskb : sk.length ≤ 1400 := by omega
        obtain ⟨SA, sc, rfl, hsc, rS⟩ := own_slice own
        have rNr := RN4.out.later (Hb5.out.trans hB |>.mono (Nat.le_refl _))
        have rVr := RV4.out.later (Hb5.out.trans hB |>.mono (Nat.le_refl _))
        have hnq := needs_seek q
        rw [hsk] at hnq
        obtain ⟨all, hal⟩ : ∃ l, varsN q.pats = l := ⟨_, rfl⟩
        have hvl := varsN_len q.pats
        rw [hal] at hnq hvl rVr
        obtain ⟨N, hN⟩ : ∃ l, needsOf q = l := ⟨_, rfl⟩
        rw [hN] at hnq rNr
        have hNl : N.length ≤ all.length := by rw [hnq]; exact needN_len _ _
        have hall' : (all.length : Int) ≤ 1200 := by unfold allQ cntQ at hall; omega
        have hNl' : (N.length : Int) ≤ 1200 := by omega
        have Hnq := Lib.hid hnq
        have HN := Lib.hid hN
        have Hal := Lib.hid hal
        have Hsk := Lib.hid hsk
        have HBr := Lib.hid hBr
        have hWB : w4.heap.size ≤ wr.heap.size := hle
        have HB4r := Lib.hid hB4r
        simp only [hal, hN]
        clear hsk hskl hskn own hB hnq hN hal hBr hB4r
        obtain ⟨wL, hwL⟩ : ∃ W, W = wr := ⟨_, rfl⟩
        subst hwL
        go_wp2
        go_loopw [7, 8] (SeekL all sk wL) (fun _ i _ => all.length - (intOf i).toNat)
        case atStart => exact ⟨0, by omega, rfl, rfl, Below.refl _ _⟩
        case round =>
          obtain ⟨i, hi, rfl, hkv, hB2⟩ := hrel
          obtain ⟨kk, hkk⟩ : ∃ m, (needN (all.take i) sk).length = m := ⟨_, rfl⟩
          rw [hkk] at hkv
          subst hkv
          have hB4x := HB4r.out.trans (hB2.mono hWB)
          by_cases hlt : i < all.length
          · obtain ⟨s, hs⟩ : ∃ x, all[i]? = some x := ⟨_, List.getElem?_eq_getElem hlt⟩
            obtain ⟨g, o, rfl, cx⟩ := (rVr.later hB2).at_ (j := i) (u := .string s) (by simp [hs])
            have hH := law24Has sk s SA sk.length sc wr rfl (by omega) (rS.later hB2)
            have hnt := needN_take all sk hs
            cases hh : hasS sk s
            · rw [hh] at hH hnt
              have Hnt : Hid ((needN (all.take (i + 1)) sk).length = kk) := by show _ = _; rw [hnt, ← hkk]; simp
              have HB2 := Lib.hid hB2
              clear hnt hkk hs hB2 hB4x rVr rNr rS x5
              go_wp2_with (refine hH.mono ?_; rintro e w5 ⟨rfl, rfl⟩)
              go_roundw
              case rel => exact ⟨i + 1, by omega, by go_num, by rw [Hnt.out], HB2.out⟩
              case measure => simp [intOf]; omega
            · rw [hh] at hH hnt
              have Hnt : Hid ((needN (all.take (i + 1)) sk).length = kk + 1) := by show _ = _; rw [hnt, ← hkk]; simp
              have hNs : N[kk]? = some s := by rw [Hnq.out, ← hkk]; exact needN_at hs hh
              have hkl : kk < N.length := (List.getElem?_eq_some_iff.1 hNs).1
              obtain ⟨g', o', rfl, cn⟩ := (rNr.later hB2).at_ (j := kk) (u := .string s) (by simp [hNs])
              have hk1 : (kk : Int) < N.length := by omega
              have hk2 : ¬ ((N.length : Int) ≤ kk) := by omega
              have hk3 : decide (N.length ≤ kk) = false := by simpa using hkl
              have hne : (s.toList != s.toList) = false := by simp
              have HB2 := Lib.hid hB2
              clear hnt hkk hs hB2 hB4x rVr rNr rS x5 hNs
              go_wp2_with (refine hH.mono ?_; rintro e w5 ⟨rfl, rfl⟩)
              go_quiet (fail)
              go_wp2
              go_roundw
              case rel => exact ⟨i + 1, by omega, by go_num, by rw [Hnt.out]; go_num, below_drewN' HB2.out nq⟩
              case measure => simp [intOf]; omega
          · have hik : all.take i = all := List.take_of_length_le (by omega)
            have hkN : kk = N.length := by rw [← hkk, hik, ← Hnq.out]
            subst hkN
            have p0 : wr.cell? ⟨w.heap.size, 0, none⟩ = some (.bool q.ask) := by rw [hB4x.cell (cell_lt (HX.out 0 (.bool q.ask) rfl))]; exact HX.out 0 _ rfl
            have p1 : wr.cell? ⟨w.heap.size, 1, none⟩ = some (.bool q.dist) := by rw [hB4x.cell (cell_lt (HX.out 1 (.bool q.dist) rfl))]; exact HX.out 1 _ rfl
            have p2 : wr.cell? ⟨w.heap.size, 2, none⟩ = some (.slice a1 q.vars.length c1) := by rw [hB4x.cell (cell_lt (HX.out 2 (.slice a1 q.vars.length c1) rfl))]; exact HX.out 2 _ rfl
            have p3 : wr.cell? ⟨w.heap.size, 3, none⟩ = some (.slice a2 q.pats.length c2) := by rw [hB4x.cell (cell_lt (HX.out 3 (.slice a2 q.pats.length c2) rfl))]; exact HX.out 3 _ rfl
            have p4 : wr.cell? ⟨w.heap.size, 4, none⟩ = some (.slice a3 q.fils.length c3) := by rw [hB4x.cell (cell_lt (HX.out 4 (.slice a3 q.fils.length c3) rfl))]; exact HX.out 4 _ rfl
            have p5 : wr.cell? ⟨w.heap.size, 5, none⟩ = some (.slice a4 q.ord.length c4) := by rw [hB4x.cell (cell_lt (HX.out 5 (.slice a4 q.ord.length c4) rfl))]; exact HX.out 5 _ rfl
            have p6 : wr.cell? ⟨w.heap.size, 6, none⟩ = some (.int .i64 q.lim) := by rw [hB4x.cell (cell_lt (HX.out 6 (.int .i64 q.lim) rfl))]; exact HX.out 6 _ rfl
            have p7 : wr.cell? ⟨w.heap.size, 7, none⟩ = some (.int .i64 q.off) := by rw [hB4x.cell (cell_lt (HX.out 7 (.int .i64 q.off) rfl))]; exact HX.out 7 _ rfl
            have hBx := HBr.out.trans (hB2.mono HBr.out.size)
            have hQ := cQuery n q a1 a2 a3 a4 c1 c2 c3 c4 wr (HH.out.1.step hBx) hf hz (hqx HH.out.2.1 hBx) (HH.out.2.2.1.later hBx) (RdL.mono HH.out.2.2.2.1 hBx (fun _ _ _ h => h)) (RdEs.later HH.out.2.2.2.2.1 hBx) (RdL.mono HH.out.2.2.2.2.2 hBx (fun _ _ _ h => h))
            have rNx := rNr.later hB2
            have HBx := Lib.hid hBx
            have Hf := Lib.hid hf
            have HB4x := Lib.hid hB4x
            clear hik hkk hB2 hBx hB4x rVr rNr rS x5 hi hf
            by_cases he0 : errOf q = 0
            · have hz0 : (errOf q != 0) = false := by rw [he0]; rfl
              have Hin : Hid (∀ s ∈ q.vars, s ∈ N) := by
                have h1 := (errQ_zero.1 he0).2.2.2
                intro s hs
                rw [Hnq.out, needN_mem, ← Hal.out, ← Hsk.out]
                refine ⟨h1 s (by simp [hs]), ?_⟩
                unfold seekQ; simp [hs]
              rw [he0] at hQ
              clear he0 hz0
              go_wp2_with fail
              refine hQ.mono ?_
              rintro e w7 ⟨rfl, hb7⟩
              have rN7 := rNx.later hb7
              have r17 := (HH.out.2.2.1.later HBx.out).later hb7
              have o0 := cell_on p0 hb7
              have o1 := cell_on p1 hb7
              have o2 := cell_on p2 hb7
              have o3 := cell_on p3 hb7
              have o4 := cell_on p4 hb7
              have o5 := cell_on p5 hb7
              have o6 := cell_on p6 hb7
              have o7 := cell_on p7 hb7
              have hT := cTold n q a1 a2 a3 a4 c1 c2 c3 c4 N NA nc w7 r17 rN7 (by omega) (by omega)
              have HB7 := Lib.hid (below_tr HBx.out hb7)
              have hvn : (q.vars.length : Int) ≤ 400 := by unfold allQ cntQ at hall; omega
              have htl : (toldL N q.vars).length = q.vars.length := List.length_map _
              clear hQ p0 p1 p2 p3 p4 p5 p6 p7 rNx hb7 hlt
              go_wp2_with fail
              refine hT.mono ?_
              rintro e w8 ⟨v8, rfl, own8, hb8⟩
              rw [htl] at own8
              obtain ⟨TA, tc, rfl, htc, rT⟩ := own_slice own8
              have s2 := cell_on o2 hb8
              have rN8 := rN7.later hb8
              have r18 := r17.later hb8
              have HB8 := Lib.hid (below_tr HB7.out hb8)
              clear hT own8 o0 o1 o2 o3 o4 o5 o6 o7 rN7 r17 hb8 htl
              go_wp2
              go_loopw [10] (fun iv wx => ∃ i : Nat, i ≤ q.vars.length ∧ iv = .int .i64 i ∧ Below w8.heap.size w8 wx) (fun iv _ => q.vars.length - (intOf iv).toNat)
              case atStart => exact ⟨0, by omega, rfl, Below.refl _ _⟩
              case round =>
                obtain ⟨i, hi, rfl, hB9⟩ := hrel
                have s9 := cell_on s2 hB9
                by_cases hlt : i < q.vars.length
                · obtain ⟨s, hs⟩ : ∃ x, q.vars[i]? = some x := ⟨_, List.getElem?_eq_getElem hlt⟩
                  obtain ⟨j, hj, hjs⟩ := idx_at (Hin.out s (List.mem_of_getElem? hs))
                  have hti : (toldL N q.vars)[i]? = some (j : Int) := by unfold toldL; rw [List.getElem?_map, hs]; simp [hj]
                  have hjl : j < N.length := (List.getElem?_eq_some_iff.1 hjs).1
                  obtain ⟨g1, o1, rfl, x1⟩ := (rT.later hB9).at_ (j := i) (u := .int .i64 (j : Int)) (by rw [List.getElem?_map, hti]; rfl)
                  obtain ⟨g2, o2, rfl, x2⟩ := (rN8.later hB9).at_ (j := j) (u := .string s) (by simp [hjs])
                  obtain ⟨g3, o3, rfl, x3⟩ := (r18.later hB9).at_ (j := i) (u := .string s) (by simp [hs])
                  have hk0 : ¬ ((j : Int) < 0) := by omega
                  have hk1 : (j : Int) < N.length := by omega
                  have hk2 : ¬ ((N.length : Int) ≤ j) := by omega
                  have hk3 : decide (N.length ≤ j) = false := by simpa using hjl
                  have hk4 : decide ((j : Int) < 0) = false := by simp
                  have hne : (s.toList != s.toList) = false := by simp
                  have HB9 := Lib.hid hB9
                  clear hs hj hjs hti hB9 rT rN8 r18 s2 hjl
                  go_wp2
                  go_quiet (fail)
                  go_wp2
                  go_roundw
                  case rel => exact ⟨i + 1, by omega, by go_num, below_drewN' HB9.out nq⟩
                  case measure => simp [intOf]; omega
                · clear rT rN8 r18 s2
                  go_wp2
                  go_ret
                  exact ⟨by simp, below_tr HB8.out hB9⟩
            · have hz0 : (errOf q != 0) = true := by simpa using he0
              clear he0
              go_wp2_with (refine hQ.mono ?_; rintro e w7 ⟨rfl, hb7⟩)
              go_ret
              exact ⟨by simp, below_tr HBx.out hb7⟩
end Go.Proofs.YtafaanegkoolgaaGreatDoor
