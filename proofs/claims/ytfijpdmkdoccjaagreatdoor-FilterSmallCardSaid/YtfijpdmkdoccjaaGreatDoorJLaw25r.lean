/- The kit's queries, lent and kept: printed by gen/keptq.py. Layer 25's law, walked: FilterRows. -/
import Derived.Test.YtfijpdmkdoccjaaGreatDoorJKept2
import Derived.Test.YtfijpdmkdoccjaaGreatDoorJLaw22p
import Derived.Test.YtfijpdmkdoccjaaGreatDoorJR25d
import Derived.Test.YtfijpdmkdoccjaaGreatDoorJMetMath
namespace Go.Proofs.YtfijpdmkdoccjaaGreatDoor
open Go Go.RowKit Um Fm Mt
theorem LentB.rdPat {w : World} {g : Nat} {l m : List Pat} {T : TypeId} (h : LentB T w g ((l ++ m).flatMap cPat)) : RdPat w (some ⟨g, 0, none⟩) l := by
  rw [List.flatMap_append] at h
  exact (RdL.flatC (f := cPat) (sz := 15) fun _ => rfl).2 h.rd1
theorem LentB.rdKey {w : World} {g : Nat} {l m : List Ky} {T : TypeId} (h : LentB T w g ((l ++ m).flatMap cKey)) : RdKey w (some ⟨g, 0, none⟩) l := by
  rw [List.flatMap_append] at h
  exact (RdL.flatC (f := cKey) (sz := 2) fun _ => rfl).2 h.rd1
theorem LentB.rdStr {w : World} {g : Nat} {l m : List ByteArray} {T : TypeId} (h : LentB T w g ((l ++ m).map Value.string)) : Rd w (some ⟨g, 0, none⟩) (l.map Value.string) := by
  rw [List.map_append] at h
  exact h.rd1
theorem sameQ_self {n : Nat} (q : Qy n) : sameQ q q = true := sameQ_iff.2 rfl
end Go.Proofs.YtfijpdmkdoccjaaGreatDoor
namespace Go.Proofs.YtfijpdmkdoccjaaGreatDoor
open Go Go.RowKit Go.Maps Go.ChangeMaps Fm Um Mt

set_option maxRecDepth 100000 in
set_option maxHeartbeats 8000000 in
theorem lawFilterRows (n : Nat) (l : List (ExT n)) (A : Option Addr) (c : Nat) (vars : List ByteArray) (A1 : Option Addr) (c1 : Nat) (row : List Tm) (A2 : Option Addr) (c2 : Nat) (w : World)
    (hr : RdEs n w A l) (hl : l.length ≤ 1048576) (hz : ∀ x ∈ l, szE n x) (hn : ∀ x ∈ l, szN n x) (hr1 : Rd w A1 (vars.map Value.string)) (hv : vars.length ≤ 1048576) (hr2 : RdTs w A2 row) (hrl : row.length ≤ 1048576) (hzr : szRow row) :
    Calls Tryz.prog 6 #[.slice A l.length c, .slice A1 vars.length c1, .slice A2 row.length c2] w fun e w' => e = .returned (.bool true) ∧ Below w.heap.size w w' := by
  have hl' : (l.length : Int) ≤ 1048576 := by omega
  have hv1 : vars.length ≤ 281474976710656 := by omega
  have hrl1 : row.length ≤ 281474976710656 := by omega
  have HZ := Lib.hid (And.intro hz hn)
  have hG := lawGreat n l A A1 A2 c vars.length c1 row.length c2 w hr (by omega) hv1 hrl1 hz
  have HR := Lib.hid (And.intro hr (And.intro hr1 hr2))
  clear hr hr1 hr2 hz hn
  go_enter Tryz.func6, Tryz.ntmps6
  go_wp2_with fail
  refine hG.mono ?_
  rintro e w1 ⟨b, rfl, hb1⟩
  have HB1 := Lib.hid hb1
  clear hG
  cases b
  · have hE := (lentExprs n (kitLentE n) l A c w1 (RdEs.later HR.out.1 hb1) (by omega) HZ.out.1).mono fun _ _ h => LnRs.some h
    clear hb1
    go_wp2_with fail
    refine hE.mono ?_
    rintro e w2 ⟨g1, xs, rfl, hg1, hE1, hX1, hb2⟩
    have HB2 := Lib.hid (below_tr HB1.out hb2)
    have hT := lent_some (lentTexts vars A1 c1 w2 (HR.out.2.1.later HB2.out) hv)
    have HE1 := Lib.hid (And.intro hE1 hX1)
    clear hE hb2 hE1 hX1
    go_wp2_with fail
    refine hT.mono ?_
    rintro e w3 ⟨g2, rfl, hg2, hT1, hb3⟩
    have HB3 := Lib.hid (below_tr HB2.out hb3)
    have hT := lent_some (lentTerms row A2 c2 w3 (RdTs.flat.1 (RdTs.later HR.out.2.2 HB3.out)) hrl)
    have HE2 := Lib.hid (And.intro (HE1.out.1.stays (Stays.below hb3) hg1) (And.intro (HE1.out.2.mono fun _ _ _ h => h.old hb3) hT1))
    clear hb3 hT1 HE1
    go_wp2_with fail
    refine hT.mono ?_
    rintro e w4 ⟨g3, rfl, hg3, hT1, hb4⟩
    have HB4 := Lib.hid (below_tr HB3.out hb4)
    have hk1 := HE2.out.1.stays (Stays.below hb4) hg1
    have hk2 : All 7 (RdLn n w1.heap.size w4) xs l := HE2.out.2.1.mono fun _ _ _ h => h.old hb4
    have hk3 := HE2.out.2.2.stays (Stays.below hb4) hg2
    have HK := Lib.hid (And.intro hk1 (And.intro hk2 (And.intro hk3 hT1)))
    have HR4 := Lib.hid (And.intro (RdEs.later HR.out.1 HB4.out) (And.intro (HR.out.2.1.later HB4.out) (RdTs.later HR.out.2.2 HB4.out)))
    clear hb4 hT1 HE2 hk1 hk2 hk3 HR hT
    go_wp2
    go_loopw [10] (fun i wr => ∃ j : Nat, j ≤ l.length ∧ i = .int .i64 j ∧ Below w4.heap.size w4 wr) (fun i _ => l.length - (intOf i).toNat)
    case atStart => exact ⟨0, by omega, rfl, Below.refl _ _⟩
    case round =>
      obtain ⟨j, hj, rfl, hB⟩ := hrel
      have q0 := RdEs.later HR4.out.1 hB
      have q1 := HR4.out.2.1.later hB
      have q2 := RdTs.later HR4.out.2.2 hB
      have k1 := HK.out.1.stays (Stays.below hB) hg1
      have k2 : All 7 (RdLn n w1.heap.size wr) xs l := HK.out.2.1.mono fun _ _ _ h => h.old hB
      have k3 := HK.out.2.2.1.stays (Stays.below hB) hg2
      have k4 := HK.out.2.2.2.stays (Stays.below hB) hg3
      have p0 : RdEs n wr (some ⟨g1, 0, none⟩) l := ⟨xs, k1.rd1, k2.mono fun _ _ _ h => h.rdE⟩
      have p1 : Rd wr (some ⟨g2, 0, none⟩) (vars.map Value.string) := LentB.rdStr k3
      have p2 : RdTs wr (some ⟨g3, 0, none⟩) row := RdTs.flat.2 (by rw [List.flatMap_append] at k4; exact k4.rd1)
      have HBr := Lib.hid hB
      clear hB
      by_cases hlt : j < l.length
      · obtain ⟨y, hy⟩ : ∃ y, l[j]? = some y := ⟨_, List.getElem?_eq_getElem hlt⟩
        have hym := List.mem_of_getElem? hy
        have hzy := HZ.out.1 y hym
        have hny := HZ.out.2 y hym
        obtain ⟨a0, a1, x0, x1, x2, x3, x4, x5, hgx, hRx, e0, e1, e2, e3, e4, e5, e6⟩ := p0.atv hy
        obtain ⟨b0, b1, y0, y1, y2, y3, y4, y5, rfl, hRy, f0, f1, f2, f3, f4, f5, f6⟩ := q0.atv hy
        have P := Lib.hid (And.intro p1 (And.intro p2 hRx))
        have Q := Lib.hid (And.intro q1 (And.intro q2 hRy))
        injection hgx with hgx
        injection hgx with hg1' hg2'
        subst hg1'
        subst hg2'
        simp only [Nat.zero_add] at e0 e1 e2 e3 e4 e5 e6
        clear p0 p1 p2 q0 q1 q2 k1 k2 k3 k4 hRx hRy hy hym
        go_upto_region 7 with (fail)
        go_cut [42] from 28 to 41 (fun s wx => s = .bool false ∧ Below wr.heap.size wr wx)
        case first =>
          rename_i hJ hM
          refine Rf.wp_region_pl wr.heap.size _ (Rf.Pl.quiet [0, 1, 2, 3, 4, 5, 7, 8, 9, 10, 11, 12] (Rf.Pl.one 6 (Rf.Pl.one 13 (Rf.Pl.quiet [14] (Rf.Pl.done))))) _ (by kernel_rfl) (by kernel_rfl) (by simp only [Rf.Pl.pick, Rf.pickO, List.map_cons, List.map_nil, Rg.pickOps, List.getElem?_toArray, List.getElem?_cons_zero, List.getElem?_cons_succ, Option.getD_some]; rfl) ?_ (fun a w h => h)
          intro wd hbd hwz
          replace e0 := cellL e0 hbd
          replace e1 := cellL e1 hbd
          replace e2 := cellL e2 hbd
          replace e3 := cellL e3 hbd
          replace e4 := cellL e4 hbd
          replace e5 := cellL e5 hbd
          replace e6 := cellL e6 hbd
          replace f0 := cellL f0 hbd
          replace f1 := cellL f1 hbd
          replace f2 := cellL f2 hbd
          replace f3 := cellL f3 hbd
          replace f4 := cellL f4 hbd
          replace f5 := cellL f5 hbd
          replace f6 := cellL f6 hbd
          have hO := filOf vars row hv1 hrl1 hzr n y _ _ _ (vars.length + 12) (row.length + 12) wd (P.out.1.later hbd) (RdTs.later P.out.2.1 hbd) (P.out.2.2.later hbd) hzy
          have hS := fun (W : World) (hb : Below wd.heap.size wd W) => r25Of vars row hv1 hrl1 hzr n y _ A1 A2 c1 c2 W (Q.out.1.later (below_tr hbd hb)) (RdTs.later Q.out.2.1 (below_tr hbd hb)) (Q.out.2.2.later (below_tr hbd hb)) hzy hny
          have Hbd := Lib.hid hbd
          have hle := hbd.size
          clear hwz hbd P Q
          generalize ofI vars row n y = v at *
          refine Rf.pl_quiet ?_
          iterate 12 go_big_quiet_step (fail)
          refine wpQuiet_nil (Rf.pl_one ?_)
          go_wp2_with (refine hO.mono ?_; rintro e w5 ⟨rfl, b5⟩)
          refine ⟨b5.mono hle, Rf.pl_one ?_⟩
          go_wp2_with (refine (hS _ b5).mono ?_; rintro e w6 ⟨rfl, b6⟩)
          refine ⟨b6.mono (Nat.le_trans hle b5.size), Rf.pl_quiet ?_⟩
          iterate 1 go_big_quiet_step (fail)
          refine wpQuiet_nil (Rf.pl_done ?_)
          refine hM _ _ (Met.intro (hJ _ _ ?_))
          (repeat apply Exists.intro)
          exact ⟨⟨by simp, below_tr (below_tr Hbd.out b5) b6⟩, rfl⟩
        obtain ⟨rfl, hbb⟩ := hcut
        have HF := Lib.hid (below_tr HBr.out hbb)
        clear hbb
        go_wp2
        go_roundw
        case rel => exact ⟨j + 1, by omega, by go_num, HF.out⟩
        case measure => simp [intOf]; omega
      · have hB4r := below_tr HB4.out HBr.out
        have HBf := Lib.hid hB4r
        have hK1 := filKeeps vars row hv1 hrl1 hzr n l _ _ _ (l.length + 12) (vars.length + 12) (row.length + 12) wr p1 p2 p0 (by omega) HZ.out.1
        have hK2 := fun (W : World) (hb : Below wr.heap.size wr W) => r25Keeps vars row hv1 hrl1 hzr n l A A1 A2 c c1 c2 W (RdEs.later q0 hb) (q1.later hb) (RdTs.later q2 hb) (by omega) HZ.out.1 HZ.out.2
        have hK3 := fun (W : World) (hb : Below wr.heap.size wr W) => keptExprs n (keptExpr n) w1.heap.size l g1 xs A c W hg1 (k1.stays (Stays.below hb) hg1) (k2.mono fun _ _ _ h => h.old hb) (RdEs.later q0 hb) (by omega) HZ.out.1
        have hK4 := fun (W : World) (hb : Below wr.heap.size wr W) => keptTexts vars g2 A1 c1 W (k3.stays (Stays.below hb) hg2) (q1.later hb) hv
        have hK5 := fun (W : World) (hb : Below wr.heap.size wr W) => keptTerms row g3 A2 c2 W (k4.stays (Stays.below hb) hg3) (RdTs.flat.1 (RdTs.later q2 hb)) hrl
        generalize failsI vars row n l = fb at *
        clear p0 p1 p2 q0 q1 q2 k1 k2 k3 k4 hB4r
        go_wp2_with fail
        refine hK1.mono ?_
        rintro e w5 ⟨rfl, b5⟩
        go_wp2_with fail
        refine (hK2 _ b5).mono ?_
        rintro e w6 ⟨rfl, b6⟩
        have b56 := below_tr b5 b6
        have hd : decide ((!fb) = (!fb)) = true := by simp
        cases fb
        all_goals
          clear hK1 hK2 b5 b6
          go_wp2_with fail
          refine (hK3 _ b56).mono ?_
          rintro e w7 ⟨rfl, b7⟩
          have b57 := below_tr b56 b7
          clear hK3 b7
          go_wp2_with fail
          refine (hK4 _ b57).mono ?_
          rintro e w8 ⟨rfl, b8⟩
          have b58 := below_tr b57 b8
          clear hK4 b8
          go_wp2_with fail
          refine (hK5 _ b58).mono ?_
          rintro e w9 ⟨rfl, b9⟩
          have b59 := below_tr b58 b9
          clear hK5 b9
          go_wp2_with fail
          refine (lawAwake _).mono ?_
          rintro e w10 ⟨rfl, b10⟩
          go_wp2
          go_ret
          exact ⟨rfl, below_tr (below_tr HBf.out b59) b10⟩
  · go_wp2_with fail
    refine (lawAwake _).mono ?_
    rintro e w2 ⟨rfl, hb2⟩
    go_wp2
    go_ret
    exact ⟨rfl, below_tr hb1 hb2⟩
end Go.Proofs.YtfijpdmkdoccjaaGreatDoor
