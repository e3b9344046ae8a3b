/- The program's package filter, walked: a judge's kind (printed by gen/filkid.py). -/
import Derived.Test.YtfijpdmkdoccjaaGreatDoorJFilAlone
namespace Go.Proofs.YtfijpdmkdoccjaaGreatDoor
open Go Go.RowKit Go.Maps Go.ChangeMaps Fm

theorem two_of {α : Type} (l : List α) (h : l.length = 2) : ∃ x y, l = [x, y] := by
  match l, h with
  | [x, y], _ => exact ⟨x, y, rfl⟩
theorem oneI_len (k : Int) (l : List (Option Tm)) (h : l.length ≠ 1) : oneI k l = 3 := by
  unfold oneI; split
  · exact (h rfl).elim
  · rfl
theorem twoI_len (k : Int) (l : List (Option Tm)) (h : l.length ≠ 2) : twoI k l = 3 := by
  unfold twoI; split
  · exact (h rfl).elim
  · rfl
theorem TmAt.on {W W1 : World} {b : Nat} {t : Tm} (h : TmAt W b t) (hb : Below W.heap.size W W1) : TmAt W1 b t := ⟨cell_on h.1 hb, cell_on h.2.1 hb, cell_on h.2.2.1 hb, cell_on h.2.2.2 hb⟩
theorem szE_kids {n : Nat} {x : ExT n} {w : World} {k : Int} {s : ByteArray} {t : Tm} {A : Option Addr} {m c : Nat} (h : szE n x) (hr : RdE n w [.int .i64 k, .string s, .int .i64 t.k, .string t.x, .string t.l, .string t.y, .slice A m c] x) :
    t.x.size ≤ 140737488351232 ∧ m ≤ 1353245080300 := by
  match n, x, h, hr with
  | n + 1, (k', s', t', kids), ⟨h1, h2, h3, h4⟩, ⟨A', c', he, hc, hk⟩ =>
    simp only [List.cons.injEq, Value.int.injEq, Value.string.injEq, Value.slice.injEq, and_true, true_and] at he
    obtain ⟨rfl, rfl, e3, e4, e5, e6, rfl, rfl, rfl⟩ := he
    rw [e4]; exact ⟨h2, h3⟩
theorem termOf_rd (vars : List ByteArray) (row : List Tm) {n : Nat} {x : ExT n} {w : World} {k : Int} {s : ByteArray} {t : Tm} {A : Option Addr} {m c : Nat} (hr : RdE n w [.int .i64 k, .string s, .int .i64 t.k, .string t.x, .string t.l, .string t.y, .slice A m c] x) :
    termOf vars row n x = termP vars row k s t (m == 0) := by
  match n, x, hr with
  | n + 1, (k', s', t', kids), ⟨A', c', he, hc, hk⟩ =>
    simp only [List.cons.injEq, Value.int.injEq, Value.string.injEq, Value.slice.injEq, and_true, true_and] at he
    obtain ⟨rfl, rfl, e3, e4, e5, e6, rfl, rfl, rfl⟩ := he
    have et : t' = t := by cases t'; cases t; simp at e3 e4 e5 e6; simp [e3, e4, e5, e6]
    subst et
    unfold termOf
    cases kids <;> rfl
theorem termP_sized (vars : List ByteArray) (row : List Tm) (k : Int) (s : ByteArray) (t : Tm) (q : Bool) (h : t.x.size ≤ 140737488351232) (hr : ∀ u ∈ row, u.x.size ≤ 281474976710656) : ∀ u, termP vars row k s t q = some u → u.x.size ≤ 281474976710656 := by
  intro u hu
  unfold termP at hu
  split at hu
  · split at hu
    · injection hu with hu; subst hu; omega
    · split at hu
      · split at hu
        · cases hu
        · exact hr u (List.mem_of_getElem? hu)
      · cases hu
  · cases hu

set_option maxRecDepth 20000 in
set_option maxHeartbeats 4000000 in
theorem filJKind (vars : List ByteArray) (row : List Tm) (b : Nat) (k : Int) (s : ByteArray) (t : Tm) (A : Option Addr) (c n : Nat) (kids : List (ExT n)) (w : World) (hk : RdEs n w A kids) (hkl : kids.length ≤ 1353245080300)
    (hj : JudgeAt w b vars row) (hv : vars.length ≤ 281474976710656) (hrl : row.length ≤ 281474976710656) (hzr : ∀ u ∈ row, u.x.size ≤ 281474976710656) (hzk : ∀ x ∈ kids, szE n x) :
    Calls Tryz.prog 89 #[.pointer (some ⟨b, 0, none⟩), .agg #[.int .i64 k, .string s, .int .i64 t.k, .string t.x, .string t.l, .string t.y, .slice A kids.length c]] w
      fun e w' => e = .returned (.int .i64 (oneI k (kids.map (termOf vars row n)))) ∧ Below w.heap.size w w' := by
  have hl' : (kids.length : Int) ≤ 1353245080300 := by omega
  by_cases hn : (kids.length : Int) = 1
  case neg =>
    have hv : oneI k (kids.map (termOf vars row n)) = 3 := by
      exact oneI_len _ _ (by rw [List.length_map]; omega)
    rw [hv]
    clear hk hv hj hzr hzk
    go_enter Tryz.func89, Tryz.ntmps89
    go_wp2
    go_ret
    exact ⟨rfl, (by repeat (first | exact Below.refl _ _ | assumption | exact (Below.refl _ _).alloc (Nat.le_refl _) _ | refine below_tr ?_ (by assumption) | refine below_alloc ?_ | refine below_tr ?_ (below_regrown _ _ _)))⟩
  case pos =>
    obtain ⟨x0, rfl⟩ : ∃ x, kids = [x] := List.length_eq_one_iff.1 (by omega)
    clear hn
    obtain ⟨A1, A2, c1, c2, r, h0', h1', h2', h3', h4', h5'⟩ := hj.ex
    obtain ⟨W, hW⟩ : ∃ W : World, w.alloc (.cells #[.int .i64 k, .string s, .int .i64 t.k, .string t.x, .string t.l, .string t.y, .slice A 1 c] 31) = W := ⟨_, rfl⟩
    have hB0 : Below w.heap.size w W := by rw [← hW]; exact (by repeat (first | exact Below.refl _ _ | assumption | exact (Below.refl _ _).alloc (Nat.le_refl _) _ | refine below_tr ?_ (by assumption) | refine below_alloc ?_ | refine below_tr ?_ (below_regrown _ _ _)))
    have hbx : ∀ (i : Nat) v, #[.int .i64 k, .string s, .int .i64 t.k, .string t.x, .string t.l, .string t.y, .slice A 1 c][i]? = some v → W.cell? ⟨w.heap.size, i, none⟩ = some v := by
      intro i v hv; rw [← hW, World.cell?, heap_alloc_new]; exact hv
    obtain ⟨g0, e0, k0, s0, t0, K0, m0, d0, rfl, hR0', q0_0, q0_1, q0_2, q0_3, q0_4, q0_5, q0_6⟩ := (RdEs.later hk hB0).atv (j := 0) (e := x0) rfl
    have hm0 := szE_kids (hzk x0 (by simp)) hR0'
    have hR0 := fun W a b => filRowOf vars row A1 A2 K0 c1 c2 m0 d0 k0 s0 t0 W hv hrl (by omega) a b
    have hz0 := termP_sized vars row k0 s0 t0 (m0 == 0) hm0.1 hzr
    rw [← termOf_rd vars row hR0'] at hR0 hz0
    simp only [List.map_cons, List.map_nil, List.length_cons, List.length_nil, Nat.zero_add] at hl' ⊢
    simp only [Nat.zero_mul, Nat.add_zero] at q0_0 q0_1 q0_2 q0_3 q0_4 q0_5 q0_6
    generalize termOf vars row n x0 = o0 at *
    obtain ⟨v, hvv⟩ : ∃ v : Int, oneI k ([o0]) = v := ⟨_, rfl⟩
    rw [hvv]
    have Hv := Lib.hid hvv
    have ho0 := Lib.hid (show ∀ u, o0 = some u → o0.getD zTm = u from fun u h => by rw [h]; rfl)
    unfold optV tmV at hR0
    generalize o0.getD zTm = z0 at *
    have h0 : W.cell? ⟨b, 0, none⟩ = some (.slice A1 vars.length c1) := by rw [hB0.cell (cell_lt h0')]; exact h0'
    have h1 : W.cell? ⟨b, 1, none⟩ = some (.slice A2 row.length c2) := by rw [hB0.cell (cell_lt h1')]; exact h1'
    have h4 := Rd.later h4' hB0
    have h5 := RdTs.later h5' hB0
    have hb6 := hbx 6 _ rfl
    have hb0 := hbx 0 _ rfl
    have HB0 := Lib.hid hB0
    clear hbx hk hj hzr hzk hvv hB0 h0' h1' h2' h3' h4' h5' hR0'
    go_enter Tryz.func89, Tryz.ntmps89
    go_wp2
    try simp only [hW]
    have HW := Lib.hid hW
    clear hW
    refine Rf.wp_region_pl W.heap.size ?R0 (Rf.Pl.quiet [0, 1, 2, 3, 4, 5, 6, 7] (Rf.Pl.fork 8 12 (Rf.Pl.quiet [9, 10, 11] (Rf.Pl.one 12 (Rf.Pl.one 13 (Rf.Pl.quiet [14] (Rf.Pl.done))))) (Rf.Pl.one 8 (Rf.Pl.quiet [9, 10, 11] (Rf.Pl.one 13 (Rf.Pl.quiet [14] (Rf.Pl.done))))))) _ (by kernel_rfl) (by kernel_rfl) (by simp only [Rf.Pl.pick, Rf.pickO, List.map_cons, List.map_nil, Rg.pickOps, List.getElem?_toArray, List.getElem?_cons_zero, List.getElem?_cons_succ, Option.getD_some]; rfl) ?_ ?_
    case R0 => exact fun a W' => ∃ (B : Nat) (z : Tm) (u12 u13 u14 u15 u16 u17 u18 u19 u20 u11 u21 u22 : Value), a = { tmps := #[.pointer (some ⟨b, 0, none⟩), .agg #[.int .i64 k, .string s, .int .i64 t.k, .string t.x, .string t.l, .string t.y, .slice (some ⟨g0, e0, none⟩) 1 c], undef, .pointer (some ⟨w.heap.size, 0, none⟩), .int .i64 0, .pointer (some ⟨B, 0, none⟩), .bool o0.isSome, .pointer (some ⟨w.heap.size, 6, none⟩), .slice (some ⟨g0, e0, none⟩) 1 c, .int .i64 1, .bool false, u11, u12, u13, u14, u15, u16, u17, u18, u19, u20, u21, u22, undef, undef, undef, undef, undef, undef, undef, undef, undef, undef, undef, undef, undef, undef, undef, undef, undef, undef, undef], defers := [] } ∧ (∀ u, o0 = some u → z = u) ∧ TmAt W' B z ∧ Below W.heap.size W W'
    · intro wd hbd hwz
      have L_h0 := cellL h0 hbd
      have L_h1 := cellL h1 hbd
      have L_hb6 := cellL hb6 hbd
      have L_q0_0 := cellL q0_0 hbd
      have L_q0_1 := cellL q0_1 hbd
      have L_q0_2 := cellL q0_2 hbd
      have L_q0_3 := cellL q0_3 hbd
      have L_q0_4 := cellL q0_4 hbd
      have L_q0_5 := cellL q0_5 hbd
      have L_q0_6 := cellL q0_6 hbd
      have hr1 := (h4).later hbd
      have hr2 := RdTs.later h5 hbd
      have Hz := Lib.hid hwz
      have hle : W.heap.size ≤ wd.heap.size := hbd.size
      clear h0 h1 hb6 q0_0 q0_1 q0_2 q0_3 q0_4 q0_5 q0_6 hwz
      refine Rf.pl_quiet ?_
      iterate 8 go_big_quiet_step (fail)
      refine wpQuiet_nil (Rf.pl_fork ?_ ?_)
      · go_wp2_with (refine (hR0 _ hr1 hr2).mono ?_; rintro e w1 ⟨rfl, hb1⟩)
        have hb2 := hb1.mono hle
        refine ⟨hb2, Rf.pl_quiet ?_⟩
        iterate 3 go_big_quiet_step (fail)
        refine wpQuiet_nil (Rf.pl_one ?_)
        go_wp2
        refine ⟨(Below.refl _ _).alloc (Nat.le_trans hle hb1.size) _, Rf.pl_one ?_⟩
        go_wp2
        refine ⟨below_reset (Nat.le_trans hle hb1.size) _ _, Rf.pl_quiet ?_⟩
        iterate 1 go_big_quiet_step (fail)
        exact wpQuiet_nil (Rf.pl_done ⟨_, z0, _, _, _, _, _, _, _, _, _, _, _, _, rfl, ho0.out, tmAt_alloc _ _ _, (hbd.trans hb2).alloc (Nat.le_trans hle hb1.size) _⟩)
      · go_wp2
        refine ⟨(Below.refl _ _).alloc hle _, Rf.pl_one ?_⟩
        go_wp2_with (refine (hR0 _ (hr1.later (by repeat (first | exact Below.refl _ _ | assumption | exact (Below.refl _ _).alloc (Nat.le_refl _) _ | refine below_tr ?_ (by assumption) | refine below_alloc ?_ | refine below_tr ?_ (below_regrown _ _ _)))) (RdTs.later hr2 (by repeat (first | exact Below.refl _ _ | assumption | exact (Below.refl _ _).alloc (Nat.le_refl _) _ | refine below_tr ?_ (by assumption) | refine below_alloc ?_ | refine below_tr ?_ (below_regrown _ _ _))))).mono ?_; rintro e w1 ⟨rfl, hb1⟩)
        obtain ⟨hc, hf⟩ := bcell hb1
        refine ⟨hb1.mono (by simp; omega), Rf.pl_quiet ?_⟩
        iterate 3 go_big_quiet_step (fail)
        refine wpQuiet_nil (Rf.pl_one ?_)
        go_wp2
        have hle2 : W.heap.size ≤ wd.heap.size := hle
        refine ⟨below_set4 hle2 _ _ _ _, Rf.pl_quiet ?_⟩
        have hT : TmAt w1 wd.heap.size zTm := by
          refine ⟨?_, ?_, ?_, ?_⟩ <;> (rw [hb1.cell (by simp), World.cell?, heap_alloc_new]; rfl)
        iterate 1 go_big_quiet_step (fail)
        exact wpQuiet_nil (Rf.pl_done ⟨_, z0, _, _, _, _, _, _, _, _, _, _, _, _, rfl, ho0.out, hT.set z0, ((hbd.trans ((Below.refl _ _).alloc hle _)).trans (hb1.mono (by simp; omega))).trans (below_set4 hle2 _ _ _ _)⟩)
    · rintro a W1 ⟨B, z, u12, u13, u14, u15, u16, u17, u18, u19, u20, u11, u21, u22, rfl, hz1, ⟨w0, w1, w2, w3⟩, hb1⟩
      have hb0' := cell_on hb0 hb1
      have Hb1 := Lib.hid hb1
      have Hz1 := Lib.hid hz1
      clear hb1 hz1 h0 h1 hb6 hb0 h4 h5 hR0 ho0 q0_0 q0_1 q0_2 q0_3 q0_4 q0_5 q0_6
      cases o0 with
      | none =>
        simp only [Option.isSome_none]
        go_wp2
        go_ret
        exact ⟨by rw [← Hv.out]; rfl, below_tr HB0.out Hb1.out⟩
      | some u =>
        obtain rfl := Hz1.out u rfl
        clear hz0
        simp only [Option.isSome_some]
        have hvk : oneI k [some z] = kindK k z := rfl
        rw [hvk] at Hv
        by_cases h12 : k = 12
        · subst h12
          go_wp2_with ((refine (filTold _ _).mono ?_); (rintro e w4 ⟨rfl, rfl⟩))
          go_ret
          exact ⟨by rw [← Hv.out]; rfl, below_tr HB0.out Hb1.out⟩
        · have h12' : (k == 12) = false := by simpa using h12
          by_cases h13 : k = 13
          · subst h13
            go_wp2_with fail
            refine (filLiteral _ _ _ _ _).mono ?_
            rintro e w4 ⟨rfl, hb4⟩
            go_wp2_with ((refine (filTold _ _).mono ?_); (rintro e w5 ⟨rfl, rfl⟩))
            go_ret
            exact ⟨by rw [← Hv.out]; rfl, below_tr (below_tr HB0.out Hb1.out) hb4⟩
          · have h13' : (k == 13) = false := by simpa using h13
            go_wp2_with ((refine (filTold _ _).mono ?_); (rintro e w4 ⟨rfl, rfl⟩))
            go_ret
            have hvv : v = toldI (z.k == 2) := by rw [← Hv.out]; unfold kindK; rw [if_neg (by simp [h12]), if_neg (by simp [h13])]
            exact ⟨by rw [hvv]; rfl, below_tr HB0.out Hb1.out⟩
end Go.Proofs.YtfijpdmkdoccjaaGreatDoor
