/- The law on queries that are the same, walked (printed by gen/law22s.py). -/
import Derived.Test.YtafaanegkoolgaaGreatDoorJLaw22p
import Derived.Test.YtafaanegkoolgaaGreatDoorJLaw22b
namespace Go.Proofs.YtafaanegkoolgaaGreatDoor
open Go Go.RowKit Um Fm Mt
theorem cells_set {w : World} {g j : Nat} {cs : Array Value} {t : TypeId} {v : Value} (h : w.heap[g]? = some (.cells cs t (0, 0))) (l : List Value) (hl : cs.setIfInBounds j v = l.toArray) : ∀ (i : Nat) u, l[i]? = some u → (w.setCell ⟨g, j, none⟩ v).cell? ⟨g, i, none⟩ = some u := by
  intro i u hu
  rw [World.cell?, heap_setCell_same _ _ _ _ _ _ h, hl]
  simpa using hu
theorem cells_row {w : World} {g : Nat} {cs : Array Value} {t : TypeId} (h : w.heap[g]? = some (.cells cs t (0, 0))) (l : List Value) (hl : cs = l.toArray) : ∀ (i : Nat) u, l[i]? = some u → w.cell? ⟨g, i, none⟩ = some u := by
  intro i u hu
  rw [World.cell?, h, hl]
  simpa using hu
theorem szL_of {n : Nat} {q : Qy n} (h : szQ q) (h2 : ∀ x ∈ q.fils, szE n x) : szL q := ⟨h.1, h.2.1, h.2.2.1, h.2.2.2.1, h2⟩
set_option maxRecDepth 100000 in
set_option maxHeartbeats 8000000 in
theorem lawQuerySame (n : Nat) (a b : Qy n) (a1 a2 a3 a4 m1 m2 m3 m4 : Option Addr) (c1 c2 c3 c4 d1 d2 d3 d4 : Nat) (tn : Int) (w : World) (hC : Ctx w) (za : szQ a) (zb : szQ b) (ea : ∀ x ∈ a.fils, szE n x) (eb : ∀ x ∈ b.fils, szE n x)
    (ra : RdQ n w [.bool a.ask, .bool a.dist, .slice a1 a.vars.length c1, .slice a2 a.pats.length c2, .slice a3 a.fils.length c3, .slice a4 a.ord.length c4, .int .i64 a.lim, .int .i64 a.off] a) (rb : RdQ n w [.bool b.ask, .bool b.dist, .slice m1 b.vars.length d1, .slice m2 b.pats.length d2, .slice m3 b.fils.length d3, .slice m4 b.ord.length d4, .int .i64 b.lim, .int .i64 b.off] b) :
    Calls Tryz.prog 3 #[.agg #[.bool a.ask, .bool a.dist, .slice a1 a.vars.length c1, .slice a2 a.pats.length c2, .slice a3 a.fils.length c3, .slice a4 a.ord.length c4, .int .i64 a.lim, .int .i64 a.off], .agg #[.bool b.ask, .bool b.dist, .slice m1 b.vars.length d1, .slice m2 b.pats.length d2, .slice m3 b.fils.length d3, .slice m4 b.ord.length d4, .int .i64 b.lim, .int .i64 b.off], .int .i64 tn] w fun e w' => e = .returned (.bool true) ∧ Below w.heap.size w w' := by
  have sa := szL_of za ea
  have sb := szL_of zb eb
  obtain ⟨W, hW⟩ : ∃ W : World, ((w.alloc (.cells #[.bool a.ask, .bool a.dist, .slice a1 a.vars.length c1, .slice a2 a.pats.length c2, .slice a3 a.fils.length c3, .slice a4 a.ord.length c4, .int .i64 a.lim, .int .i64 a.off] 27)).alloc (.cells #[.bool b.ask, .bool b.dist, .slice m1 b.vars.length d1, .slice m2 b.pats.length d2, .slice m3 b.fils.length d3, .slice m4 b.ord.length d4, .int .i64 b.lim, .int .i64 b.off] 27)) = W := ⟨_, rfl⟩
  have hB0 : Below w.heap.size w W := by rw [← hW]; exact (by repeat (first | exact Below.refl _ _ | assumption | exact (Below.refl _ _).alloc (Nat.le_refl _) _ | refine below_tr ?_ (by assumption) | refine below_alloc ?_ | refine below_tr ?_ (below_regrown _ _ _)))
  have k0 : W.cell? ⟨w.heap.size, 0, none⟩ = some (.bool a.ask) := by rw [← hW, World.cell?, heap_two_1]; rfl
  have k1 : W.cell? ⟨w.heap.size, 1, none⟩ = some (.bool a.dist) := by rw [← hW, World.cell?, heap_two_1]; rfl
  have k2 : W.cell? ⟨w.heap.size, 2, none⟩ = some (.slice a1 a.vars.length c1) := by rw [← hW, World.cell?, heap_two_1]; rfl
  have k3 : W.cell? ⟨w.heap.size, 3, none⟩ = some (.slice a2 a.pats.length c2) := by rw [← hW, World.cell?, heap_two_1]; rfl
  have k4 : W.cell? ⟨w.heap.size, 4, none⟩ = some (.slice a3 a.fils.length c3) := by rw [← hW, World.cell?, heap_two_1]; rfl
  have k5 : W.cell? ⟨w.heap.size, 5, none⟩ = some (.slice a4 a.ord.length c4) := by rw [← hW, World.cell?, heap_two_1]; rfl
  have k6 : W.cell? ⟨w.heap.size, 6, none⟩ = some (.int .i64 a.lim) := by rw [← hW, World.cell?, heap_two_1]; rfl
  have k7 : W.cell? ⟨w.heap.size, 7, none⟩ = some (.int .i64 a.off) := by rw [← hW, World.cell?, heap_two_1]; rfl
  have l0 : W.cell? ⟨w.heap.size + 1, 0, none⟩ = some (.bool b.ask) := by rw [← hW, World.cell?, heap_two_2]; rfl
  have l1 : W.cell? ⟨w.heap.size + 1, 1, none⟩ = some (.bool b.dist) := by rw [← hW, World.cell?, heap_two_2]; rfl
  have l2 : W.cell? ⟨w.heap.size + 1, 2, none⟩ = some (.slice m1 b.vars.length d1) := by rw [← hW, World.cell?, heap_two_2]; rfl
  have l3 : W.cell? ⟨w.heap.size + 1, 3, none⟩ = some (.slice m2 b.pats.length d2) := by rw [← hW, World.cell?, heap_two_2]; rfl
  have l4 : W.cell? ⟨w.heap.size + 1, 4, none⟩ = some (.slice m3 b.fils.length d3) := by rw [← hW, World.cell?, heap_two_2]; rfl
  have l5 : W.cell? ⟨w.heap.size + 1, 5, none⟩ = some (.slice m4 b.ord.length d4) := by rw [← hW, World.cell?, heap_two_2]; rfl
  have l6 : W.cell? ⟨w.heap.size + 1, 6, none⟩ = some (.int .i64 b.lim) := by rw [← hW, World.cell?, heap_two_2]; rfl
  have l7 : W.cell? ⟨w.heap.size + 1, 7, none⟩ = some (.int .i64 b.off) := by rw [← hW, World.cell?, heap_two_2]; rfl
  go_enter Tryz.func3, Tryz.ntmps3
  go_wp2_with fail
  try simp only [hW]
  have HW := Lib.hid hW
  clear hW
  refine (l22Awake _ (hC.step hB0)).mono ?_
  rintro e w1 ⟨rfl, b1⟩
  have B01 := below_tr hB0 b1
  replace k0 := cell_on k0 b1
  replace k1 := cell_on k1 b1
  replace k2 := cell_on k2 b1
  replace k3 := cell_on k3 b1
  replace k4 := cell_on k4 b1
  replace k5 := cell_on k5 b1
  replace k6 := cell_on k6 b1
  replace k7 := cell_on k7 b1
  replace l0 := cell_on l0 b1
  replace l1 := cell_on l1 b1
  replace l2 := cell_on l2 b1
  replace l3 := cell_on l3 b1
  replace l4 := cell_on l4 b1
  replace l5 := cell_on l5 b1
  replace l6 := cell_on l6 b1
  replace l7 := cell_on l7 b1
  have B1 : Below w1.heap.size w1 (w1.alloc (.cells #[.bool a.ask, .bool a.dist, .slice a1 a.vars.length c1, .slice a2 a.pats.length c2, .slice a3 a.fils.length c3, .slice a4 a.ord.length c4, .int .i64 a.lim, .int .i64 a.off, .bool b.ask, .bool b.dist, .slice m1 b.vars.length d1, .slice m2 b.pats.length d2, .slice m3 b.fils.length d3, .slice m4 b.ord.length d4, .int .i64 b.lim, .int .i64 b.off] 27)) := (by repeat (first | exact Below.refl _ _ | assumption | exact (Below.refl _ _).alloc (Nat.le_refl _) _ | refine below_tr ?_ (by assumption) | refine below_alloc ?_ | refine below_tr ?_ (below_regrown _ _ _)))
  have ra1 := ra.later B01
  have rb1 := rb.later B01
  have hg := law22Great n [a, b] (some ⟨w1.heap.size, 0, none⟩) 2 _ ⟨_, Rd.of_block (heap_alloc_new w1 _) rfl, ⟨[.bool a.ask, .bool a.dist, .slice a1 a.vars.length c1, .slice a2 a.pats.length c2, .slice a3 a.fils.length c3, .slice a4 a.ord.length c4, .int .i64 a.lim, .int .i64 a.off], [.bool b.ask, .bool b.dist, .slice m1 b.vars.length d1, .slice m2 b.pats.length d2, .slice m3 b.fils.length d3, .slice m4 b.ord.length d4, .int .i64 b.lim, .int .i64 b.off], rfl, rfl, ra1.later B1, All.one rfl (rb1.later B1)⟩⟩ (by simp) (by intro q hq; simp only [List.mem_cons, List.not_mem_nil, or_false] at hq; rcases hq with rfl | rfl <;> assumption)
  clear ra rb b1 hB0
  go_wp2_with fail
  refine hg.mono ?_
  rintro e w2 ⟨g, rfl, hgp, b2⟩
  have b12 := below_tr B1 b2
  have B02 := below_tr B01 b12
  clear hg
  cases g
  case true =>
    clear hgp
    go_wp2
    go_ret
    exact ⟨rfl, B02⟩
  have hall : allQ a + allQ b ≤ 400 := by simpa using hgp rfl
  have hcnt : cntQ a + (a.fils.flatMap (preE n)).length ≤ 400 := by unfold allQ at hall; omega
  replace k0 := cell_on k0 b12
  replace k1 := cell_on k1 b12
  replace k2 := cell_on k2 b12
  replace k3 := cell_on k3 b12
  replace k4 := cell_on k4 b12
  replace k5 := cell_on k5 b12
  replace k6 := cell_on k6 b12
  replace k7 := cell_on k7 b12
  replace l0 := cell_on l0 b12
  replace l1 := cell_on l1 b12
  replace l2 := cell_on l2 b12
  replace l3 := cell_on l3 b12
  replace l4 := cell_on l4 b12
  replace l5 := cell_on l5 b12
  replace l6 := cell_on l6 b12
  replace l7 := cell_on l7 b12
  have ra2 := ra1.later b12
  have rb2 := rb1.later b12
  have C2 := hC.step B02
  clear ra1 rb1 b2 B1 B01 b12 hgp hall
  go_upto_region 5 with (fail)
  go_cut [51] from 18 to 51 (fun s51 wx => s51 = .bool false ∧ Below w2.heap.size w2 wx)
  case first =>
    rename_i hJ hM
    have hAA := fun d os => qSame n a a [.bool a.ask, .bool a.dist, .slice a1 a.vars.length c1, .slice a2 a.pats.length c2, .slice a3 a.fils.length c3, .slice a4 a.ord.length c4, .int .i64 a.lim, .int .i64 a.off] [.bool a.ask, .bool a.dist, .slice a1 a.vars.length c1, .slice a2 a.pats.length c2, .slice a3 a.fils.length c3, .slice a4 a.ord.length c4, .int .i64 a.lim, .int .i64 a.off] (Sort.grow (redrawn w2 d) os) (ra2.later (below_regrown w2 d os)) (ra2.later (below_regrown w2 d os)) sa sa
    have hAB := fun d os => qSame n a b [.bool a.ask, .bool a.dist, .slice a1 a.vars.length c1, .slice a2 a.pats.length c2, .slice a3 a.fils.length c3, .slice a4 a.ord.length c4, .int .i64 a.lim, .int .i64 a.off] [.bool b.ask, .bool b.dist, .slice m1 b.vars.length d1, .slice m2 b.pats.length d2, .slice m3 b.fils.length d3, .slice m4 b.ord.length d4, .int .i64 b.lim, .int .i64 b.off] (Sort.grow (redrawn w2 d) os) (ra2.later (below_regrown w2 d os)) (rb2.later (below_regrown w2 d os)) sa sb
    have hBA := fun d os => qSame n b a [.bool b.ask, .bool b.dist, .slice m1 b.vars.length d1, .slice m2 b.pats.length d2, .slice m3 b.fils.length d3, .slice m4 b.ord.length d4, .int .i64 b.lim, .int .i64 b.off] [.bool a.ask, .bool a.dist, .slice a1 a.vars.length c1, .slice a2 a.pats.length c2, .slice a3 a.fils.length c3, .slice a4 a.ord.length c4, .int .i64 a.lim, .int .i64 a.off] (Sort.grow (redrawn w2 d) os) (rb2.later (below_regrown w2 d os)) (ra2.later (below_regrown w2 d os)) sb sa
    have hKS := fun d os => kitSame n a b [.bool a.ask, .bool a.dist, .slice a1 a.vars.length c1, .slice a2 a.pats.length c2, .slice a3 a.fils.length c3, .slice a4 a.ord.length c4, .int .i64 a.lim, .int .i64 a.off] [.bool b.ask, .bool b.dist, .slice m1 b.vars.length d1, .slice m2 b.pats.length d2, .slice m3 b.fils.length d3, .slice m4 b.ord.length d4, .int .i64 b.lim, .int .i64 b.off] (Sort.grow (redrawn w2 d) os) (ra2.later (below_regrown w2 d os)) (rb2.later (below_regrown w2 d os)) sa sb
    have hRA := fun d os => qRight n a [.bool a.ask, .bool a.dist, .slice a1 a.vars.length c1, .slice a2 a.pats.length c2, .slice a3 a.fils.length c3, .slice a4 a.ord.length c4, .int .i64 a.lim, .int .i64 a.off] (Sort.grow (redrawn w2 d) os) (C2.step (below_regrown w2 d os)) (ra2.later (below_regrown w2 d os)) za
    have hRB := fun d os => qRight n b [.bool b.ask, .bool b.dist, .slice m1 b.vars.length d1, .slice m2 b.pats.length d2, .slice m3 b.fils.length d3, .slice m4 b.ord.length d4, .int .i64 b.lim, .int .i64 b.off] (Sort.grow (redrawn w2 d) os) (C2.step (below_regrown w2 d os)) (rb2.later (below_regrown w2 d os)) zb
    have eAA : sameQ a a = true := sameQ_iff.2 rfl
    have eBA : sameQ b a = sameQ a b := by rw [Bool.eq_iff_iff, sameQ_iff, sameQ_iff]; exact ⟨Eq.symm, Eq.symm⟩
    have eR : sameQ a b = true → rightQ b = rightQ a := fun h => by rw [sameQ_iff.1 h]
    rw [eAA] at hAA
    rw [eBA] at hBA
    have p0 := fun d os => cell_regrown k0 d os
    have p1 := fun d os => cell_regrown k1 d os
    have p2 := fun d os => cell_regrown k2 d os
    have p3 := fun d os => cell_regrown k3 d os
    have p4 := fun d os => cell_regrown k4 d os
    have p5 := fun d os => cell_regrown k5 d os
    have p6 := fun d os => cell_regrown k6 d os
    have p7 := fun d os => cell_regrown k7 d os
    have q0 := fun d os => cell_regrown l0 d os
    have q1 := fun d os => cell_regrown l1 d os
    have q2 := fun d os => cell_regrown l2 d os
    have q3 := fun d os => cell_regrown l3 d os
    have q4 := fun d os => cell_regrown l4 d os
    have q5 := fun d os => cell_regrown l5 d os
    have q6 := fun d os => cell_regrown l6 d os
    have q7 := fun d os => cell_regrown l7 d os
    clear k0 l0 k1 l1 k2 l2 k3 l3 k4 l4 k5 l5 k6 l6 k7 l7
    clear ra2 rb2 za zb ea eb sa sb eAA eBA
    generalize sameQ a b = r at *
    generalize rightQ a = u at *
    generalize rightQ b = v at *
    cases r
    case false =>
      refine wp_region_quiet_below (by kernel_rfl) (by kernel_rfl) ?_; (repeat (any_goals (go_big_quiet_step ((first | (go_at_call 11; with_reducible exact Calls.regrown_of (hAA _ _)) | (go_at_call 11; with_reducible exact Calls.regrown_of (hAB _ _)) | (go_at_call 11; with_reducible exact Calls.regrown_of (hBA _ _)) | (go_at_call 12; with_reducible exact Calls.regrown_of (hKS _ _))))))); all_goals (refine wpQuiet_nil ?_; intro _ hw9; obtain ⟨⟨d9, os9⟩, hw8⟩ := hw9; subst hw8)
      refine hM _ _ (Met.intro (hJ _ _ ?_))
      (repeat apply Exists.intro)
      exact ⟨⟨rfl, below_regrown w2 d9 os9⟩, rfl⟩
    case true =>
      obtain rfl := eR rfl
      refine wp_region_quiet_below (by kernel_rfl) (by kernel_rfl) ?_; (repeat (any_goals (go_big_quiet_step ((first | (go_at_call 11; with_reducible exact Calls.regrown_of (hAA _ _)) | (go_at_call 11; with_reducible exact Calls.regrown_of (hAB _ _)) | (go_at_call 11; with_reducible exact Calls.regrown_of (hBA _ _)) | (go_at_call 12; with_reducible exact Calls.regrown_of (hKS _ _)) | (go_at_call 13; with_reducible exact Calls.regrown_of (hRA _ _)) | (go_at_call 13; with_reducible exact Calls.regrown_of (hRB _ _))))))); all_goals (refine wpQuiet_nil ?_; intro _ hw9; obtain ⟨⟨d9, os9⟩, hw8⟩ := hw9; subst hw8)
      refine hM _ _ (Met.intro (hJ _ _ ?_))
      (repeat apply Exists.intro)
      exact ⟨⟨rfl, below_regrown w2 d9 os9⟩, rfl⟩
  case rest =>
    obtain ⟨rfl, b3⟩ := hcut
    have B03 := below_tr B02 b3
    replace k0 := cell_on k0 b3
    replace k1 := cell_on k1 b3
    replace k2 := cell_on k2 b3
    replace k3 := cell_on k3 b3
    replace k4 := cell_on k4 b3
    replace k5 := cell_on k5 b3
    replace k6 := cell_on k6 b3
    replace k7 := cell_on k7 b3
    have ra3 := ra2.later b3
    clear l0 l1 l2 l3 l4 l5 l6 l7 ra2 rb2 zb eb sb HW
    have hr := qRight n a [.bool a.ask, .bool a.dist, .slice a1 a.vars.length c1, .slice a2 a.pats.length c2, .slice a3 a.fils.length c3, .slice a4 a.ord.length c4, .int .i64 a.lim, .int .i64 a.off] wc (hC.step B03) ra3 za
    obtain ⟨u, hu⟩ : ∃ u, rightQ a = u := ⟨_, rfl⟩
    rw [hu] at hr
    have Hu := Lib.hid hu
    clear hu
    go_wp2_with fail
    refine hr.mono ?_
    rintro e w4 ⟨rfl, b4⟩
    have B04 := below_tr B03 b4
    replace k0 := cell_on k0 b4
    replace k1 := cell_on k1 b4
    replace k2 := cell_on k2 b4
    replace k3 := cell_on k3 b4
    replace k4 := cell_on k4 b4
    replace k5 := cell_on k5 b4
    replace k6 := cell_on k6 b4
    replace k7 := cell_on k7 b4
    have ra4 := ra3.later b4
    clear hr ra3 b3 b4 B02 B03
    cases u
    case false =>
      go_wp2
      go_ret
      exact ⟨rfl, B04⟩
    have hcp := kitCopyQ n a [.bool a.ask, .bool a.dist, .slice a1 a.vars.length c1, .slice a2 a.pats.length c2, .slice a3 a.fils.length c3, .slice a4 a.ord.length c4, .int .i64 a.lim, .int .i64 a.off] w4 ra4 sa (by unfold cntQ at hcnt; omega) (by unfold cntQ at hcnt; omega) (by unfold cntQ at hcnt; omega)
    go_upto_region 9 with (fail)
    go_cut [7] from 55 to 56 (fun s7 wx => ∃ (w5 : World) (L : Nat) (s1 s2 s3 s4 : Option Addr) (f1 f2 f3 f4 : Nat), s7 = .pointer (some ⟨L, 0, none⟩) ∧ w5.heap.size ≤ L ∧ wx.heap[L]? = some (.cells #[.bool a.ask, .bool a.dist, .slice s1 a.vars.length f1, .slice s2 a.pats.length f2, .slice s3 a.fils.length f3, .slice s4 a.ord.length f4, .int .i64 a.lim, .int .i64 a.off] 27 (0, 0)) ∧ RdQ n w5 [.bool a.ask, .bool a.dist, .slice s1 a.vars.length f1, .slice s2 a.pats.length f2, .slice s3 a.fils.length f3, .slice s4 a.ord.length f4, .int .i64 a.lim, .int .i64 a.off] a ∧ Below w5.heap.size w5 wx ∧ Below w4.heap.size w4 wx ∧ w4.heap.size ≤ w5.heap.size)
    case first =>
      rename_i hJ hM
      clear ra4
      go_wp2_with fail
      refine hcp.mono ?_
      rintro e w5 ⟨ds, rfl, rd, b5⟩
      obtain ⟨s1, s2, s3, s4, f1, f2, f3, f4, rfl, o, r⟩ := rd
      have HR := Lib.hid (And.intro o r)
      clear o r
      go_wp2
      refine Met.intro (hJ _ _ ?_)
      (repeat apply Exists.intro)
      have hr5 : RdQ n w5 [.bool a.ask, .bool a.dist, .slice s1 a.vars.length f1, .slice s2 a.pats.length f2, .slice s3 a.fils.length f3, .slice s4 a.ord.length f4, .int .i64 a.lim, .int .i64 a.off] a := ⟨s1, s2, s3, s4, f1, f2, f3, f4, rfl, HR.out.1, HR.out.2⟩
      exact ⟨⟨w5, w5.heap.size, s1, s2, s3, s4, f1, f2, f3, f4, rfl, Nat.le_refl _, heap_alloc_new w5 _, hr5, (Below.refl _ _).alloc (Nat.le_refl _) _, b5.trans ((Below.refl _ _).alloc b5.size _), b5.size⟩, rfl⟩
    case rest =>
      obtain ⟨w5, L, s1, s2, s3, s4, f1, f2, f3, f4, rfl, hL, hrow, rd, hb5, b5, z45⟩ := hcut
      obtain ⟨wd, rfl⟩ : ∃ x, x = wc := ⟨_, rfl⟩
      have hlw : w.heap.size < w4.heap.size := cell_lt k0
      have K4 := Lib.hid k4
      have RA := Lib.hid ra4
      replace k0 := cell_on k0 b5
      replace k1 := cell_on k1 b5
      replace k2 := cell_on k2 b5
      replace k3 := cell_on k3 b5
      replace k4 := cell_on k4 b5
      replace k5 := cell_on k5 b5
      replace k6 := cell_on k6 b5
      replace k7 := cell_on k7 b5
      have ra5 := ra4.later b5
      clear ra4 hcp
      apply_assumption
      refine wp_seq_k ?_
      intro K5 hK5
      go_cut [] from 58 to 107 (fun wx => ∃ (cs : List Value) (r : Qy n), Less a r ∧ RdQ n wx cs r ∧ (∀ (i : Nat) u, cs[i]? = some u → wx.cell? ⟨L, i, none⟩ = some u) ∧ Below w4.heap.size w4 wx)
      case first =>
        rename_i hJ hM
        have HR := Lib.hid (And.intro hrow (And.intro rd hb5))
        have HB := Lib.hid b5
        clear rd ra5 hcnt za ea sa hb5 b5
        have t0 : wd.cell? ⟨L, 0, none⟩ = some (.bool a.ask) := cell_of_row hrow rfl
        have t1 : wd.cell? ⟨L, 1, none⟩ = some (.bool a.dist) := cell_of_row hrow rfl
        have t2 : wd.cell? ⟨L, 2, none⟩ = some (.slice s1 a.vars.length f1) := cell_of_row hrow rfl
        have t3 : wd.cell? ⟨L, 3, none⟩ = some (.slice s2 a.pats.length f2) := cell_of_row hrow rfl
        have t4 : wd.cell? ⟨L, 4, none⟩ = some (.slice s3 a.fils.length f3) := cell_of_row hrow rfl
        have t5 : wd.cell? ⟨L, 5, none⟩ = some (.slice s4 a.ord.length f4) := cell_of_row hrow rfl
        have t6 : wd.cell? ⟨L, 6, none⟩ = some (.int .i64 a.lim) := cell_of_row hrow rfl
        have t7 : wd.cell? ⟨L, 7, none⟩ = some (.int .i64 a.off) := cell_of_row hrow rfl
        have ft2 : wd.frozen? ⟨L, 2, none⟩ = false := frozen_of_row hrow
        have ft3 : wd.frozen? ⟨L, 3, none⟩ = false := frozen_of_row hrow
        have ft4 : wd.frozen? ⟨L, 4, none⟩ = false := frozen_of_row hrow
        have ft5 : wd.frozen? ⟨L, 5, none⟩ = false := frozen_of_row hrow
        clear hrow
        go_upto_region 10 with (fail)
        go_cut [57] from 58 to 66 (fun s wx => s = .bool (decide (0 < a.pats.length) && (tn.tmod 4 == 0)) ∧ wx = wd)
        case first =>
          rename_i hJ2 hM2
          by_cases g1 : 0 < a.pats.length
          · have g3 : 0 < (a.pats.length : Int) := by omega
            go_wp2
            refine Met.intro (hJ2 _ _ ?_)
            (repeat apply Exists.intro)
            exact ⟨⟨by simp [g1], rfl⟩, rfl⟩
          · have g3 : ¬ 0 < (a.pats.length : Int) := by omega
            go_wp2
            refine Met.intro (hJ2 _ _ ?_)
            (repeat apply Exists.intro)
            exact ⟨⟨by simp [g1], rfl⟩, rfl⟩
        case rest =>
          obtain ⟨rfl, hwc⟩ := hcut
          obtain rfl := hwc.symm
          cases g4 : (decide (0 < a.pats.length) && (tn.tmod 4 == 0))
          case true =>
            have g5 : 0 < a.pats.length := by simp only [Bool.and_eq_true, decide_eq_true_eq] at g4; exact g4.1
            clear g4
            apply_assumption
            have g6 : 0 < (a.pats.length : Int) := by have := g5; omega
            by_cases e2 : f2 = 1
            · subst e2
              go_wp2
              refine Met.intro (hJ _ _ ?_)
              (repeat apply Exists.intro)
              exact ⟨⟨_, _, Less.pats, (RdQ.lessP HR.out.2.1).later (HR.out.2.2.setCell (p := ⟨L, 3, none⟩) hL _), cells_set HR.out.1 _ rfl, HB.out.setCell (p := ⟨L, 3, none⟩) (Nat.le_trans z45 hL) _⟩, rfl⟩
            · go_wp2
              refine Met.intro (hJ _ _ ?_)
              (repeat apply Exists.intro)
              exact ⟨⟨_, _, Less.pats, (RdQ.lessP HR.out.2.1).later (HR.out.2.2.setCell (p := ⟨L, 3, none⟩) hL _), cells_set HR.out.1 _ (by simp only [subA, if_neg e2]; rfl), HB.out.setCell (p := ⟨L, 3, none⟩) (Nat.le_trans z45 hL) _⟩, rfl⟩
          clear g4
          apply_assumption
          go_upto_region 12 with (fail)
          go_cut [71] from 72 to 80 (fun s wx => s = .bool (decide (0 < a.fils.length) && (tn.tmod 4 == 1)) ∧ wx = wd)
          case first =>
            rename_i hJ2 hM2
            by_cases g1 : 0 < a.fils.length
            · have g3 : 0 < (a.fils.length : Int) := by omega
              go_wp2
              refine Met.intro (hJ2 _ _ ?_)
              (repeat apply Exists.intro)
              exact ⟨⟨by simp [g1], rfl⟩, rfl⟩
            · have g3 : ¬ 0 < (a.fils.length : Int) := by omega
              go_wp2
              refine Met.intro (hJ2 _ _ ?_)
              (repeat apply Exists.intro)
              exact ⟨⟨by simp [g1], rfl⟩, rfl⟩
          case rest =>
            obtain ⟨rfl, hwc⟩ := hcut
            obtain rfl := hwc.symm
            cases g4 : (decide (0 < a.fils.length) && (tn.tmod 4 == 1))
            case true =>
              have g5 : 0 < a.fils.length := by simp only [Bool.and_eq_true, decide_eq_true_eq] at g4; exact g4.1
              clear g4
              apply_assumption
              have g6 : 0 < (a.fils.length : Int) := by have := g5; omega
              by_cases e2 : f3 = 1
              · subst e2
                go_wp2
                refine Met.intro (hJ _ _ ?_)
                (repeat apply Exists.intro)
                exact ⟨⟨_, _, Less.fils, (RdQ.lessF HR.out.2.1).later (HR.out.2.2.setCell (p := ⟨L, 4, none⟩) hL _), cells_set HR.out.1 _ rfl, HB.out.setCell (p := ⟨L, 4, none⟩) (Nat.le_trans z45 hL) _⟩, rfl⟩
              · go_wp2
                refine Met.intro (hJ _ _ ?_)
                (repeat apply Exists.intro)
                exact ⟨⟨_, _, Less.fils, (RdQ.lessF HR.out.2.1).later (HR.out.2.2.setCell (p := ⟨L, 4, none⟩) hL _), cells_set HR.out.1 _ (by simp only [subA, if_neg e2]; rfl), HB.out.setCell (p := ⟨L, 4, none⟩) (Nat.le_trans z45 hL) _⟩, rfl⟩
            clear g4
            apply_assumption
            go_upto_region 14 with (fail)
            go_cut [85] from 86 to 94 (fun s wx => s = .bool (decide (0 < a.ord.length) && (tn.tmod 4 == 2)) ∧ wx = wd)
            case first =>
              rename_i hJ2 hM2
              by_cases g1 : 0 < a.ord.length
              · have g3 : 0 < (a.ord.length : Int) := by omega
                go_wp2
                refine Met.intro (hJ2 _ _ ?_)
                (repeat apply Exists.intro)
                exact ⟨⟨by simp [g1], rfl⟩, rfl⟩
              · have g3 : ¬ 0 < (a.ord.length : Int) := by omega
                go_wp2
                refine Met.intro (hJ2 _ _ ?_)
                (repeat apply Exists.intro)
                exact ⟨⟨by simp [g1], rfl⟩, rfl⟩
            case rest =>
              obtain ⟨rfl, hwc⟩ := hcut
              obtain rfl := hwc.symm
              cases g4 : (decide (0 < a.ord.length) && (tn.tmod 4 == 2))
              case true =>
                have g5 : 0 < a.ord.length := by simp only [Bool.and_eq_true, decide_eq_true_eq] at g4; exact g4.1
                clear g4
                apply_assumption
                have g6 : 0 < (a.ord.length : Int) := by have := g5; omega
                by_cases e2 : f4 = 1
                · subst e2
                  go_wp2
                  refine Met.intro (hJ _ _ ?_)
                  (repeat apply Exists.intro)
                  exact ⟨⟨_, _, Less.ord, (RdQ.lessO HR.out.2.1).later (HR.out.2.2.setCell (p := ⟨L, 5, none⟩) hL _), cells_set HR.out.1 _ rfl, HB.out.setCell (p := ⟨L, 5, none⟩) (Nat.le_trans z45 hL) _⟩, rfl⟩
                · go_wp2
                  refine Met.intro (hJ _ _ ?_)
                  (repeat apply Exists.intro)
                  exact ⟨⟨_, _, Less.ord, (RdQ.lessO HR.out.2.1).later (HR.out.2.2.setCell (p := ⟨L, 5, none⟩) hL _), cells_set HR.out.1 _ (by simp only [subA, if_neg e2]; rfl), HB.out.setCell (p := ⟨L, 5, none⟩) (Nat.le_trans z45 hL) _⟩, rfl⟩
              clear g4
              apply_assumption
              by_cases g1 : 0 < a.vars.length
              · skip
                have g6 : 0 < (a.vars.length : Int) := by have := g1; omega
                by_cases e2 : f1 = 1
                · subst e2
                  go_wp2
                  refine Met.intro (hJ _ _ ?_)
                  (repeat apply Exists.intro)
                  exact ⟨⟨_, _, Less.vars, (RdQ.lessV HR.out.2.1).later (HR.out.2.2.setCell (p := ⟨L, 2, none⟩) hL _), cells_set HR.out.1 _ rfl, HB.out.setCell (p := ⟨L, 2, none⟩) (Nat.le_trans z45 hL) _⟩, rfl⟩
                · go_wp2
                  refine Met.intro (hJ _ _ ?_)
                  (repeat apply Exists.intro)
                  exact ⟨⟨_, _, Less.vars, (RdQ.lessV HR.out.2.1).later (HR.out.2.2.setCell (p := ⟨L, 2, none⟩) hL _), cells_set HR.out.1 _ (by simp only [subA, if_neg e2]; rfl), HB.out.setCell (p := ⟨L, 2, none⟩) (Nat.le_trans z45 hL) _⟩, rfl⟩
              · have g3 : ¬ 0 < (a.vars.length : Int) := by omega
                go_wp2
                refine Met.intro (hJ _ _ ?_)
                (repeat apply Exists.intro)
                exact ⟨⟨_, _, Less.none, HR.out.2.1.later HR.out.2.2, cells_row HR.out.1 _ rfl, HB.out⟩, rfl⟩
      case rest =>
        obtain ⟨cs, r, hless, rq, hcs, bw⟩ := hcut
        have kk := cell_on K4.out bw
        have rac := RA.out.later bw
        have hrl := right_less Hu.out hless
        have hrz := sz_less za hless
        obtain ⟨y1, y2, y3, y4, z1, z2, z3, z4, hcs0, hrq⟩ := rq
        subst hcs0
        have rq : RdQ n wc [.bool r.ask, .bool r.dist, .slice y1 r.vars.length z1, .slice y2 r.pats.length z2, .slice y3 r.fils.length z3, .slice y4 r.ord.length z4, .int .i64 r.lim, .int .i64 r.off] r := ⟨y1, y2, y3, y4, z1, z2, z3, z4, rfl, hrq⟩
        clear hrq
        have Less1 := Lib.hid (And.intro hrl (And.intro hrz (And.intro rq (And.intro hcs bw))))
        clear k0 k1 k2 k3 k4 k5 k6 k7 hless rq hcs hrl hrz bw K4 RA
        apply hK5
        go_wp2
        go_loopw [8] (fun i wr => ∃ k : Nat, k ≤ a.fils.length ∧ i = .int .i64 k ∧ Below wc.heap.size wc wr) (fun i _ => a.fils.length - (intOf i).toNat)
        case atStart => exact ⟨0, by omega, rfl, Below.refl _ _⟩
        case round =>
          obtain ⟨k, hk, rfl, bo⟩ := hrel
          obtain ⟨wz, rfl⟩ : ∃ y, y = wr := ⟨_, rfl⟩
          have kw := cell_on kk bo
          have hfl : a.fils.length ≤ 400 := by have h := hcnt; unfold cntQ at h; omega
          have Cw : Ctx wz := hC.step (below_tr (below_tr B04 Less1.out.2.2.2.2) bo)
          by_cases hlt : k < a.fils.length
          · obtain ⟨x, hx⟩ : ∃ x, a.fils[k]? = some x := ⟨_, List.getElem?_eq_getElem hlt⟩
            have hm := List.mem_of_getElem? hx
            obtain ⟨g, o, k1, s1, t1, A1, n1, e1, rfl, hR, q0, q1, q2, q3, q4, q5, q6⟩ := (RdEs.later rac.spell.2.2.2.2.2.2.1 bo).atv hx
            have hxB := right_expr Hu.out hm
            have hle := expr_le hxB
            have hpos := pre_pos x
            obtain ⟨mm, kids, rfl, hkr, hsum, hkl, hky⟩ := kids_of hR hxB (za.2.2.2.2.2.2.1 x hm) (ea x hm)
            have hBV : Below wz.heap.size wz (wz.alloc (.cells #[.int .i64 k1, .string s1, .int .i64 t1.k, .string t1.x, .string t1.l, .string t1.y, .slice A1 kids.length e1] 38)) := (by repeat (first | exact Below.refl _ _ | assumption | exact (Below.refl _ _).alloc (Nat.le_refl _) _ | refine below_tr ?_ (by assumption) | refine below_alloc ?_ | refine below_tr ?_ (below_regrown _ _ _)))
            have hE := qExpr n x _ _ (Cw.step hBV) (hR.later hBV) (za.2.2.2.2.2.2.1 x hm)
            rw [hxB] at hE
            have hS := fun (W : World) (hb : Below (wz.alloc (.cells #[.int .i64 k1, .string s1, .int .i64 t1.k, .string t1.x, .string t1.l, .string t1.y, .slice A1 kids.length e1] 38)).heap.size (wz.alloc (.cells #[.int .i64 k1, .string s1, .int .i64 t1.k, .string t1.x, .string t1.l, .string t1.y, .slice A1 kids.length e1] 38)) W) => qSize n x _ W ((hR.later hBV).later hb) (ea x hm) (by omega)
            have hkr2 := RdEs.later hkr hBV
            have Ck := Cw.step hBV
            obtain ⟨N, hN⟩ : ∃ N, (preE n x).length = N := ⟨_, rfl⟩
            rw [hN] at hS hsum hle hpos
            have hp1 : ¬ (N : Int) < 1 := by omega
            have hp2 : ¬ 40 < (N : Int) := by omega
            have Hky := Lib.hid hky
            have Hsum := Lib.hid hsum
            clear hx hm hR hxB hkr hN hky hsum rac
            go_wp2_with fail
            refine hE.mono ?_
            rintro e v1 ⟨rfl, x1⟩
            obtain ⟨hc1, hf1⟩ := bcell x1
            have hs1 := hS v1 x1
            clear q0 q1 q2 q3 q4 q5 q6 hE
            go_wp2_with fail
            refine hs1.mono ?_
            rintro e v2 ⟨rfl, x2⟩
            have x02 := below_tr x1 x2
            clear hc1 hf1 hs1
            obtain ⟨hc1, hf1⟩ := bcell x02
            have hs1 := hS v2 x02
            go_wp2_with fail
            refine hs1.mono ?_
            rintro e v3 ⟨rfl, x3⟩
            have x03 := below_tr x02 x3
            clear hc1 hf1 hs1 x1 x2 x02 x3
            have p0 : v3.cell? ⟨wz.heap.size, 0, none⟩ = some (.int .i64 k1) := cell_on (cell_of_row (heap_alloc_new wz _) rfl) x03
            have p1 : v3.cell? ⟨wz.heap.size, 1, none⟩ = some (.string s1) := cell_on (cell_of_row (heap_alloc_new wz _) rfl) x03
            have p2 : v3.cell? ⟨wz.heap.size, 2, none⟩ = some (.int .i64 t1.k) := cell_on (cell_of_row (heap_alloc_new wz _) rfl) x03
            have p3 : v3.cell? ⟨wz.heap.size, 3, none⟩ = some (.string t1.x) := cell_on (cell_of_row (heap_alloc_new wz _) rfl) x03
            have p4 : v3.cell? ⟨wz.heap.size, 4, none⟩ = some (.string t1.l) := cell_on (cell_of_row (heap_alloc_new wz _) rfl) x03
            have p5 : v3.cell? ⟨wz.heap.size, 5, none⟩ = some (.string t1.y) := cell_on (cell_of_row (heap_alloc_new wz _) rfl) x03
            have p6 : v3.cell? ⟨wz.heap.size, 6, none⟩ = some (.slice A1 kids.length e1) := cell_on (cell_of_row (heap_alloc_new wz _) rfl) x03
            have C3 := Ck.step x03
            have kr3 := RdEs.later hkr2 x03
            go_wp2
            go_loopw [10, 11] (fun nv i wr => ∃ j : Nat, j ≤ kids.length ∧ i = .int .i64 j ∧ nv = .int .i64 ((1 + ((kids.take j).flatMap (preE mm)).length : Nat) : Int) ∧ Below v3.heap.size v3 wr) (fun _ i _ => kids.length - (intOf i).toNat)
            case atStart => exact ⟨0, by omega, rfl, rfl, Below.refl _ _⟩
            case round =>
              obtain ⟨j, hj, rfl, rfl, bi⟩ := hrel
              replace p0 := cell_on p0 bi
              replace p1 := cell_on p1 bi
              replace p2 := cell_on p2 bi
              replace p3 := cell_on p3 bi
              replace p4 := cell_on p4 bi
              replace p5 := cell_on p5 bi
              replace p6 := cell_on p6 bi
              by_cases hjt : j < kids.length
              · obtain ⟨y, hy⟩ : ∃ y, kids[j]? = some y := ⟨_, List.getElem?_eq_getElem hjt⟩
                have hym := List.mem_of_getElem? hy
                obtain ⟨gk, ok, k2, s2', t2, A2, n2, e2, rfl, hRy, q0, q1, q2, q3, q4, q5, q6⟩ := (RdEs.later kr3 bi).atv hy
                obtain ⟨h6, h7, h8⟩ := Hky.out y hym
                have hyle := expr_le h6
                have hS1 := qSize mm y _ wr hRy h8 (by omega)
                have hE1 := fun (W : World) (hb : Below wr.heap.size wr W) => qExpr mm y _ W ((C3.step bi).step hb) (hRy.later hb) h7
                rw [h6] at hE1
                have hsm : 1 + ((kids.take (j + 1)).flatMap (preE mm)).length = 1 + ((kids.take j).flatMap (preE mm)).length + (preE mm y).length := by rw [flat_take hy, List.length_append]; omega
                have hbd : 1 + ((kids.take j).flatMap (preE mm)).length ≤ 41 := by
                  have h9 := (take_flat_le (f := preE mm) kids j)
                  have := Hsum.out
                  omega
                obtain ⟨M, hM1⟩ : ∃ M, 1 + ((kids.take j).flatMap (preE mm)).length = M := ⟨_, rfl⟩
                obtain ⟨Y, hY⟩ : ∃ Y, (preE mm y).length = Y := ⟨_, rfl⟩
                rw [hM1] at hbd hsm
                rw [hM1]
                rw [hY] at hS1 hsm hyle
                have Hsm := Lib.hid hsm
                clear hM1 hY hsm hy hym hRy h6 h7 h8 kr3
                go_wp2_with fail
                refine hS1.mono ?_
                rintro e v4 ⟨rfl, x4⟩
                have hE2 := hE1 v4 x4
                replace p0 := cell_on p0 x4
                replace q0 := cell_on q0 x4
                replace p1 := cell_on p1 x4
                replace q1 := cell_on q1 x4
                replace p2 := cell_on p2 x4
                replace q2 := cell_on q2 x4
                replace p3 := cell_on p3 x4
                replace q3 := cell_on q3 x4
                replace p4 := cell_on p4 x4
                replace q4 := cell_on q4 x4
                replace p5 := cell_on p5 x4
                replace q5 := cell_on q5 x4
                replace p6 := cell_on p6 x4
                replace q6 := cell_on q6 x4
                go_wp2_with fail
                refine hE2.mono ?_
                rintro e v5 ⟨rfl, x5⟩
                go_wp2
                go_roundw
                case rel => exact ⟨j + 1, by omega, by go_num, by rw [Hsm.out]; go_num, below_tr (below_tr bi x4) x5⟩
                case measure => simp [intOf]; omega
              · obtain rfl : j = kids.length := by omega
                rw [List.take_length] at *
                have hs9 := hS wr (below_tr x03 bi)
                have hN9 := Hsum.out
                have BZ := Lib.hid (below_tr (below_tr hBV x03) bi)
                rw [← hN9]
                clear hN9 kr3 hS
                go_wp2_with fail
                refine hs9.mono ?_
                rintro e v6 ⟨rfl, x6⟩
                go_wp2
                go_roundw
                case rel => exact ⟨k + 1, by omega, by go_num, below_tr bo (below_tr BZ.out x6)⟩
                case measure => simp [intOf]; omega
          · clear rac
            have u0 := cell_on (Less1.out.2.2.2.1 0 _ rfl) bo
            have u1 := cell_on (Less1.out.2.2.2.1 1 _ rfl) bo
            have u2 := cell_on (Less1.out.2.2.2.1 2 _ rfl) bo
            have u3 := cell_on (Less1.out.2.2.2.1 3 _ rfl) bo
            have u4 := cell_on (Less1.out.2.2.2.1 4 _ rfl) bo
            have u5 := cell_on (Less1.out.2.2.2.1 5 _ rfl) bo
            have u6 := cell_on (Less1.out.2.2.2.1 6 _ rfl) bo
            have u7 := cell_on (Less1.out.2.2.2.1 7 _ rfl) bo
            have hRr := qRight n r _ wz Cw (Less1.out.2.2.1.later bo) Less1.out.2.1
            rw [Less1.out.1] at hRr
            have BF := Lib.hid (below_tr (below_tr B04 Less1.out.2.2.2.2) bo)
            clear bo
            go_wp2_with fail
            refine hRr.mono ?_
            rintro e w9 ⟨rfl, b9⟩
            go_wp2
            go_ret
            exact ⟨rfl, below_tr BF.out b9⟩
end Go.Proofs.YtafaanegkoolgaaGreatDoor
