/- The answer for query (ossuaryref22): Right. -/
import Derived.Test.YtefjhehgpkljcaaGreatDoorJR22ie
namespace Go.Proofs.YtefjhehgpkljcaaGreatDoor
open Go Go.RowKit Go.Maps Go.ChangeMaps Um Fm Mt

def AllLp {α : Type} (p : α → Bool) (l : List α) (W : World) (i : Value) (wr : World) : Prop := ∃ j : Nat, j ≤ l.length ∧ i = .int .i64 j ∧ Hid (l.all p = (l.drop j).all p) ∧ Below W.heap.size W wr
theorem all_drop {α : Type} {p : α → Bool} {l : List α} {j : Nat} {x : α} (h : l[j]? = some x) : (l.drop j).all p = (p x && (l.drop (j + 1)).all p) := by rw [drop_cons_of h]; rfl
theorem all_end {α : Type} (p : α → Bool) (l : List α) : (l.drop l.length).all p = true := by rw [List.drop_eq_nil_of_le (Nat.le_refl _)]; rfl
set_option maxRecDepth 20000 in
set_option maxHeartbeats 16000000 in
theorem r22Right (n : Nat) (q : Qy n) (cs : List Value) (w : World) (hr : RdQ n w cs q) (hz : szQu q) (hN : (q.fils.flatMap (preE n)).length ≤ 500000) :
    Calls Tryz.prog 69 #[.agg cs.toArray] w fun e w' => e = .returned (.bool (rightQ q)) ∧ Below w.heap.size w w' := by
  obtain ⟨ask, dist, vars, pats, fils, ord, lim, off⟩ := q
  obtain ⟨a1, a2, a3, a4, c1, c2, c3, c4, rfl, _, g1, g2, g3, g4⟩ := hr
  obtain ⟨z1, z2, z3, z4, y1, y2, y3, y4⟩ := hz
  simp only at z1 z2 z3 z4 y1 y2 y3 y4 g1 g2 g3 g4 hN ⊢
  obtain ⟨res, hres⟩ : ∃ r, rightQ (⟨ask, dist, vars, pats, fils, ord, lim, off⟩ : Qy n) = r := ⟨_, rfl⟩
  rw [hres]
  have Hres : Hid (res = (fitQ pats.length fils.length vars.length ord.length && numsQ lim off && askQ ask dist vars.length ord.length lim off && (pats.all patB && fils.all (exprB n) && vars.all nameB && ord.all fun y => nameB y.v))) := by show _ = _; rw [← hres]; rfl
  clear hres
  obtain ⟨W, hW⟩ : ∃ W : World, w.alloc (.cells #[.bool ask, .bool dist, .slice a1 vars.length c1, .slice a2 pats.length c2, .slice a3 fils.length c3, .slice a4 ord.length c4, .int .i64 lim, .int .i64 off] 40) = W := ⟨_, rfl⟩
  have hB0 : Below w.heap.size w W := by rw [← hW]; exact (by repeat (first | exact Below.refl _ _ | assumption | exact (Below.refl _ _).alloc (Nat.le_refl _) _ | refine below_tr ?_ (by assumption) | refine below_alloc ?_ | refine below_tr ?_ (below_regrown _ _ _)))
  have b0 : W.cell? ⟨w.heap.size, 0, none⟩ = some (.bool ask) := by rw [← hW, World.cell?, heap_alloc_new]; rfl
  have b1 : W.cell? ⟨w.heap.size, 1, none⟩ = some (.bool dist) := by rw [← hW, World.cell?, heap_alloc_new]; rfl
  have b2 : W.cell? ⟨w.heap.size, 2, none⟩ = some (.slice a1 vars.length c1) := by rw [← hW, World.cell?, heap_alloc_new]; rfl
  have b3 : W.cell? ⟨w.heap.size, 3, none⟩ = some (.slice a2 pats.length c2) := by rw [← hW, World.cell?, heap_alloc_new]; rfl
  have b4 : W.cell? ⟨w.heap.size, 4, none⟩ = some (.slice a3 fils.length c3) := by rw [← hW, World.cell?, heap_alloc_new]; rfl
  have b5 : W.cell? ⟨w.heap.size, 5, none⟩ = some (.slice a4 ord.length c4) := by rw [← hW, World.cell?, heap_alloc_new]; rfl
  have b6 : W.cell? ⟨w.heap.size, 6, none⟩ = some (.int .i64 lim) := by rw [← hW, World.cell?, heap_alloc_new]; rfl
  have b7 : W.cell? ⟨w.heap.size, 7, none⟩ = some (.int .i64 off) := by rw [← hW, World.cell?, heap_alloc_new]; rfl
  have k1 : RdStr W a1 vars := RdL.mono (RdStr_of g1) hB0 (fun _ _ _ h => h)
  have k2 := RdL.mono g2 hB0 (fun _ _ _ h => h)
  have k3 := RdEs.later g3 hB0
  have k4 := RdL.mono g4 hB0 (fun _ _ _ h => h)
  have K1 := Lib.hid k1
  have K2 := Lib.hid k2
  have K3 := Lib.hid k3
  have K4 := Lib.hid k4
  have Y1 := Lib.hid y1
  have Y2 := Lib.hid y2
  have Y3 := Lib.hid y3
  have Y4 := Lib.hid y4
  have HN := Lib.hid hN
  have HW := Lib.hid hW
  have HB0 := Lib.hid hB0
  clear hW hB0 g1 g2 g3 g4 k1 k2 k3 k4 y1 y2 y3 y4 hN
  by_cases f1 : (pats.length : Int) ≤ 6
  case neg =>
    have Hw : Hid (res = false) := by
      show _ = _
      rw [Hres.out]
      have e : fitQ pats.length fils.length vars.length ord.length = false := by unfold fitQ; simp <;> omega
      rw [e]; rfl
    go_enter Tryz.func69, Tryz.ntmps69
    go_wp2_with fail
    simp only [HW.out]
    go_wp2
    go_ret
    exact ⟨congrArg (fun b => Ending.returned (Value.bool b)) Hw.out.symm, HB0.out⟩
  by_cases f2 : (fils.length : Int) ≤ 6
  case neg =>
    have Hw : Hid (res = false) := by
      show _ = _
      rw [Hres.out]
      have e : fitQ pats.length fils.length vars.length ord.length = false := by unfold fitQ; simp <;> omega
      rw [e]; rfl
    go_enter Tryz.func69, Tryz.ntmps69
    go_wp2_with fail
    simp only [HW.out]
    go_wp2
    go_ret
    exact ⟨congrArg (fun b => Ending.returned (Value.bool b)) Hw.out.symm, HB0.out⟩
  by_cases f3 : (vars.length : Int) ≤ 12
  case neg =>
    have Hw : Hid (res = false) := by
      show _ = _
      rw [Hres.out]
      have e : fitQ pats.length fils.length vars.length ord.length = false := by unfold fitQ; simp <;> omega
      rw [e]; rfl
    go_enter Tryz.func69, Tryz.ntmps69
    go_wp2_with fail
    simp only [HW.out]
    go_wp2
    go_ret
    exact ⟨congrArg (fun b => Ending.returned (Value.bool b)) Hw.out.symm, HB0.out⟩
  by_cases f4 : (ord.length : Int) ≤ 4
  case neg =>
    have Hw : Hid (res = false) := by
      show _ = _
      rw [Hres.out]
      have e : fitQ pats.length fils.length vars.length ord.length = false := by unfold fitQ; simp <;> omega
      rw [e]; rfl
    go_enter Tryz.func69, Tryz.ntmps69
    go_wp2_with fail
    simp only [HW.out]
    go_wp2
    go_ret
    exact ⟨congrArg (fun b => Ending.returned (Value.bool b)) Hw.out.symm, HB0.out⟩
  have Hfit : Hid (fitQ pats.length fils.length vars.length ord.length = true) := by
    show _ = _
    unfold fitQ; simp <;> omega
  have Hres2 : Hid (res = (numsQ lim off && askQ ask dist vars.length ord.length lim off && (pats.all patB && fils.all (exprB n) && vars.all nameB && ord.all fun y => nameB y.v))) := by
    show _ = _
    rw [Hres.out, Hfit.out, Bool.true_and]
  clear Hres Hfit
  go_enter Tryz.func69, Tryz.ntmps69
  go_wp2_with fail
  simp only [HW.out]
  go_wp2
  go_loopw [3] (AllLp patB pats W) (fun i _ => pats.length - (intOf i).toNat)
  case atStart => exact ⟨0, by omega, rfl, rfl, Below.refl _ _⟩
  case round =>
    obtain ⟨j, hj, rfl, H, hB⟩ := hrel
    replace b0 := cell_on b0 hB
    replace b1 := cell_on b1 hB
    replace b2 := cell_on b2 hB
    replace b3 := cell_on b3 hB
    replace b4 := cell_on b4 hB
    replace b5 := cell_on b5 hB
    replace b6 := cell_on b6 hB
    replace b7 := cell_on b7 hB
    have hBW := hB
    by_cases hlt : j < pats.length
    · obtain ⟨x, hx⟩ : ∃ x, pats[j]? = some x := ⟨_, List.getElem?_eq_getElem hlt⟩
      obtain ⟨g, o, cs, rfl, -, rfl, hc⟩ := (RdL.mono K2.out hBW (fun _ _ _ h => h)).at_ (by omega) hx
      have q0 : wr.cell? ⟨g, o + j * 15, none⟩ = some (.string x.s.v) := hc 0 _ rfl
      have q1 : wr.cell? ⟨g, o + j * 15 + 1, none⟩ = some (.int .i64 x.s.t.k) := hc 1 _ rfl
      have q2 : wr.cell? ⟨g, o + j * 15 + 2, none⟩ = some (.string x.s.t.x) := hc 2 _ rfl
      have q3 : wr.cell? ⟨g, o + j * 15 + 3, none⟩ = some (.string x.s.t.l) := hc 3 _ rfl
      have q4 : wr.cell? ⟨g, o + j * 15 + 4, none⟩ = some (.string x.s.t.y) := hc 4 _ rfl
      have q5 : wr.cell? ⟨g, o + j * 15 + 5, none⟩ = some (.string x.p.v) := hc 5 _ rfl
      have q6 : wr.cell? ⟨g, o + j * 15 + 6, none⟩ = some (.int .i64 x.p.t.k) := hc 6 _ rfl
      have q7 : wr.cell? ⟨g, o + j * 15 + 7, none⟩ = some (.string x.p.t.x) := hc 7 _ rfl
      have q8 : wr.cell? ⟨g, o + j * 15 + 8, none⟩ = some (.string x.p.t.l) := hc 8 _ rfl
      have q9 : wr.cell? ⟨g, o + j * 15 + 9, none⟩ = some (.string x.p.t.y) := hc 9 _ rfl
      have q10 : wr.cell? ⟨g, o + j * 15 + 10, none⟩ = some (.string x.o.v) := hc 10 _ rfl
      have q11 : wr.cell? ⟨g, o + j * 15 + 11, none⟩ = some (.int .i64 x.o.t.k) := hc 11 _ rfl
      have q12 : wr.cell? ⟨g, o + j * 15 + 12, none⟩ = some (.string x.o.t.x) := hc 12 _ rfl
      have q13 : wr.cell? ⟨g, o + j * 15 + 13, none⟩ = some (.string x.o.t.l) := hc 13 _ rfl
      have q14 : wr.cell? ⟨g, o + j * 15 + 14, none⟩ = some (.string x.o.t.y) := hc 14 _ rfl
      have hcall := r22Pattern x wr (Y2.out x (List.mem_of_getElem? hx))
      have H2 : Hid (pats.all patB = (patB x && (pats.drop (j + 1)).all patB)) := by show _ = _; rw [H.out, all_drop hx]
      generalize patB x = q at *
      have HBW := Lib.hid hBW
      clear hx H hBW hc
      cases q
      · have Hw : Hid (res = false) := by
          show _ = _
          rw [Hres2.out, H2.out]; simp
        clear b0 b1 b2 b4 b5 b6 b7
        go_wp2_with (go_at_call 121; refine hcall.mono ?_; rintro e w2 ⟨rfl, hb⟩)
        go_ret
        exact ⟨congrArg (fun b => Ending.returned (Value.bool b)) Hw.out.symm, HB0.out.trans ((below_tr HBW.out hb).mono HB0.out.size)⟩
      · clear b0 b1 b2 b4 b5 b6 b7
        go_wp2_with (go_at_call 121; refine hcall.mono ?_; rintro e w2 ⟨rfl, hb⟩)
        go_roundw
        case rel => exact ⟨j + 1, by omega, by go_num, by show _ = _; rw [H2.out, Bool.true_and], below_tr hB hb⟩
        case measure => simp [intOf]; omega
    · obtain rfl : j = pats.length := by omega
      have HA1 : Hid (pats.all patB = true) := by show _ = _; rw [H.out]; exact all_end _ _
      have HV1 := Lib.hid hBW
      obtain ⟨V1, hV1⟩ : ∃ V : World, V = wr := ⟨_, rfl⟩
      subst hV1
      clear H hB hBW hlt hj
      go_wp2
      go_loopw [4] (AllLp (exprB n) fils V1) (fun i _ => fils.length - (intOf i).toNat)
      case atStart => exact ⟨0, by omega, rfl, rfl, Below.refl _ _⟩
      case round =>
        obtain ⟨j, hj, rfl, H, hB⟩ := hrel
        replace b0 := cell_on b0 hB
        replace b1 := cell_on b1 hB
        replace b2 := cell_on b2 hB
        replace b3 := cell_on b3 hB
        replace b4 := cell_on b4 hB
        replace b5 := cell_on b5 hB
        replace b6 := cell_on b6 hB
        replace b7 := cell_on b7 hB
        have hBW := below_tr HV1.out hB
        by_cases hlt : j < fils.length
        · obtain ⟨x, hx⟩ : ∃ x, fils[j]? = some x := ⟨_, List.getElem?_eq_getElem hlt⟩
          obtain ⟨g, o, k1, s1, t1, A1, m1, e1, rfl, hR, q0, q1, q2, q3, q4, q5, q6⟩ := (RdEs.later K3.out hBW).atv hx
          have hcall := r22Expr n x _ wr hR (Y3.out x (List.mem_of_getElem? hx)) (by have h1 := kid_len (n := n) (List.mem_of_getElem? hx); have h2 := HN.out; omega)
          have H2 : Hid (fils.all (exprB n) = (exprB n x && (fils.drop (j + 1)).all (exprB n))) := by show _ = _; rw [H.out, all_drop hx]
          generalize exprB n x = q at *
          have HBW := Lib.hid hBW
          clear hx H hBW hR
          cases q
          · have Hw : Hid (res = false) := by
              show _ = _
              rw [Hres2.out, H2.out]; simp
            clear b0 b1 b2 b3 b5 b6 b7
            go_wp2_with (go_at_call 122; refine hcall.mono ?_; rintro e w2 ⟨rfl, hb⟩)
            go_ret
            exact ⟨congrArg (fun b => Ending.returned (Value.bool b)) Hw.out.symm, HB0.out.trans ((below_tr HBW.out hb).mono HB0.out.size)⟩
          · clear b0 b1 b2 b3 b5 b6 b7
            go_wp2_with (go_at_call 122; refine hcall.mono ?_; rintro e w2 ⟨rfl, hb⟩)
            go_roundw
            case rel => exact ⟨j + 1, by omega, by go_num, by show _ = _; rw [H2.out, Bool.true_and], below_tr hB hb⟩
            case measure => simp [intOf]; omega
        · obtain rfl : j = fils.length := by omega
          have HA2 : Hid (fils.all (exprB n) = true) := by show _ = _; rw [H.out]; exact all_end _ _
          have HV2 := Lib.hid hBW
          obtain ⟨V2, hV2⟩ : ∃ V : World, V = wr := ⟨_, rfl⟩
          subst hV2
          clear H hB hBW hlt hj
          go_wp2
          go_loopw [5] (AllLp nameB vars V2) (fun i _ => vars.length - (intOf i).toNat)
          case atStart => exact ⟨0, by omega, rfl, rfl, Below.refl _ _⟩
          case round =>
            obtain ⟨j, hj, rfl, H, hB⟩ := hrel
            replace b0 := cell_on b0 hB
            replace b1 := cell_on b1 hB
            replace b2 := cell_on b2 hB
            replace b3 := cell_on b3 hB
            replace b4 := cell_on b4 hB
            replace b5 := cell_on b5 hB
            replace b6 := cell_on b6 hB
            replace b7 := cell_on b7 hB
            have hBW := below_tr HV2.out hB
            by_cases hlt : j < vars.length
            · obtain ⟨x, hx⟩ : ∃ x, vars[j]? = some x := ⟨_, List.getElem?_eq_getElem hlt⟩
              obtain ⟨g, o, cs, rfl, -, rfl, hc⟩ := (RdL.mono K1.out hBW (fun _ _ _ h => h)).at_ (by omega) hx
              have q0 : wr.cell? ⟨g, o + j, none⟩ = some (.string x) := by have := hc 0 _ rfl; rwa [Nat.mul_one, Nat.add_zero] at this
              have hcall := r22Name x wr (by have := Y1.out x (List.mem_of_getElem? hx); omega)
              have H2 : Hid (vars.all nameB = (nameB x && (vars.drop (j + 1)).all nameB)) := by show _ = _; rw [H.out, all_drop hx]
              generalize nameB x = q at *
              have HBW := Lib.hid hBW
              clear hx H hBW hc
              cases q
              · have Hw : Hid (res = false) := by
                  show _ = _
                  rw [Hres2.out, H2.out]; simp
                clear b0 b1 b3 b4 b5 b6 b7
                go_wp2_with (go_at_call 123; refine hcall.mono ?_; rintro e w2 ⟨rfl, hb⟩)
                go_ret
                exact ⟨congrArg (fun b => Ending.returned (Value.bool b)) Hw.out.symm, HB0.out.trans ((below_tr HBW.out hb).mono HB0.out.size)⟩
              · clear b0 b1 b3 b4 b5 b6 b7
                go_wp2_with (go_at_call 123; refine hcall.mono ?_; rintro e w2 ⟨rfl, hb⟩)
                go_roundw
                case rel => exact ⟨j + 1, by omega, by go_num, by show _ = _; rw [H2.out, Bool.true_and], below_tr hB hb⟩
                case measure => simp [intOf]; omega
            · obtain rfl : j = vars.length := by omega
              have HA3 : Hid (vars.all nameB = true) := by show _ = _; rw [H.out]; exact all_end _ _
              have HV3 := Lib.hid hBW
              obtain ⟨V3, hV3⟩ : ∃ V : World, V = wr := ⟨_, rfl⟩
              subst hV3
              clear H hB hBW hlt hj
              go_wp2
              go_loopw [6] (AllLp (fun y => nameB y.v) ord V3) (fun i _ => ord.length - (intOf i).toNat)
              case atStart => exact ⟨0, by omega, rfl, rfl, Below.refl _ _⟩
              case round =>
                obtain ⟨j, hj, rfl, H, hB⟩ := hrel
                replace b0 := cell_on b0 hB
                replace b1 := cell_on b1 hB
                replace b2 := cell_on b2 hB
                replace b3 := cell_on b3 hB
                replace b4 := cell_on b4 hB
                replace b5 := cell_on b5 hB
                replace b6 := cell_on b6 hB
                replace b7 := cell_on b7 hB
                have hBW := below_tr HV3.out hB
                by_cases hlt : j < ord.length
                · obtain ⟨x, hx⟩ : ∃ x, ord[j]? = some x := ⟨_, List.getElem?_eq_getElem hlt⟩
                  obtain ⟨g, o, cs, rfl, -, rfl, hc⟩ := (RdL.mono K4.out hBW (fun _ _ _ h => h)).at_ (by omega) hx
                  have q0 : wr.cell? ⟨g, o + j * 2, none⟩ = some (.string x.v) := hc 0 _ rfl
                  have q1 : wr.cell? ⟨g, o + j * 2 + 1, none⟩ = some (.bool x.d) := hc 1 _ rfl
                  have hcall := r22Name x.v wr (by have := Y4.out x (List.mem_of_getElem? hx); omega)
                  have H2 : Hid (ord.all (fun y => nameB y.v) = (nameB x.v && (ord.drop (j + 1)).all (fun y => nameB y.v))) := by show _ = _; rw [H.out, all_drop hx]
                  generalize nameB x.v = q at *
                  have HBW := Lib.hid hBW
                  clear hx H hBW hc
                  cases q
                  · have Hw : Hid (res = false) := by
                      show _ = _
                      rw [Hres2.out, H2.out]; simp
                    clear b0 b1 b2 b3 b4 b6 b7
                    go_wp2_with (go_at_call 123; refine hcall.mono ?_; rintro e w2 ⟨rfl, hb⟩)
                    go_ret
                    exact ⟨congrArg (fun b => Ending.returned (Value.bool b)) Hw.out.symm, HB0.out.trans ((below_tr HBW.out hb).mono HB0.out.size)⟩
                  · clear b0 b1 b2 b3 b4 b6 b7
                    go_wp2_with (go_at_call 123; refine hcall.mono ?_; rintro e w2 ⟨rfl, hb⟩)
                    go_roundw
                    case rel => exact ⟨j + 1, by omega, by go_num, by show _ = _; rw [H2.out, Bool.true_and], below_tr hB hb⟩
                    case measure => simp [intOf]; omega
                · obtain rfl : j = ord.length := by omega
                  have HA4 : Hid (ord.all (fun y => nameB y.v) = true) := by show _ = _; rw [H.out]; exact all_end _ _
                  have HV4 := Lib.hid hBW
                  obtain ⟨V4, hV4⟩ : ∃ V : World, V = wr := ⟨_, rfl⟩
                  subst hV4
                  clear H hB hBW hlt hj
                  have Hr3 : Hid (res = (numsQ lim off && askQ ask dist vars.length ord.length lim off)) := by show _ = _; rw [Hres2.out, HA1.out, HA2.out, HA3.out, HA4.out]; simp
                  have HF := Lib.hid (HB0.out.trans (HV4.out.mono HB0.out.size))
                  clear Hres2 HA1 HA2 HA3 HA4 HV1 HV2 HV3 HV4 K1 K2 K3 K4 Y1 Y2 Y3 Y4 HN HW HB0 b3 b4
                  generalize vars.length = nv at *
                  generalize ord.length = no at *
                  by_cases o1 : off < 0
                  · have Hw : Hid (res = false) := by show _ = _; rw [Hr3.out]; have e : numsQ lim off = false := (by unfold numsQ numB; simp <;> omega); rw [e]; rfl
                    clear Hr3
                    go_wp2
                    go_ret
                    exact ⟨congrArg (fun b => Ending.returned (Value.bool b)) Hw.out.symm, HF.out⟩
                  by_cases o2 : 1099511627776 < off
                  · have Hw : Hid (res = false) := by show _ = _; rw [Hr3.out]; have e : numsQ lim off = false := (by unfold numsQ numB; simp <;> omega); rw [e]; rfl
                    clear Hr3
                    go_wp2
                    go_ret
                    exact ⟨congrArg (fun b => Ending.returned (Value.bool b)) Hw.out.symm, HF.out⟩
                  by_cases l0 : lim = -1
                  · subst l0
                    cases ask
                    · have Hw : Hid (res = true) := by show _ = _; rw [Hr3.out]; have e : numsQ (-1) off = true := (by unfold numsQ numB; simp <;> omega); rw [e]; unfold askQ; simp
                      clear Hr3
                      go_wp2
                      go_ret
                      exact ⟨congrArg (fun b => Ending.returned (Value.bool b)) Hw.out.symm, HF.out⟩
                    · cases dist
                      · by_cases e0 : (nv : Int) + (no : Int) = 0
                        · by_cases e1 : off = 0
                          · subst e1
                            have Hw : Hid (res = true) := by show _ = _; rw [Hr3.out]; have e : numsQ (-1) 0 = true := (by unfold numsQ numB; simp <;> omega); rw [e]; unfold askQ; simp <;> omega
                            clear Hr3
                            go_wp2
                            go_ret
                            exact ⟨congrArg (fun b => Ending.returned (Value.bool b)) Hw.out.symm, HF.out⟩
                          · have e2 : (off == 0) = false := by simpa using e1
                            have Hw : Hid (res = false) := by show _ = _; rw [Hr3.out]; have e : numsQ (-1) off = true := (by unfold numsQ numB; simp <;> omega); rw [e]; unfold askQ; simp <;> omega
                            clear Hr3
                            go_wp2
                            go_ret
                            exact ⟨congrArg (fun b => Ending.returned (Value.bool b)) Hw.out.symm, HF.out⟩
                        · have Hw : Hid (res = false) := by show _ = _; rw [Hr3.out]; have e : numsQ (-1) off = true := (by unfold numsQ numB; simp <;> omega); rw [e]; unfold askQ; simp <;> omega
                          clear Hr3
                          go_wp2
                          go_ret
                          exact ⟨congrArg (fun b => Ending.returned (Value.bool b)) Hw.out.symm, HF.out⟩
                      · have Hw : Hid (res = false) := by show _ = _; rw [Hr3.out]; have e : numsQ (-1) off = true := (by unfold numsQ numB; simp <;> omega); rw [e]; unfold askQ; simp
                        clear Hr3
                        go_wp2
                        go_ret
                        exact ⟨congrArg (fun b => Ending.returned (Value.bool b)) Hw.out.symm, HF.out⟩
                  by_cases l1 : lim < 0
                  · have Hw : Hid (res = false) := by show _ = _; rw [Hr3.out]; have e : numsQ lim off = false := (by unfold numsQ numB; simp <;> omega); rw [e]; rfl
                    clear Hr3
                    go_wp2
                    go_ret
                    exact ⟨congrArg (fun b => Ending.returned (Value.bool b)) Hw.out.symm, HF.out⟩
                  by_cases l2 : 1099511627776 < lim
                  · have Hw : Hid (res = false) := by show _ = _; rw [Hr3.out]; have e : numsQ lim off = false := (by unfold numsQ numB; simp <;> omega); rw [e]; rfl
                    clear Hr3
                    go_wp2
                    go_ret
                    exact ⟨congrArg (fun b => Ending.returned (Value.bool b)) Hw.out.symm, HF.out⟩
                  cases ask
                  · have Hw : Hid (res = true) := by show _ = _; rw [Hr3.out]; have e : numsQ lim off = true := (by unfold numsQ numB; simp <;> omega); rw [e]; unfold askQ; simp
                    clear Hr3
                    go_wp2
                    go_ret
                    exact ⟨congrArg (fun b => Ending.returned (Value.bool b)) Hw.out.symm, HF.out⟩
                  · cases dist
                    · by_cases e0 : (nv : Int) + (no : Int) = 0
                      · have Hw : Hid (res = false) := by show _ = _; rw [Hr3.out]; have e : numsQ lim off = true := (by unfold numsQ numB; simp <;> omega); rw [e]; unfold askQ; simp <;> omega
                        clear Hr3
                        go_wp2
                        go_ret
                        exact ⟨congrArg (fun b => Ending.returned (Value.bool b)) Hw.out.symm, HF.out⟩
                      · have Hw : Hid (res = false) := by show _ = _; rw [Hr3.out]; have e : numsQ lim off = true := (by unfold numsQ numB; simp <;> omega); rw [e]; unfold askQ; simp <;> omega
                        clear Hr3
                        go_wp2
                        go_ret
                        exact ⟨congrArg (fun b => Ending.returned (Value.bool b)) Hw.out.symm, HF.out⟩
                    · have Hw : Hid (res = false) := by show _ = _; rw [Hr3.out]; have e : numsQ lim off = true := (by unfold numsQ numB; simp <;> omega); rw [e]; unfold askQ; simp
                      clear Hr3
                      go_wp2
                      go_ret
                      exact ⟨congrArg (fun b => Ending.returned (Value.bool b)) Hw.out.symm, HF.out⟩
end Go.Proofs.YtefjhehgpkljcaaGreatDoor
