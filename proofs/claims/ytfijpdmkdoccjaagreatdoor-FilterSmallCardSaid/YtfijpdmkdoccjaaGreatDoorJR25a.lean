/- The answer for filter (ossuaryref25): term, compared. -/
import Derived.Test.YtfijpdmkdoccjaaGreatDoorJFilRef5
import Derived.Test.YtfijpdmkdoccjaaGreatDoorJSameInts
namespace Go.Proofs.YtfijpdmkdoccjaaGreatDoor
open Go Go.RowKit Fm

theorem termP_no {vars : List ByteArray} {row : List Tm} {k : Int} {s : ByteArray} {t : Tm} {b : Bool} (h : b = false ∨ (k ≠ 1 ∧ k ≠ 2)) : termP vars row k s t b = none := by
  unfold termP
  rcases h with h | ⟨h1, h2⟩
  · subst h; rfl
  · have e1 : (k == 1) = false := by simpa using h1
    have e2 : (k == 2) = false := by simpa using h2
    rw [e1, e2]; cases b <;> rfl
theorem termP_var {vars : List ByteArray} {row : List Tm} {s : ByteArray} {t : Tm} : termP vars row 1 s t true = if Lib.idxOfS vars s < 0 then none else row[(Lib.idxOfS vars s).toNat]? := rfl
theorem idxFrom_at25 {l : List ByteArray} {x y : ByteArray} {k : Nat} (h : l[k]? = some y) : Lib.idxFromS (l.drop k) x k = if (y.toList == x.toList) = true then (k : Int) else Lib.idxFromS (l.drop (k + 1)) x (k + 1) := by
  rw [drop_cons_of h, Lib.idxFromS]
  have e : (y.toList == x.toList) = decide (y = x) := by
    by_cases h : y = x
    · subst h; simp
    · simp only [h, decide_false]
      rw [Lib.bytes_beq_false_iff]; exact h
  rw [e]; simp
theorem idxFrom_ge (s : ByteArray) : ∀ (l : List ByteArray) (i : Nat), Lib.idxFromS l s i < 0 ∨ (i : Int) ≤ Lib.idxFromS l s i
  | [], i => by left; unfold Lib.idxFromS; omega
  | a :: r, i => by
    unfold Lib.idxFromS
    split
    · right; omega
    · rcases idxFrom_ge s r (i + 1) with h | h
      · exact .inl h
      · right; omega
set_option maxRecDepth 10000 in
set_option maxHeartbeats 4000000 in
theorem r25Term (vars : List ByteArray) (row : List Tm) (A1 A2 A : Option Addr) (c1 c2 m c : Nat) (k : Int) (s : ByteArray) (t : Tm) (w : World) (hv : vars.length ≤ 281474976710656) (hrl : row.length ≤ 281474976710656) (hm : m ≤ 281474976710656)
    (hr1 : Rd w A1 (vars.map Value.string)) (hr2 : RdTs w A2 row) :
    Calls Tryz.prog 60 #[.agg #[.int .i64 k, .string s, .int .i64 t.k, .string t.x, .string t.l, .string t.y, .slice A m c], .slice A1 vars.length c1, .slice A2 row.length c2] w
      fun e w' => e = .returned (optV (termP vars row k s t (m == 0))) ∧ Below w.heap.size w w' := by
  obtain ⟨v, hvv⟩ : ∃ v, optV (termP vars row k s t (m == 0)) = v := ⟨_, rfl⟩
  rw [hvv]
  have HV := Lib.hid hvv
  obtain ⟨W, hW⟩ : ∃ W : World, (w.alloc (.cells #[.int .i64 k, .string s, .int .i64 t.k, .string t.x, .string t.l, .string t.y, .slice A m c] 31)).alloc (.cells #[.int .i64 0, .string ⟨#[]⟩, .string ⟨#[]⟩, .string ⟨#[]⟩] 28) = W := ⟨_, rfl⟩
  have hB0 : Below w.heap.size w W := by rw [← hW]; exact (by repeat (first | exact Below.refl _ _ | assumption | exact (Below.refl _ _).alloc (Nat.le_refl _) _ | refine below_tr ?_ (by assumption) | refine below_alloc ?_ | refine below_tr ?_ (below_regrown _ _ _)))
  have hx0 : W.heap[w.heap.size]? = some (.cells #[.int .i64 k, .string s, .int .i64 t.k, .string t.x, .string t.l, .string t.y, .slice A m c] 31 (0, 0)) := by rw [← hW]; exact heap_two_1 w _ _
  have hx1 : W.heap[w.heap.size + 1]? = some (.cells #[.int .i64 0, .string ⟨#[]⟩, .string ⟨#[]⟩, .string ⟨#[]⟩] 28 (0, 0)) := by rw [← hW]; exact heap_two_2 w _ _
  have b0 : W.cell? ⟨w.heap.size, 0, none⟩ = some (.int .i64 k) := by rw [World.cell?, hx0]; rfl
  have b1 : W.cell? ⟨w.heap.size, 1, none⟩ = some (.string s) := by rw [World.cell?, hx0]; rfl
  have b2 : W.cell? ⟨w.heap.size, 2, none⟩ = some (.int .i64 t.k) := by rw [World.cell?, hx0]; rfl
  have b3 : W.cell? ⟨w.heap.size, 3, none⟩ = some (.string t.x) := by rw [World.cell?, hx0]; rfl
  have b4 : W.cell? ⟨w.heap.size, 4, none⟩ = some (.string t.l) := by rw [World.cell?, hx0]; rfl
  have b5 : W.cell? ⟨w.heap.size, 5, none⟩ = some (.string t.y) := by rw [World.cell?, hx0]; rfl
  have b6 : W.cell? ⟨w.heap.size, 6, none⟩ = some (.slice A m c) := by rw [World.cell?, hx0]; rfl
  have d0 : W.cell? ⟨w.heap.size + 1, 0, none⟩ = some (.int .i64 0) := by rw [World.cell?, hx1]; rfl
  have d1 : W.cell? ⟨w.heap.size + 1, 1, none⟩ = some (.string ⟨#[]⟩) := by rw [World.cell?, hx1]; rfl
  have d2 : W.cell? ⟨w.heap.size + 1, 2, none⟩ = some (.string ⟨#[]⟩) := by rw [World.cell?, hx1]; rfl
  have d3 : W.cell? ⟨w.heap.size + 1, 3, none⟩ = some (.string ⟨#[]⟩) := by rw [World.cell?, hx1]; rfl
  have fz : ∀ i, W.frozen? ⟨w.heap.size + 1, i, none⟩ = false := fun i => by simp [World.frozen?, hx1]
  have f0 := fz 0
  have f1 := fz 1
  have f2 := fz 2
  have f3 := fz 3
  have hs4 : ∀ v0 v1 v2 v3, Below w.heap.size w ((((W.setCell ⟨w.heap.size + 1, 0, none⟩ v0).setCell ⟨w.heap.size + 1, 1, none⟩ v1).setCell ⟨w.heap.size + 1, 2, none⟩ v2).setCell ⟨w.heap.size + 1, 3, none⟩ v3) := fun v0 v1 v2 v3 => hB0.trans (below_set4 (Nat.le_succ _) v0 v1 v2 v3)
  have k1 := hr1.later hB0
  have k2 := RdTs.later hr2 hB0
  have HW := Lib.hid hW
  have HB0 := Lib.hid hB0
  have Hs4 := Lib.hid hs4
  have K1 := Lib.hid k1
  have K2 := Lib.hid k2
  have hv' : (vars.length : Int) ≤ 281474976710656 := by omega
  have hrl' : (row.length : Int) ≤ 281474976710656 := by omega
  have hm' : (m : Int) ≤ 281474976710656 := by omega
  clear hW hB0 hr1 hr2 hx0 hx1 hvv fz hs4 k1 k2
  by_cases hm0 : (m : Int) = 0
  · have hb : (m == 0) = true := by simp; omega
    have HB := Lib.hid hb
    clear hb
    by_cases h2 : k = 2
    · subst h2
      go_enter Tryz.func60, Tryz.ntmps60
      go_wp2
      exact bodyPost_ret (v := Value.tuple #[.agg #[.int .i64 t.k, .string t.x, .string t.l, .string t.y], .bool true]) (by simp [results, Tryz.results60, go_sem]) rfl ⟨by rw [← HV.out, HB.out]; rfl, (by repeat (first | exact Below.refl _ _ | assumption | exact (Below.refl _ _).alloc (Nat.le_refl _) _ | refine below_tr ?_ (by assumption) | refine below_alloc ?_ | refine below_tr ?_ (below_regrown _ _ _)))⟩
    · by_cases h1 : k = 1
      · subst h1
        have Hvar : Hid (v = optV (if Lib.idxOfS vars s < 0 then none else row[(Lib.idxOfS vars s).toNat]?)) := by show v = _; rw [← HV.out, HB.out]; rfl
        have hidx := idxOfS_lt vars s
        obtain ⟨nv, hnv⟩ : ∃ n, vars.length = n := ⟨_, rfl⟩
        obtain ⟨nr, hnr⟩ : ∃ n, row.length = n := ⟨_, rfl⟩
        rw [hnv] at hv' hv hidx ⊢
        rw [hnr] at hrl' hrl ⊢
        have Hnv := Lib.hid hnv
        have Hnr := Lib.hid hnr
        clear hnv hnr
        go_enter Tryz.func60, Tryz.ntmps60
        go_wp2
        simp only [HW.out]
        go_loopw [8] (fun i wr => ∃ j : Nat, j ≤ nv ∧ j ≤ nr ∧ i = .int .i64 j ∧ Hid (Lib.idxOfS vars s = Lib.idxFromS (vars.drop j) s j) ∧ Below W.heap.size W wr) (fun i _ => nv - (intOf i).toNat)
        case atStart => exact ⟨0, by omega, by omega, rfl, rfl, Below.refl _ _⟩
        case round =>
          obtain ⟨j, hj, hjr, rfl, H, hB⟩ := hrel
          replace b0 := cell_on b0 hB
          replace b1 := cell_on b1 hB
          replace b6 := cell_on b6 hB
          replace f0 := (hB.frozen (p := ⟨w.heap.size + 1, 0, none⟩) (cell_lt d0)).trans f0
          replace d0 := cell_on d0 hB
          replace f1 := (hB.frozen (p := ⟨w.heap.size + 1, 1, none⟩) (cell_lt d1)).trans f1
          replace d1 := cell_on d1 hB
          replace f2 := (hB.frozen (p := ⟨w.heap.size + 1, 2, none⟩) (cell_lt d2)).trans f2
          replace d2 := cell_on d2 hB
          replace f3 := (hB.frozen (p := ⟨w.heap.size + 1, 3, none⟩) (cell_lt d3)).trans f3
          replace d3 := cell_on d3 hB
          have HBW := Lib.hid (HB0.out.trans (hB.mono HB0.out.size))
          clear b2 b3 b4 b5
          by_cases e1 : (j : Int) < nv
          · obtain ⟨y, hy⟩ : ∃ x, vars[j]? = some x := ⟨_, List.getElem?_eq_getElem (by have := Hnv.out; omega)⟩
            by_cases e2 : (j : Int) < nr
            · obtain ⟨g, o, rfl, cx⟩ := (K1.out.later hB).at_ (j := j) (u := .string y) (by simp [hy])
              obtain ⟨u, hu⟩ : ∃ u, row[j]? = some u := ⟨_, List.getElem?_eq_getElem (by have := Hnr.out; omega)⟩
              obtain ⟨g2, o2, rfl, q0, q1, q2, q3⟩ := (RdTs.later K2.out hB).at4 hu
              have H2 : Hid (Lib.idxOfS vars s = if (y.toList == s.toList) = true then (j : Int) else Lib.idxFromS (vars.drop (j + 1)) s (j + 1)) := by show _ = _; rw [H.out, idxFrom_at25 hy]
              have Hu := Lib.hid hu
              clear hy hu H
              cases he : (y.toList == s.toList)
              · go_wp2
                go_quiet (fail)
                go_wp2
                go_roundw
                case rel => exact ⟨j + 1, by omega, by omega, by go_num, by show _ = _; rw [H2.out, he]; simp, below_drewN hB nq⟩
                case measure => simp [intOf]; omega
              · have Hr : Hid (v = optV (some u)) := by
                  show v = _
                  rw [Hvar.out, H2.out, he]
                  simp only [if_true]
                  rw [if_neg (by omega), Int.toNat_natCast, Hu.out]
                go_wp2
                go_quiet (fail)
                go_wp2
                exact bodyPost_ret (v := Value.tuple #[.agg #[.int .i64 u.k, .string u.x, .string u.l, .string u.y], .bool true]) (by simp [results, Tryz.results60, go_sem, d0, d1, d2, d3]) rfl ⟨congrArg Ending.returned Hr.out.symm, (below_drewN HBW.out nq).trans (below_set4 (Nat.le_succ _) _ _ _ _)⟩
            · have Hn : Hid (v = .tuple #[.agg #[.int .i64 0, .string ⟨#[]⟩, .string ⟨#[]⟩, .string ⟨#[]⟩], .bool false]) := by
                show v = _
                rw [Hvar.out]
                have hge : Lib.idxOfS vars s < 0 ∨ (j : Int) ≤ Lib.idxOfS vars s := by
                  rw [H.out]
                  exact idxFrom_ge _ _ _
                split
                · rfl
                · rw [List.getElem?_eq_none (by have := Hnr.out; omega)]; rfl
              go_wp2
              exact bodyPost_ret (v := Value.tuple #[.agg #[.int .i64 0, .string ⟨#[]⟩, .string ⟨#[]⟩, .string ⟨#[]⟩], .bool false]) (by simp [results, Tryz.results60, go_sem, d0, d1, d2, d3]) rfl ⟨congrArg Ending.returned Hn.out.symm, by first | exact HBW.out | exact HBW.out.trans (below_set4 (Nat.le_succ _) _ _ _ _)⟩
          · have Hn : Hid (v = .tuple #[.agg #[.int .i64 0, .string ⟨#[]⟩, .string ⟨#[]⟩, .string ⟨#[]⟩], .bool false]) := by
              show v = _
              rw [Hvar.out, H.out, List.drop_eq_nil_of_le (by have := Hnv.out; omega)]; rfl
            go_wp2
            exact bodyPost_ret (v := Value.tuple #[.agg #[.int .i64 0, .string ⟨#[]⟩, .string ⟨#[]⟩, .string ⟨#[]⟩], .bool false]) (by simp [results, Tryz.results60, go_sem, d0, d1, d2, d3]) rfl ⟨congrArg Ending.returned Hn.out.symm, by first | exact HBW.out | exact HBW.out.trans (below_set4 (Nat.le_succ _) _ _ _ _)⟩
      · have hk : (k == 2) = false := by simpa using h2
        have hk1 : (k == 1) = false := by simpa using h1
        have Hn : Hid (v = .tuple #[.agg #[.int .i64 0, .string ⟨#[]⟩, .string ⟨#[]⟩, .string ⟨#[]⟩], .bool false]) := by show v = _; rw [← HV.out, termP_no (.inr ⟨h1, h2⟩)]; rfl
        generalize vars.length = nv at *
        generalize row.length = nr at *
        go_enter Tryz.func60, Tryz.ntmps60
        go_wp2
        simp only [HW.out]
        go_loop [8] (fun i => i = .int .i64 0) (fun _ => 0)
        case atStart => rfl
        case round =>
          obtain rfl := hrel
          by_cases e1 : 0 < (nv : Int)
          · by_cases e2 : 0 < (nr : Int)
            · go_wp2
              exact bodyPost_ret (v := Value.tuple #[.agg #[.int .i64 0, .string ⟨#[]⟩, .string ⟨#[]⟩, .string ⟨#[]⟩], .bool false]) (by simp [results, Tryz.results60, go_sem, d0, d1, d2, d3]) rfl ⟨congrArg Ending.returned Hn.out.symm, by first | exact HB0.out | exact Hs4.out _ _ _ _⟩
            · go_wp2
              exact bodyPost_ret (v := Value.tuple #[.agg #[.int .i64 0, .string ⟨#[]⟩, .string ⟨#[]⟩, .string ⟨#[]⟩], .bool false]) (by simp [results, Tryz.results60, go_sem, d0, d1, d2, d3]) rfl ⟨congrArg Ending.returned Hn.out.symm, by first | exact HB0.out | exact Hs4.out _ _ _ _⟩
          · go_wp2
            exact bodyPost_ret (v := Value.tuple #[.agg #[.int .i64 0, .string ⟨#[]⟩, .string ⟨#[]⟩, .string ⟨#[]⟩], .bool false]) (by simp [results, Tryz.results60, go_sem, d0, d1, d2, d3]) rfl ⟨congrArg Ending.returned Hn.out.symm, by first | exact HB0.out | exact Hs4.out _ _ _ _⟩
  · have hb : (m == 0) = false := by simp; omega
    by_cases h2 : k = 2
    · subst h2
      have Hn : Hid (v = .tuple #[.agg #[.int .i64 0, .string ⟨#[]⟩, .string ⟨#[]⟩, .string ⟨#[]⟩], .bool false]) := by show v = _; rw [← HV.out, termP_no (.inl hb)]; rfl
      generalize vars.length = nv at *
      generalize row.length = nr at *
      go_enter Tryz.func60, Tryz.ntmps60
      go_wp2
      simp only [HW.out]
      go_loop [8] (fun i => i = .int .i64 0) (fun _ => 0)
      case atStart => rfl
      case round =>
        obtain rfl := hrel
        by_cases e1 : 0 < (nv : Int)
        · by_cases e2 : 0 < (nr : Int)
          · go_wp2
            exact bodyPost_ret (v := Value.tuple #[.agg #[.int .i64 0, .string ⟨#[]⟩, .string ⟨#[]⟩, .string ⟨#[]⟩], .bool false]) (by simp [results, Tryz.results60, go_sem, d0, d1, d2, d3]) rfl ⟨congrArg Ending.returned Hn.out.symm, by first | exact HB0.out | exact Hs4.out _ _ _ _⟩
          · go_wp2
            exact bodyPost_ret (v := Value.tuple #[.agg #[.int .i64 0, .string ⟨#[]⟩, .string ⟨#[]⟩, .string ⟨#[]⟩], .bool false]) (by simp [results, Tryz.results60, go_sem, d0, d1, d2, d3]) rfl ⟨congrArg Ending.returned Hn.out.symm, by first | exact HB0.out | exact Hs4.out _ _ _ _⟩
        · go_wp2
          exact bodyPost_ret (v := Value.tuple #[.agg #[.int .i64 0, .string ⟨#[]⟩, .string ⟨#[]⟩, .string ⟨#[]⟩], .bool false]) (by simp [results, Tryz.results60, go_sem, d0, d1, d2, d3]) rfl ⟨congrArg Ending.returned Hn.out.symm, by first | exact HB0.out | exact Hs4.out _ _ _ _⟩
    · have hk : (k == 2) = false := by simpa using h2
      by_cases h1 : k = 1
      · subst h1
        have Hn : Hid (v = .tuple #[.agg #[.int .i64 0, .string ⟨#[]⟩, .string ⟨#[]⟩, .string ⟨#[]⟩], .bool false]) := by show v = _; rw [← HV.out, termP_no (.inl hb)]; rfl
        generalize vars.length = nv at *
        generalize row.length = nr at *
        go_enter Tryz.func60, Tryz.ntmps60
        go_wp2
        simp only [HW.out]
        go_loop [8] (fun i => i = .int .i64 0) (fun _ => 0)
        case atStart => rfl
        case round =>
          obtain rfl := hrel
          by_cases e1 : 0 < (nv : Int)
          · by_cases e2 : 0 < (nr : Int)
            · go_wp2
              exact bodyPost_ret (v := Value.tuple #[.agg #[.int .i64 0, .string ⟨#[]⟩, .string ⟨#[]⟩, .string ⟨#[]⟩], .bool false]) (by simp [results, Tryz.results60, go_sem, d0, d1, d2, d3]) rfl ⟨congrArg Ending.returned Hn.out.symm, by first | exact HB0.out | exact Hs4.out _ _ _ _⟩
            · go_wp2
              exact bodyPost_ret (v := Value.tuple #[.agg #[.int .i64 0, .string ⟨#[]⟩, .string ⟨#[]⟩, .string ⟨#[]⟩], .bool false]) (by simp [results, Tryz.results60, go_sem, d0, d1, d2, d3]) rfl ⟨congrArg Ending.returned Hn.out.symm, by first | exact HB0.out | exact Hs4.out _ _ _ _⟩
          · go_wp2
            exact bodyPost_ret (v := Value.tuple #[.agg #[.int .i64 0, .string ⟨#[]⟩, .string ⟨#[]⟩, .string ⟨#[]⟩], .bool false]) (by simp [results, Tryz.results60, go_sem, d0, d1, d2, d3]) rfl ⟨congrArg Ending.returned Hn.out.symm, by first | exact HB0.out | exact Hs4.out _ _ _ _⟩
      · have hk1 : (k == 1) = false := by simpa using h1
        have Hn : Hid (v = .tuple #[.agg #[.int .i64 0, .string ⟨#[]⟩, .string ⟨#[]⟩, .string ⟨#[]⟩], .bool false]) := by show v = _; rw [← HV.out, termP_no (.inl hb)]; rfl
        generalize vars.length = nv at *
        generalize row.length = nr at *
        go_enter Tryz.func60, Tryz.ntmps60
        go_wp2
        simp only [HW.out]
        go_loop [8] (fun i => i = .int .i64 0) (fun _ => 0)
        case atStart => rfl
        case round =>
          obtain rfl := hrel
          by_cases e1 : 0 < (nv : Int)
          · by_cases e2 : 0 < (nr : Int)
            · go_wp2
              exact bodyPost_ret (v := Value.tuple #[.agg #[.int .i64 0, .string ⟨#[]⟩, .string ⟨#[]⟩, .string ⟨#[]⟩], .bool false]) (by simp [results, Tryz.results60, go_sem, d0, d1, d2, d3]) rfl ⟨congrArg Ending.returned Hn.out.symm, by first | exact HB0.out | exact Hs4.out _ _ _ _⟩
            · go_wp2
              exact bodyPost_ret (v := Value.tuple #[.agg #[.int .i64 0, .string ⟨#[]⟩, .string ⟨#[]⟩, .string ⟨#[]⟩], .bool false]) (by simp [results, Tryz.results60, go_sem, d0, d1, d2, d3]) rfl ⟨congrArg Ending.returned Hn.out.symm, by first | exact HB0.out | exact Hs4.out _ _ _ _⟩
          · go_wp2
            exact bodyPost_ret (v := Value.tuple #[.agg #[.int .i64 0, .string ⟨#[]⟩, .string ⟨#[]⟩, .string ⟨#[]⟩], .bool false]) (by simp [results, Tryz.results60, go_sem, d0, d1, d2, d3]) rfl ⟨congrArg Ending.returned Hn.out.symm, by first | exact HB0.out | exact Hs4.out _ _ _ _⟩
end Go.Proofs.YtfijpdmkdoccjaaGreatDoor
