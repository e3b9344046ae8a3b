/- The answer for term (ossuaryref08): texts read back. Printed by gen/r8c.py. -/
import Derived.Test.YtheeklkcaapkbaaGreatDoorJR8b
import Derived.Test.YtheeklkcaapkbaaGreatDoorJTx1
namespace Go.Proofs.YtheeklkcaapkbaaGreatDoor
open Go Go.RowKit Um Fm Lx Tx

def hexR (c : Nat) : Int := match hxV c with
  | some d => (d : Int)
  | none => -1
theorem r08Hex (c : Nat) (hc : c < 256) (w : World) : Calls Tryz.prog 101 #[.int .u8 c] w fun e w' => e = .returned (.int .i64 (hexR c)) ∧ w = w' := by
  by_cases h1 : 48 ≤ c ∧ c ≤ 57
  · obtain ⟨h1, h2⟩ := h1
    have HV : Hid (hexR c = (c : Int) - 48) := by show _ = _; unfold hexR hxV; rw [if_pos ⟨h1, h2⟩]; simp only; omega
    go_enter Tryz.func101, Tryz.ntmps101
    go_wp2
    go_ret
    exact ⟨by rw [HV.out]; rfl, rfl⟩
  · by_cases h3 : 65 ≤ c ∧ c ≤ 70
    · have HV : Hid (hexR c = (c : Int) - 65 + 10) := by show _ = _; unfold hexR hxV; rw [if_neg h1, if_pos h3]; simp only; omega
      obtain ⟨h3, h4⟩ := h3
      have h5 : 57 < c := by omega
      clear h1
      go_enter Tryz.func101, Tryz.ntmps101
      go_wp2
      go_ret
      exact ⟨by rw [HV.out]; rfl, rfl⟩
    · have HV : Hid (hexR c = -1) := by show _ = _; unfold hexR hxV; rw [if_neg h1, if_neg h3]
      have h5 : c < 48 ∨ (57 < c ∧ c < 65) ∨ 70 < c := by omega
      clear h1 h3
      rcases h5 with h5 | ⟨h5, h6⟩ | h5
      all_goals
        go_enter Tryz.func101, Tryz.ntmps101
        go_wp2
        go_ret
        exact ⟨by rw [HV.out]; rfl, rfl⟩
theorem r08End (s : ByteArray) (w : World) (hs : s.size ≤ 1000000) :
    Calls Tryz.prog 68 #[.string s] w fun e w' => e = .returned (.int .i64 ((qtL s.data.toList : Int) - 1)) ∧ w = w' := by
  go_enter Tryz.func68, Tryz.ntmps68
  go_wp2
  go_loop [3] (fun i => ∃ k : Nat, k ≤ s.size + 2 ∧ i = .int .i64 k ∧ Hid (qtL s.data.toList = qtF (s.data.toList.drop k) k)) (fun i => s.size + 2 - (intOf i).toNat)
  case atStart => exact ⟨1, by omega, rfl, rfl⟩
  case round =>
    obtain ⟨k, hk, rfl, H⟩ := hrel
    by_cases hlt : k < s.size
    · have hb := bn_lt s k
      have H2 : Hid (qtL s.data.toList = if bn s k = 34 then k + 1 else if bn s k = 92 then qtF (s.data.toList.drop (k + 2)) (k + 2) else qtF (s.data.toList.drop (k + 1)) (k + 1)) := by
        show _ = _
        rw [H.out]; exact qtF_at _ k (by rw [size_toList]; exact hlt)
      clear H
      by_cases h1 : bn s k = 34
      · have H3 : Hid ((qtL s.data.toList : Int) - 1 = k) := by show _ = _; rw [H2.out, if_pos h1]; omega
        go_wp2
        go_ret
        exact ⟨by rw [H3.out]; rfl, rfl⟩
      · by_cases h2 : bn s k = 92
        · go_wp2
          go_round
          case rel => exact ⟨k + 2, by omega, by go_num, by show _ = _; rw [H2.out, if_neg h1, if_pos h2]⟩
          case measure => simp [intOf]; omega
        · go_wp2
          go_round
          case rel => exact ⟨k + 1, by omega, by go_num, by show _ = _; rw [H2.out, if_neg h1, if_neg h2]⟩
          case measure => simp [intOf]; omega
    · have H2 : Hid (qtL s.data.toList = 0) := by
        show _ = _
        rw [H.out, List.drop_eq_nil_of_le (by rw [size_toList]; omega)]; rfl
      clear H
      go_wp2
      go_ret
      exact ⟨by rw [H2.out]; rfl, rfl⟩
theorem puR_at (s : ByteArray) (k : Nat) : puR (s.data.toList.drop (k + 2)) = if k + 5 < s.size then (hxV (bn s (k + 4))).bind fun a => (hxV (bn s (k + 5))).map fun b => 16 * a + b else none := by
  unfold puR
  rw [List.length_drop, size_toList, bn_drop, bn_drop]
  by_cases h : k + 5 < s.size
  · rw [if_pos (by omega), if_pos h]
  · rw [if_neg (by omega), if_neg h]
theorem hxV_lt {c d : Nat} (h : hxV c = some d) : d < 16 := by
  unfold hxV at h
  split at h
  · injection h with h; omega
  split at h
  · injection h with h; omega
  · cases h
theorem hexR_some {c d : Nat} (h : hxV c = some d) : hexR c = d := by unfold hexR; rw [h]
theorem hexR_none {c : Nat} (h : hxV c = none) : hexR c = -1 := by unfold hexR; rw [h]
/-- Reading back, at a place. -/
theorem back_step (s : ByteArray) (k : Nat) (hk : k + 1 < s.size) (h92 : bn s k = 92) :
    (∀ n, bn s (k + 1) = 117 → puR (s.data.toList.drop (k + 2)) = some n → rdG puR (s.data.toList.drop k) = UInt8.ofNat n :: rdG puR (s.data.toList.drop (k + 6))) ∧
    ((bn s (k + 1) ≠ 117 ∨ puR (s.data.toList.drop (k + 2)) = none) → rdG puR (s.data.toList.drop k) = UInt8.ofNat (if bn s (k + 1) = 110 then 10 else if bn s (k + 1) = 114 then 13 else bn s (k + 1)) :: rdG puR (s.data.toList.drop (k + 2))) := by
  have hz := size_toList s
  have h1 := List.drop_eq_getElem_cons (show k < s.data.toList.length by omega)
  have h2 := List.drop_eq_getElem_cons (show k + 1 < s.data.toList.length by omega)
  have b1 : s.data.toList[k] = 92 := UInt8.toNat_inj.1 (by rw [← bn_of (List.getElem?_eq_getElem (show k < s.data.toList.length by omega)), h92]; rfl)
  have b2 := bn_of (List.getElem?_eq_getElem (show k + 1 < s.data.toList.length by omega))
  rw [h1, h2, b1]
  generalize s.data.toList[k + 1] = d at *
  rw [b2]
  constructor
  · intro n h3 hp
    obtain rfl : d = 117 := UInt8.toNat_inj.1 h3
    rw [rdG_u puR n _ hp, List.drop_drop]
  · intro h3
    rw [rdG_esc puR d _ (h3.imp (fun h e => h (by rw [e]; rfl)) id)]
    congr 1
    by_cases e1 : d = 110
    · subst e1; rfl
    by_cases e2 : d = 114
    · subst e2; rfl
    rw [if_neg e1, if_neg e2, if_neg (show ¬ d.toNat = 110 from fun h => e1 (UInt8.toNat_inj.1 h)), if_neg (show ¬ d.toNat = 114 from fun h => e2 (UInt8.toNat_inj.1 h))]
    simp
theorem back_plain (s : ByteArray) (k : Nat) (hk : k < s.size) (h : bn s k ≠ 92 ∨ k + 1 = s.size) : rdG puR (s.data.toList.drop k) = UInt8.ofNat (bn s k) :: rdG puR (s.data.toList.drop (k + 1)) := by
  have hz := size_toList s
  have h1 := List.drop_eq_getElem_cons (show k < s.data.toList.length by omega)
  have b1 := bn_of (List.getElem?_eq_getElem (show k < s.data.toList.length by omega))
  rw [h1]
  generalize s.data.toList[k] = c at *
  rw [b1] at h ⊢
  have e : UInt8.ofNat c.toNat = c := by simp
  rw [e]
  rcases h with h | h
  · exact rdG_plain puR c _ (fun e => h (by rw [e]; rfl))
  · rw [List.drop_eq_nil_of_le (by omega)]; rfl
theorem ofNat_cell {x : Nat} (h : x < 256) : #[Value.int .u8 (x : Int)].toList = Lib.byteCells [UInt8.ofNat x] := by
  simp [Lib.byteCells]; omega
set_option maxRecDepth 20000 in
set_option maxHeartbeats 8000000 in
theorem r08Back (s : ByteArray) (w : World) (hs : s.size ≤ 1000000) :
    Calls Tryz.prog 69 #[.string s] w fun e w' => e = .returned (.string (mkS (rdG puR s.data.toList))) ∧ Below w.heap.size w w' := by
  have hz := size_toList s
  go_enter Tryz.func69, Tryz.ntmps69
  go_wp2
  go_loopw [3, 4] (fun v i wr => ∃ (k : Nat) (acc : List UInt8), k ≤ s.size ∧ acc.length ≤ k ∧ i = .int .i64 k ∧ OwnB w wr v acc ∧ Below w.heap.size w wr ∧ Hid (rdG puR s.data.toList = acc ++ rdG puR (s.data.toList.drop k))) (fun _ i _ => s.size - (intOf i).toNat)
  case atStart => exact ⟨0, [], by omega, by simp, rfl, World.ownsRow_nil _ _ _ _, Below.refl _ _, rfl⟩
  case round =>
    obtain ⟨k, acc, hk, hal, rfl, own, hB, Ha⟩ := hrel
    have Own := Lib.hid own
    have HB := Lib.hid hB
    have hw0 := hB.size
    obtain ⟨A, cp, hA⟩ := OwnB.form own
    subst hA
    clear hB own hz
    by_cases hlt : k < s.size
    · have hb0 := bn_lt s k
      by_cases hpl : bn s k ≠ 92 ∨ k + 1 = s.size
      · have Hnx : Hid (rdG puR s.data.toList = (acc ++ [UInt8.ofNat (bn s k)]) ++ rdG puR (s.data.toList.drop (k + 1))) := by
          show _ = _
          rw [Ha.out, back_plain s k hlt hpl, List.append_assoc]; rfl
        clear Ha
        by_cases h92 : bn s k = 92
        · have hq1 : s.size = k + 1 := by rcases hpl with h | h; exact absurd h92 h; exact h.symm
          clear hpl
          rw [h92] at Hnx
          have Own1 := Lib.hid (Own.out.alloc (.cells #[.int .u8 (92 : Int)] 5))
          have Hb9 : Hid (Below w.heap.size wr (wr.alloc (.cells #[.int .u8 (92 : Int)] 5))) := Lib.hid ((Below.refl _ _).alloc (by omega) _)
          have Hcl := Lib.hid (ofNat_cell (x := 92) (by omega))
          go_wp2_with (first
            | (at_builtin; refine wpList_app (m := 1) rfl rfl Tryz.underlying47 u8Info8 rfl (by omega) rfl Own1.out rfl (rdN8 _ _ [UInt8.ofNat 92] Hcl.out) rfl (byteCells_one _) (by omega) (by omega) (by simp; omega) ?_; intro v8 w8 own8 hb8; have HF := Lib.hid ((HB.out.trans Hb9.out).trans hb8); have Own8 := Lib.hid own8; obtain ⟨A8, c8, hA8⟩ := own_form own8; subst hA8; clear own8 hb8))
          go_roundw
          case rel => exact ⟨k + 1, _, by omega, (by rw [List.length_append]; simp only [List.length_cons, List.length_nil]; omega), by go_num, OwnB.snoc (r := [UInt8.ofNat 92]) Own8.out rfl, HF.out, Hnx⟩
          case measure => simp [intOf]; omega
        · clear hpl
          obtain ⟨x, hx⟩ : ∃ x, bn s k = x := ⟨_, rfl⟩
          rw [hx] at Hnx hb0 h92
          have Own1 := Lib.hid (Own.out.alloc (.cells #[.int .u8 (((x : Nat) : Int) : Int)] 5))
          have Hb9 : Hid (Below w.heap.size wr (wr.alloc (.cells #[.int .u8 (((x : Nat) : Int) : Int)] 5))) := Lib.hid ((Below.refl _ _).alloc (by omega) _)
          have Hcl := Lib.hid (ofNat_cell (x := x) hb0)
          go_wp2_with (first
            | (at_builtin; refine wpList_app (m := 1) rfl rfl Tryz.underlying47 u8Info8 rfl (by omega) rfl Own1.out rfl (rdN8 _ _ [UInt8.ofNat (x)] Hcl.out) rfl (byteCells_one _) (by omega) (by omega) (by simp; omega) ?_; intro v8 w8 own8 hb8; have HF := Lib.hid ((HB.out.trans Hb9.out).trans hb8); have Own8 := Lib.hid own8; obtain ⟨A8, c8, hA8⟩ := own_form own8; subst hA8; clear own8 hb8))
          go_roundw
          case rel => exact ⟨k + 1, _, by omega, (by rw [List.length_append]; simp only [List.length_cons, List.length_nil]; omega), by go_num, OwnB.snoc (r := [UInt8.ofNat (x)]) Own8.out rfl, HF.out, Hnx⟩
          case measure => simp [intOf]; omega
      · have h92 : bn s k = 92 := by
          by_cases h : bn s k = 92
          · exact h
          · exact absurd (.inl h) hpl
        have hk1 : k + 1 < s.size := by
          by_cases h : k + 1 = s.size
          · exact absurd (.inr h) hpl
          · omega
        obtain ⟨e4, e5⟩ := back_step s k hk1 h92
        have key4 : ∀ n, bn s (k + 1) = 117 → puR (s.data.toList.drop (k + 2)) = some n → Hid (rdG puR s.data.toList = (acc ++ [UInt8.ofNat n]) ++ rdG puR (s.data.toList.drop (k + 6))) := fun n h hp => by
          show _ = _
          rw [Ha.out, e4 n h hp, List.append_assoc]; rfl
        have key5 : (bn s (k + 1) ≠ 117 ∨ puR (s.data.toList.drop (k + 2)) = none) → Hid (rdG puR s.data.toList = (acc ++ [UInt8.ofNat (if bn s (k + 1) = 110 then 10 else if bn s (k + 1) = 114 then 13 else bn s (k + 1))]) ++ rdG puR (s.data.toList.drop (k + 2))) := fun h => by
          show _ = _
          rw [Ha.out, e5 h, List.append_assoc]; rfl
        rw [puR_at] at key4 key5
        have hb1 := bn_lt s (k + 1)
        have hb4 := bn_lt s (k + 4)
        have hb5 := bn_lt s (k + 5)
        have hq1 : ((k : Int) + 1 == (s.size : Int)) = false := by simp; omega
        have hh4 := fun W => r08Hex (bn s (k + 4)) hb4 W
        have hh5 := fun W => r08Hex (bn s (k + 5)) hb5 W
        clear hpl e4 e5 Ha hb4 hb5
        by_cases h117 : bn s (k + 1) = 117
        · by_cases hk5 : k + 5 < s.size
          · rw [if_pos hk5] at key4 key5
            cases ha : hxV (bn s (k + 4)) with
            | none =>
              rw [hexR_none ha] at hh4
              have Hnx := key5 (.inr (by rw [ha]; rfl))
              rw [h117, if_neg (by decide), if_neg (by decide)] at Hnx
              clear key4 key5 ha hh5
              have Own1 := Lib.hid (Own.out.alloc (.cells #[.int .u8 (117 : Int)] 5))
              have Hb9 : Hid (Below w.heap.size wr (wr.alloc (.cells #[.int .u8 (117 : Int)] 5))) := Lib.hid ((Below.refl _ _).alloc (by omega) _)
              have Hcl := Lib.hid (ofNat_cell (x := 117) (by omega))
              go_wp2_with (first
                | (go_at_call 101; with_reducible refine (hh4 _).mono ?_; rintro e w1 ⟨rfl, rfl⟩)
                | (at_builtin; refine wpList_app (m := 1) rfl rfl Tryz.underlying47 u8Info8 rfl (by omega) rfl Own1.out rfl (rdN8 _ _ [UInt8.ofNat 117] Hcl.out) rfl (byteCells_one _) (by omega) (by omega) (by simp; omega) ?_; intro v8 w8 own8 hb8; have HF := Lib.hid ((HB.out.trans Hb9.out).trans hb8); have Own8 := Lib.hid own8; obtain ⟨A8, c8, hA8⟩ := own_form own8; subst hA8; clear own8 hb8))
              go_roundw
              case rel => exact ⟨k + 2, _, by omega, (by rw [List.length_append]; simp only [List.length_cons, List.length_nil]; omega), by go_num, OwnB.snoc (r := [UInt8.ofNat 117]) Own8.out rfl, HF.out, Hnx⟩
              case measure => simp [intOf]; omega
            | some a =>
              rw [hexR_some ha] at hh4
              cases hb : hxV (bn s (k + 5)) with
              | none =>
                rw [hexR_none hb] at hh5
                have Hnx := key5 (.inr (by rw [ha, hb]; rfl))
                rw [h117, if_neg (by decide), if_neg (by decide)] at Hnx
                clear key4 key5 ha hb
                have Own1 := Lib.hid (Own.out.alloc (.cells #[.int .u8 (117 : Int)] 5))
                have Hb9 : Hid (Below w.heap.size wr (wr.alloc (.cells #[.int .u8 (117 : Int)] 5))) := Lib.hid ((Below.refl _ _).alloc (by omega) _)
                have Hcl := Lib.hid (ofNat_cell (x := 117) (by omega))
                go_wp2_with (first
                  | (go_at_call 101; (first | with_reducible refine (hh4 _).mono ?_ | with_reducible refine (hh5 _).mono ?_); rintro e w1 ⟨rfl, rfl⟩)
                  | (at_builtin; refine wpList_app (m := 1) rfl rfl Tryz.underlying47 u8Info8 rfl (by omega) rfl Own1.out rfl (rdN8 _ _ [UInt8.ofNat 117] Hcl.out) rfl (byteCells_one _) (by omega) (by omega) (by simp; omega) ?_; intro v8 w8 own8 hb8; have HF := Lib.hid ((HB.out.trans Hb9.out).trans hb8); have Own8 := Lib.hid own8; obtain ⟨A8, c8, hA8⟩ := own_form own8; subst hA8; clear own8 hb8))
                go_roundw
                case rel => exact ⟨k + 2, _, by omega, (by rw [List.length_append]; simp only [List.length_cons, List.length_nil]; omega), by go_num, OwnB.snoc (r := [UInt8.ofNat 117]) Own8.out rfl, HF.out, Hnx⟩
                case measure => simp [intOf]; omega
              | some b =>
                rw [hexR_some hb] at hh5
                have Hnx := key4 (16 * a + b) h117 (by rw [ha, hb]; rfl)
                have ha16 := hxV_lt ha
                have hb16 := hxV_lt hb
                clear key4 key5 ha hb
                go_wp2_with (first
                  | (go_at_call 101; (first | with_reducible refine (hh4 _).mono ?_ | with_reducible refine (hh5 _).mono ?_); rintro e w1 ⟨rfl, rfl⟩))
                refine Rf.wp_region_pl w.heap.size _ (Rf.Pl.quiet [0, 1, 2, 3, 4, 7, 8, 9, 10] (Rf.Pl.one 5 (Rf.Pl.quiet [6] (Rf.Pl.one 11 (Rf.Pl.quiet [12, 13] (Rf.Pl.one 14 (Rf.Pl.one 15 (Rf.Pl.quiet [16] (Rf.Pl.done))))))))) _ (by kernel_rfl) (by kernel_rfl) (by simp only [Rf.Pl.pick, Rf.pickO, List.map_cons, List.map_nil, Rg.pickOps, List.getElem?_toArray, List.getElem?_cons_zero, List.getElem?_cons_succ, Option.getD_some]; rfl) ?_ (fun a w h => h)
                intro wd hbd hwz
                have hle := hbd.size
                have Own1 := Lib.hid ((own_below Own.out hbd (Nat.le_refl _)).alloc (.cells #[.int .u8 ((16 * a + b : Nat) : Int)] 5))
                have Hb9 : Hid (Below w.heap.size wd (wd.alloc (.cells #[.int .u8 ((16 * a + b : Nat) : Int)] 5))) := Lib.hid ((Below.refl _ _).alloc (by omega) _)
                have Hbd := Lib.hid (HB.out.trans (hbd.mono hw0))
                have hcl := ofNat_cell (x := 16 * a + b) (by omega)
                rw [show ((16 * a + b : Nat) : Int) = 16 * (a : Int) + b by omega] at Own1 Hb9 hcl
                have Hcl := Lib.hid hcl
                clear hcl
                have hv0 : 0 ≤ 16 * (a : Int) + b := by omega
                have hv1 : 16 * (a : Int) + b < 256 := by omega
                clear hwz hbd
                refine Rf.pl_quiet ?_
                iterate 9 go_big_quiet_step (fail)
                refine wpQuiet_nil (Rf.pl_one ?_)
                go_wp2_with (go_at_call 101; with_reducible refine (hh4 _).mono ?_; rintro e w1 ⟨rfl, rfl⟩)
                refine ⟨Below.refl _ _, Rf.pl_quiet ?_⟩
                iterate 1 go_big_quiet_step (fail)
                refine wpQuiet_nil (Rf.pl_one ?_)
                go_wp2_with (go_at_call 101; with_reducible refine (hh5 _).mono ?_; rintro e w1 ⟨rfl, rfl⟩)
                refine ⟨Below.refl _ _, Rf.pl_quiet ?_⟩
                iterate 2 go_big_quiet_step (fail)
                refine wpQuiet_nil (Rf.pl_one ?_)
                go_wp2_with fail
                refine ⟨Hb9.out, Rf.pl_one ?_⟩
                go_wp2_with (at_builtin; refine wpList_app (m := 1) rfl rfl Tryz.underlying47 u8Info8 rfl (by omega) rfl Own1.out rfl (rdN8 _ _ [UInt8.ofNat (16 * a + b)] Hcl.out) rfl (byteCells_one _) (by omega) (by omega) (by simp; omega) ?_; intro v8 w8 own8 hb8)
                refine ⟨hb8, Rf.pl_quiet ?_⟩
                go_frame
                iterate 1 go_big_quiet_step (fail)
                refine wpQuiet_nil (Rf.pl_done ?_)
                have HF := Lib.hid ((Hbd.out.trans Hb9.out).trans hb8)
                have Own8 := Lib.hid own8
                obtain ⟨A8, c8, hA8⟩ := own_form own8
                subst hA8
                clear own8 hb8
                go_wp2
                go_roundw
                case rel => exact ⟨k + 6, _, by omega, (by rw [List.length_append]; simp only [List.length_cons, List.length_nil]; omega), by go_num, OwnB.snoc (r := [UInt8.ofNat (16 * a + b)]) Own8.out rfl, HF.out, Hnx⟩
                case measure => simp [intOf]; omega
          · rw [if_neg hk5] at key4 key5
            have Hnx := key5 (.inr rfl)
            rw [h117, if_neg (by decide), if_neg (by decide)] at Hnx
            clear key4 key5 hh4 hh5
            have Own1 := Lib.hid (Own.out.alloc (.cells #[.int .u8 (117 : Int)] 5))
            have Hb9 : Hid (Below w.heap.size wr (wr.alloc (.cells #[.int .u8 (117 : Int)] 5))) := Lib.hid ((Below.refl _ _).alloc (by omega) _)
            have Hcl := Lib.hid (ofNat_cell (x := 117) (by omega))
            go_wp2_with (first
              | (at_builtin; refine wpList_app (m := 1) rfl rfl Tryz.underlying47 u8Info8 rfl (by omega) rfl Own1.out rfl (rdN8 _ _ [UInt8.ofNat 117] Hcl.out) rfl (byteCells_one _) (by omega) (by omega) (by simp; omega) ?_; intro v8 w8 own8 hb8; have HF := Lib.hid ((HB.out.trans Hb9.out).trans hb8); have Own8 := Lib.hid own8; obtain ⟨A8, c8, hA8⟩ := own_form own8; subst hA8; clear own8 hb8))
            go_roundw
            case rel => exact ⟨k + 2, _, by omega, (by rw [List.length_append]; simp only [List.length_cons, List.length_nil]; omega), by go_num, OwnB.snoc (r := [UInt8.ofNat 117]) Own8.out rfl, HF.out, Hnx⟩
            case measure => simp [intOf]; omega
        · have Hnx := key5 (.inl h117)
          clear key4 key5 hh4 hh5
          by_cases h110 : bn s (k + 1) = 110
          · rw [if_pos h110] at Hnx
            have Own1 := Lib.hid (Own.out.alloc (.cells #[.int .u8 (10 : Int)] 5))
            have Hb9 : Hid (Below w.heap.size wr (wr.alloc (.cells #[.int .u8 (10 : Int)] 5))) := Lib.hid ((Below.refl _ _).alloc (by omega) _)
            have Hcl := Lib.hid (ofNat_cell (x := 10) (by omega))
            go_wp2_with (first
              | (at_builtin; refine wpList_app (m := 1) rfl rfl Tryz.underlying47 u8Info8 rfl (by omega) rfl Own1.out rfl (rdN8 _ _ [UInt8.ofNat 10] Hcl.out) rfl (byteCells_one _) (by omega) (by omega) (by simp; omega) ?_; intro v8 w8 own8 hb8; have HF := Lib.hid ((HB.out.trans Hb9.out).trans hb8); have Own8 := Lib.hid own8; obtain ⟨A8, c8, hA8⟩ := own_form own8; subst hA8; clear own8 hb8))
            go_roundw
            case rel => exact ⟨k + 2, _, by omega, (by rw [List.length_append]; simp only [List.length_cons, List.length_nil]; omega), by go_num, OwnB.snoc (r := [UInt8.ofNat 10]) Own8.out rfl, HF.out, Hnx⟩
            case measure => simp [intOf]; omega
          rw [if_neg h110] at Hnx
          by_cases h114 : bn s (k + 1) = 114
          · rw [if_pos h114] at Hnx
            have Own1 := Lib.hid (Own.out.alloc (.cells #[.int .u8 (13 : Int)] 5))
            have Hb9 : Hid (Below w.heap.size wr (wr.alloc (.cells #[.int .u8 (13 : Int)] 5))) := Lib.hid ((Below.refl _ _).alloc (by omega) _)
            have Hcl := Lib.hid (ofNat_cell (x := 13) (by omega))
            go_wp2_with (first
              | (at_builtin; refine wpList_app (m := 1) rfl rfl Tryz.underlying47 u8Info8 rfl (by omega) rfl Own1.out rfl (rdN8 _ _ [UInt8.ofNat 13] Hcl.out) rfl (byteCells_one _) (by omega) (by omega) (by simp; omega) ?_; intro v8 w8 own8 hb8; have HF := Lib.hid ((HB.out.trans Hb9.out).trans hb8); have Own8 := Lib.hid own8; obtain ⟨A8, c8, hA8⟩ := own_form own8; subst hA8; clear own8 hb8))
            go_roundw
            case rel => exact ⟨k + 2, _, by omega, (by rw [List.length_append]; simp only [List.length_cons, List.length_nil]; omega), by go_num, OwnB.snoc (r := [UInt8.ofNat 13]) Own8.out rfl, HF.out, Hnx⟩
            case measure => simp [intOf]; omega
          rw [if_neg h114] at Hnx
          obtain ⟨x, hx⟩ : ∃ x, bn s (k + 1) = x := ⟨_, rfl⟩
          rw [hx] at Hnx hb1 h117 h110 h114
          have Own1 := Lib.hid (Own.out.alloc (.cells #[.int .u8 (((x : Nat) : Int) : Int)] 5))
          have Hb9 : Hid (Below w.heap.size wr (wr.alloc (.cells #[.int .u8 (((x : Nat) : Int) : Int)] 5))) := Lib.hid ((Below.refl _ _).alloc (by omega) _)
          have Hcl := Lib.hid (ofNat_cell (x := x) hb1)
          go_wp2_with (first
            | (at_builtin; refine wpList_app (m := 1) rfl rfl Tryz.underlying47 u8Info8 rfl (by omega) rfl Own1.out rfl (rdN8 _ _ [UInt8.ofNat (x)] Hcl.out) rfl (byteCells_one _) (by omega) (by omega) (by simp; omega) ?_; intro v8 w8 own8 hb8; have HF := Lib.hid ((HB.out.trans Hb9.out).trans hb8); have Own8 := Lib.hid own8; obtain ⟨A8, c8, hA8⟩ := own_form own8; subst hA8; clear own8 hb8))
          go_roundw
          case rel => exact ⟨k + 2, _, by omega, (by rw [List.length_append]; simp only [List.length_cons, List.length_nil]; omega), by go_num, OwnB.snoc (r := [UInt8.ofNat (x)]) Own8.out rfl, HF.out, Hnx⟩
          case measure => simp [intOf]; omega
    · have ht : s.data.toList.drop k = [] := List.drop_eq_nil_of_le (by rw [size_toList]; omega)
      have hcv := run_conv_bytes (P := Tryz.prog) (n := acc.length) (c := cp) 47 9 5 Tryz.underlying47 Tryz.underlying5 Tryz.underlying9 (OwnB.nums Own.out rfl) (by simp)
      rw [nums_str8] at hcv
      have HS : Hid (rdG puR s.data.toList = acc) := by show _ = _; rw [Ha.out, ht, rdG_nil, List.append_nil]
      clear ht Ha
      go_wp2
      go_ret
      exact ⟨by rw [HS.out]; rfl, HB.out⟩
end Go.Proofs.YtheeklkcaapkbaaGreatDoor
