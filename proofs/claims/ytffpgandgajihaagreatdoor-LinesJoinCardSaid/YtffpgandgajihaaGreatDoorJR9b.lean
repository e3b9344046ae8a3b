/- The answer for lex (ossuaryref09): hex, escape. Printed by gen/r9b.py. -/
import Derived.Test.YtffpgandgajihaaGreatDoorJLex5
import Derived.Test.YtffpgandgajihaaGreatDoorJUtfRef3
import Derived.Deep.CutRange
namespace Go.Proofs.YtffpgandgajihaaGreatDoor
open Go Go.RowKit Um Lx

def hexV (c : Nat) : Int := match hexB c with | some d => (d : Int) | none => -1
theorem refHex (c : Nat) (hc : c < 256) (w : World) : Calls Tryz.prog 190 #[.int .u8 c] w fun e w' => e = .returned (.int .i64 (hexV c)) ∧ w = w' := by
  by_cases h1 : 48 ≤ c ∧ c ≤ 57
  · have Hv : Hid (hexV c = (c : Int) - 48) := by show _ = _; unfold hexV hexB; rw [if_pos h1]; simp only; omega
    obtain ⟨a1, a2⟩ := h1
    go_enter Tryz.func190, Tryz.ntmps190
    go_wp2
    go_ret
    exact ⟨by rw [Hv.out]; rfl, rfl⟩
  · by_cases h2 : 65 ≤ c ∧ c ≤ 70
    · have Hv : Hid (hexV c = (c : Int) - 65 + 10) := by show _ = _; unfold hexV hexB; rw [if_neg h1, if_pos h2]; simp only; omega
      obtain ⟨a1, a2⟩ := h2
      have a3 : 57 < c := by omega
      clear h1
      go_enter Tryz.func190, Tryz.ntmps190
      go_wp2
      go_ret
      exact ⟨by rw [Hv.out]; rfl, rfl⟩
    · by_cases h3 : 97 ≤ c ∧ c ≤ 102
      · have Hv : Hid (hexV c = (c : Int) - 97 + 10) := by show _ = _; unfold hexV hexB; rw [if_neg h1, if_neg h2, if_pos h3]; simp only; omega
        obtain ⟨a1, a2⟩ := h3
        have a3 : 70 < c := by omega
        clear h1 h2
        go_enter Tryz.func190, Tryz.ntmps190
        go_wp2
        go_ret
        exact ⟨by rw [Hv.out]; rfl, rfl⟩
      · have Hv : Hid (hexV c = -1) := by show _ = _; unfold hexV hexB; rw [if_neg h1, if_neg h2, if_neg h3]
        have d1 : (decide (48 ≤ c) && decide (c ≤ 57)) = false := by rw [← Bool.decide_and]; exact decide_eq_false h1
        have d2 : (decide (65 ≤ c) && decide (c ≤ 70)) = false := by rw [← Bool.decide_and]; exact decide_eq_false h2
        have d3 : (decide (97 ≤ c) && decide (c ≤ 102)) = false := by rw [← Bool.decide_and]; exact decide_eq_false h3
        rcases Nat.lt_or_ge c 48 with q | q
        · clear h1 h2 h3 d1 d2 d3
          go_enter Tryz.func190, Tryz.ntmps190
          go_wp2
          go_ret
          exact ⟨by rw [Hv.out]; rfl, rfl⟩
        · rcases Nat.lt_or_ge c 65 with q2 | q2
          · have q3 : 57 < c := by omega
            clear h1 h2 h3 d1 d2 d3
            go_enter Tryz.func190, Tryz.ntmps190
            go_wp2
            go_ret
            exact ⟨by rw [Hv.out]; rfl, rfl⟩
          · rcases Nat.lt_or_ge c 97 with q4 | q4
            · have q3 : 70 < c := by omega
              clear h1 h2 h3 d1 d2 d3
              go_enter Tryz.func190, Tryz.ntmps190
              go_wp2
              go_ret
              exact ⟨by rw [Hv.out]; rfl, rfl⟩
            · have q3 : 102 < c := by omega
              clear h1 h2 h3 d1 d2 d3
              go_enter Tryz.func190, Tryz.ntmps190
              go_wp2
              go_ret
              exact ⟨by rw [Hv.out]; rfl, rfl⟩
/-- An escape, as the document's answer tells it. -/
def escR (lit : Bool) (l : List UInt8) : Nat × Nat := if c0 l = 92 then escL lit l else (0, 0)
theorem esc_from : ∀ j : Fin 8, escOf (bn fromB j.val) = some (bn toB j.val) ∧ bn toB j.val < 128 := by decide +kernel
theorem esc_none {c : Nat} (h : ∀ i, i < 8 → bn fromB i ≠ c) : escOf c = none := by
  have f0 := h 0 (by decide)
  have f1 := h 1 (by decide)
  have f2 := h 2 (by decide)
  have f3 := h 3 (by decide)
  have f4 := h 4 (by decide)
  have f5 := h 5 (by decide)
  have f6 := h 6 (by decide)
  have f7 := h 7 (by decide)
  simp only [show bn fromB 0 = 116 from by decide, show bn fromB 1 = 98 from by decide, show bn fromB 2 = 110 from by decide, show bn fromB 3 = 114 from by decide, show bn fromB 4 = 102 from by decide, show bn fromB 5 = 34 from by decide, show bn fromB 6 = 39 from by decide, show bn fromB 7 = 92 from by decide] at f0 f1 f2 f3 f4 f5 f6 f7
  unfold escOf
  rw [if_neg (by omega), if_neg (by omega), if_neg (by omega), if_neg (by omega), if_neg (by omega), if_neg (by omega), if_neg (by omega), if_neg (by omega)]
def EscV (lit : Bool) (s : ByteArray) (k : Nat) (w : World) (e : Ending) (w' : World) : Prop := e = .returned (.tuple #[.int .i64 (escR lit (from_ s k)).1, .int .i64 (escR lit (from_ s k)).2]) ∧ Below w.heap.size w w'
theorem bn_from (s : ByteArray) (k i : Nat) : ((from_ s k).getD i 0).toNat = bn s (k + i) := bn_drop s k i
set_option maxRecDepth 10000 in
set_option maxHeartbeats 4000000 in
theorem refEscape (lit : Bool) (s : ByteArray) (k : Nat) (w : World) (hk : k < s.size) (hs : s.size ≤ 1000000) :
    Calls Tryz.prog 164 #[.string s, .int .i64 k, .bool lit] w (EscV lit s k w) := by
  have hb0 : c0 (from_ s k) = bn s k := by have := bn_from s k 0; exact this
  have hb1 : c1 (from_ s k) = bn s (k + 1) := bn_from s k 1
  by_cases hk1 : s.size ≤ k + 1
  · have hd : decide ((s.size : Int) ≤ (k : Int) + 1) = true := by simp; omega
    have Hes : Hid (escR lit (from_ s k) = (0, 0)) := by
      show _ = _
      have h0 : c1 (from_ s k) = 0 := by
        unfold c1
        rw [List.getD_eq_getElem?_getD, List.getElem?_eq_none (by rw [from_len]; omega)]; rfl
      unfold escR escL
      rw [h0]
      cases lit <;> (split <;> rfl)
    clear hb0 hb1 hk1
    go_enter Tryz.func164, Tryz.ntmps164
    go_wp2
    go_ret2
    exact ⟨by rw [Hes.out]; rfl, Below.refl _ _⟩
  have hd : decide ((s.size : Int) ≤ (k : Int) + 1) = false := by simp; omega
  by_cases h92 : bn s k = 92
  · have hn : ((bn s k : Int) != 92) = false := by rw [h92]; rfl
    have hes : escR lit (from_ s k) = escL lit (from_ s k) := by unfold escR; rw [if_pos (by rw [hb0]; exact h92)]
    have hk2 : k + 1 < s.size := by omega
    have hcl := bn_lt s (k + 1)
    have hfl := from_len s k
    obtain ⟨c, hc⟩ : ∃ c, bn s (k + 1) = c := ⟨_, rfl⟩
    rw [hc] at hb1 hcl
    have Hb1 := Lib.hid hb1
    clear hb0 h92 hb1 hk1
    cases hlit : lit
    · subst hlit
      have Hno : Hid (false = true → escOf c = none) := fun h => by cases h
      go_enter Tryz.func164, Tryz.ntmps164
      go_upto_region 11 with (fail)
      by_cases h117 : c = 117
      · subst h117
        have hes2 : escL false (from_ s k) = optP 6 (numL 4 ((from_ s k).drop 2)) := by unfold escL; rw [if_pos Hb1.out]
        have e117 : ((117 : Nat) : Int) = 117 := rfl
        have hes3 := hes.trans hes2
        have Hes3 := Lib.hid hes3
        clear hes hes2 hes3
        by_cases hlen : k + 2 + 4 ≤ s.size
        · have hd2 : decide ((s.size : Int) < (k : Int) + 2 + 4) = false := by simp; omega
          obtain ⟨T, hT⟩ : ∃ T, ((from_ s k).drop 2).take 4 = T := ⟨_, rfl⟩
          have hnum : numL 4 ((from_ s k).drop 2) = (hexN T 0).bind fun n => if isB n then some n else none := by
            unfold numL; rw [if_neg (by rw [List.length_drop]; omega), hT]
          have Hnum := Lib.hid hnum
          have hTl : T.length = 4 := by rw [← hT, List.length_take, List.length_drop]; omega
          have hTg : ∀ j, j < 4 → (T.getD j 0).toNat = bn s (k + 2 + j) := fun j hj => by
            rw [← hT, take_getD _ _ _ hj, getD_drop, bn_from, Nat.add_assoc]
          clear hT hnum hfl
          have HTl := Lib.hid hTl
          have HTg := Lib.hid hTg
          clear hTl hTg
          go_wp2
          go_loop [12, 13] (fun n i => ∃ (j acc : Nat) (a : Int), n = .int .i64 a ∧ i = .int .i64 j ∧ j ≤ 4 ∧ 0 ≤ a ∧ a < 4294967296 ∧ Hid (a = (acc : Int) ∧ acc < 16 ^ j ∧ hexN T 0 = hexN (T.drop j) acc)) (fun _ i => 4 - (intOf i).toNat)
          case atStart => exact ⟨0, 0, 0, rfl, rfl, by omega, by omega, by omega, rfl, by decide, by rw [List.drop_zero]⟩
          case round =>
            obtain ⟨j, acc, a, rfl, rfl, hj, ha0, ha1, hh⟩ := hrel
            obtain ⟨ha, hacc, hdec⟩ := hh.out
            clear hh
            by_cases hlt : j < 4
            · have h7 : 16 ^ j ≤ 268435456 := Nat.pow_le_pow_right (by decide : 0 < 16) (by omega : j ≤ 7)
              have hp : 16 ^ (j + 1) = 16 ^ j * 16 := Nat.pow_succ _ _
              have hd3 : decide ((j : Int) < 4) = true := by simp; omega
              have hdr : T.drop j = T.getD j 0 :: T.drop (j + 1) := by
                rw [List.drop_eq_getElem_cons (by rw [HTl.out]; exact hlt)]
                rw [List.getD_eq_getElem?_getD, List.getElem?_eq_getElem (by rw [HTl.out]; exact hlt)]; rfl
              rw [hdr, hexN, HTg.out j hlt] at hdec
              have hc2 := bn_lt s (k + 2 + j)
              have hx := fun W => refHex (bn s (k + 2 + j)) hc2 W
              have hk3 : k + 2 + j < s.size := by omega
              clear hdr
              cases hxb : hexB (bn s (k + 2 + j)) with
              | none =>
                have hxv : hexV (bn s (k + 2 + j)) = -1 := by unfold hexV; rw [hxb]
                rw [hxv] at hx
                rw [hxb, Option.bind_none] at hdec
                have Hes : Hid (escR false (from_ s k) = (0, 0)) := by show _ = _; rw [Hes3.out, Hnum.out, hdec]; rfl
                clear hxv hxb hdec hacc ha h7 hp
                go_wp2_with (go_at_call 190; refine (hx _).mono ?_; rintro e w1 ⟨rfl, rfl⟩)
                go_ret2
                exact ⟨by rw [Hes.out]; rfl, Below.refl _ _⟩
              | some d =>
                have hxv : hexV (bn s (k + 2 + j)) = (d : Int) := by unfold hexV; rw [hxb]
                have hd16 := (hexB_lt hxb).1
                rw [hxv] at hx
                rw [hxb, Option.bind_some] at hdec
                have HN : Hid (16 * a + (d : Int) = ((16 * acc + d : Nat) : Int) ∧ 16 * acc + d < 16 ^ (j + 1) ∧ hexN T 0 = hexN (T.drop (j + 1)) (16 * acc + d)) := Lib.hid ⟨by omega, by omega, hdec⟩
                have hb1 : 16 * a + (d : Int) < 4294967296 := by omega
                clear hxv hxb hdec hacc ha h7 hp
                go_wp2_with (go_at_call 190; refine (hx _).mono ?_; rintro e w1 ⟨rfl, rfl⟩)
                go_round
                case rel => exact ⟨j + 1, 16 * acc + d, 16 * a + (d : Int), rfl, by go_num, by omega, by omega, by omega, HN⟩
                case measure => simp [intOf]; omega
            · have hjj : j = 4 := by omega
              subst hjj
              rw [List.drop_eq_nil_of_le (by rw [HTl.out]; exact Nat.le_refl _), hexN] at hdec
              subst ha
              have his := fun W => refIs (acc : Int) W
              have hb8 : acc < 4294967296 := by omega
              cases hq : isB (acc : Int)
              · rw [hq] at his
                have Hes : Hid (escR false (from_ s k) = (0, 0)) := by show _ = _; rw [Hes3.out, Hnum.out, hdec, Option.bind_some, hq]; rfl
                clear hdec hacc hq
                go_wp2_with (go_at_call 162; refine (his _).mono ?_; rintro e w1 ⟨rfl, rfl⟩)
                go_ret2
                exact ⟨by rw [Hes.out]; rfl, Below.refl _ _⟩
              · rw [hq] at his
                have Hes : Hid (escR false (from_ s k) = (acc, 6)) := by show _ = _; rw [Hes3.out, Hnum.out, hdec, Option.bind_some, hq]; rfl
                clear hdec hacc hq
                go_wp2_with (go_at_call 162; refine (his _).mono ?_; rintro e w1 ⟨rfl, rfl⟩)
                go_ret2
                exact ⟨by rw [Hes.out]; rfl, Below.refl _ _⟩
        · have hd2 : decide ((s.size : Int) < (k : Int) + 2 + 4) = true := by simp; omega
          have Hes : Hid (escR false (from_ s k) = (0, 0)) := by
            show _ = _
            rw [Hes3.out]
            unfold numL; rw [if_pos (by rw [List.length_drop]; omega)]; rfl
          clear hlen hfl
          go_wp2
          go_ret2
          exact ⟨by rw [Hes.out]; rfl, Below.refl _ _⟩
      · by_cases h85 : c = 85
        · subst h85
          have hes2 : escL false (from_ s k) = optP 10 (numL 8 ((from_ s k).drop 2)) := by unfold escL; rw [if_neg (by rw [Hb1.out]; decide), if_pos Hb1.out]
          have hes3 := hes.trans hes2
          have Hes3 := Lib.hid hes3
          clear hes hes2 hes3
          by_cases hlen : k + 2 + 8 ≤ s.size
          · have hd2 : decide ((s.size : Int) < (k : Int) + 2 + 8) = false := by simp; omega
            obtain ⟨T, hT⟩ : ∃ T, ((from_ s k).drop 2).take 8 = T := ⟨_, rfl⟩
            have hnum : numL 8 ((from_ s k).drop 2) = (hexN T 0).bind fun n => if isB n then some n else none := by
              unfold numL; rw [if_neg (by rw [List.length_drop]; omega), hT]
            have Hnum := Lib.hid hnum
            have hTl : T.length = 8 := by rw [← hT, List.length_take, List.length_drop]; omega
            have hTg : ∀ j, j < 8 → (T.getD j 0).toNat = bn s (k + 2 + j) := fun j hj => by
              rw [← hT, take_getD _ _ _ hj, getD_drop, bn_from, Nat.add_assoc]
            clear hT hnum hfl
            have HTl := Lib.hid hTl
            have HTg := Lib.hid hTg
            clear hTl hTg
            go_wp2
            go_loop [12, 13] (fun n i => ∃ (j acc : Nat) (a : Int), n = .int .i64 a ∧ i = .int .i64 j ∧ j ≤ 8 ∧ 0 ≤ a ∧ a < 4294967296 ∧ Hid (a = (acc : Int) ∧ acc < 16 ^ j ∧ hexN T 0 = hexN (T.drop j) acc)) (fun _ i => 8 - (intOf i).toNat)
            case atStart => exact ⟨0, 0, 0, rfl, rfl, by omega, by omega, by omega, rfl, by decide, by rw [List.drop_zero]⟩
            case round =>
              obtain ⟨j, acc, a, rfl, rfl, hj, ha0, ha1, hh⟩ := hrel
              obtain ⟨ha, hacc, hdec⟩ := hh.out
              clear hh
              by_cases hlt : j < 8
              · have h7 : 16 ^ j ≤ 268435456 := Nat.pow_le_pow_right (by decide : 0 < 16) (by omega : j ≤ 7)
                have hp : 16 ^ (j + 1) = 16 ^ j * 16 := Nat.pow_succ _ _
                have hd3 : decide ((j : Int) < 8) = true := by simp; omega
                have hdr : T.drop j = T.getD j 0 :: T.drop (j + 1) := by
                  rw [List.drop_eq_getElem_cons (by rw [HTl.out]; exact hlt)]
                  rw [List.getD_eq_getElem?_getD, List.getElem?_eq_getElem (by rw [HTl.out]; exact hlt)]; rfl
                rw [hdr, hexN, HTg.out j hlt] at hdec
                have hc2 := bn_lt s (k + 2 + j)
                have hx := fun W => refHex (bn s (k + 2 + j)) hc2 W
                have hk3 : k + 2 + j < s.size := by omega
                clear hdr
                cases hxb : hexB (bn s (k + 2 + j)) with
                | none =>
                  have hxv : hexV (bn s (k + 2 + j)) = -1 := by unfold hexV; rw [hxb]
                  rw [hxv] at hx
                  rw [hxb, Option.bind_none] at hdec
                  have Hes : Hid (escR false (from_ s k) = (0, 0)) := by show _ = _; rw [Hes3.out, Hnum.out, hdec]; rfl
                  clear hxv hxb hdec hacc ha h7 hp
                  go_wp2_with (go_at_call 190; refine (hx _).mono ?_; rintro e w1 ⟨rfl, rfl⟩)
                  go_ret2
                  exact ⟨by rw [Hes.out]; rfl, Below.refl _ _⟩
                | some d =>
                  have hxv : hexV (bn s (k + 2 + j)) = (d : Int) := by unfold hexV; rw [hxb]
                  have hd16 := (hexB_lt hxb).1
                  rw [hxv] at hx
                  rw [hxb, Option.bind_some] at hdec
                  have HN : Hid (16 * a + (d : Int) = ((16 * acc + d : Nat) : Int) ∧ 16 * acc + d < 16 ^ (j + 1) ∧ hexN T 0 = hexN (T.drop (j + 1)) (16 * acc + d)) := Lib.hid ⟨by omega, by omega, hdec⟩
                  have hb1 : 16 * a + (d : Int) < 4294967296 := by omega
                  clear hxv hxb hdec hacc ha h7 hp
                  go_wp2_with (go_at_call 190; refine (hx _).mono ?_; rintro e w1 ⟨rfl, rfl⟩)
                  go_round
                  case rel => exact ⟨j + 1, 16 * acc + d, 16 * a + (d : Int), rfl, by go_num, by omega, by omega, by omega, HN⟩
                  case measure => simp [intOf]; omega
              · have hjj : j = 8 := by omega
                subst hjj
                rw [List.drop_eq_nil_of_le (by rw [HTl.out]; exact Nat.le_refl _), hexN] at hdec
                subst ha
                have his := fun W => refIs (acc : Int) W
                have hb8 : acc < 4294967296 := by omega
                cases hq : isB (acc : Int)
                · rw [hq] at his
                  have Hes : Hid (escR false (from_ s k) = (0, 0)) := by show _ = _; rw [Hes3.out, Hnum.out, hdec, Option.bind_some, hq]; rfl
                  clear hdec hacc hq
                  go_wp2_with (go_at_call 162; refine (his _).mono ?_; rintro e w1 ⟨rfl, rfl⟩)
                  go_ret2
                  exact ⟨by rw [Hes.out]; rfl, Below.refl _ _⟩
                · rw [hq] at his
                  have Hes : Hid (escR false (from_ s k) = (acc, 10)) := by show _ = _; rw [Hes3.out, Hnum.out, hdec, Option.bind_some, hq]; rfl
                  clear hdec hacc hq
                  go_wp2_with (go_at_call 162; refine (his _).mono ?_; rintro e w1 ⟨rfl, rfl⟩)
                  go_ret2
                  exact ⟨by rw [Hes.out]; rfl, Below.refl _ _⟩
          · have hd2 : decide ((s.size : Int) < (k : Int) + 2 + 8) = true := by simp; omega
            have Hes : Hid (escR false (from_ s k) = (0, 0)) := by
              show _ = _
              rw [Hes3.out]
              unfold numL; rw [if_pos (by rw [List.length_drop]; omega)]; rfl
            clear hlen hfl
            go_wp2
            go_ret2
            exact ⟨by rw [Hes.out]; rfl, Below.refl _ _⟩
        · have Hes : Hid (escR false (from_ s k) = (0, 0)) := by
            show _ = _
            rw [hes]; unfold escL
            rw [if_neg (by rw [Hb1.out]; exact h117), if_neg (by rw [Hb1.out]; exact h85)]
            first
              | rfl
              | (rw [if_pos rfl, Hb1.out, Hno.out rfl]; rfl)
          have e117 : ((c : Int) == 117) = false := by simp; omega
          have e85 : ((c : Int) == 85) = false := by simp; omega
          clear h117 h85 hes
          go_wp2
          go_ret2
          exact ⟨by rw [Hes.out]; rfl, Below.refl _ _⟩
    · subst hlit
      go_enter Tryz.func164, Tryz.ntmps164
      go_wp2
      go_loopw [10] (fun i wr => ∃ j : Nat, j ≤ 8 ∧ i = .int .i64 j ∧ Below w.heap.size w wr ∧ Hid (∀ i, i < j → bn fromB i ≠ c)) (fun i _ => 8 - (intOf i).toNat)
      case atStart => exact ⟨0, by omega, rfl, Below.refl _ _, fun i hi => by omega⟩
      case round =>
        obtain ⟨j, hj, rfl, hB, Hne⟩ := hrel
        have HB := Lib.hid hB
        clear hB
        by_cases hlt : j < 8
        · have hbe : bn ⟨#[116, 98, 110, 114, 102, 34, 39, 92]⟩ j = bn fromB j := rfl
          have hbt : bn ⟨#[9, 8, 10, 13, 12, 34, 39, 92]⟩ j = bn toB j := rfl
          have hef := esc_from ⟨j, hlt⟩
          have hfl2 := bn_lt fromB j
          simp only at hef
          obtain ⟨f, hf⟩ : ∃ f, bn fromB j = f := ⟨_, rfl⟩
          obtain ⟨g, hg⟩ : ∃ g, bn toB j = g := ⟨_, rfl⟩
          rw [hf] at hbe hef hfl2
          rw [hg] at hbt hef
          obtain ⟨hef1, hef2⟩ := hef
          have Hef := Lib.hid hef1
          have Hf := Lib.hid hf
          clear hef1 hf hg
          by_cases hcf : c = f
          · have h1 : ((c : Int) == (f : Int)) = true := by simp; omega
            have h2 : (c == f) = true := by simp [hcf]
            have Hes : Hid (escR true (from_ s k) = (g, 2)) := by
              show _ = _
              rw [hes]; unfold escL
              have := Hef.out
              rw [← hcf] at this
              have n1 : c ≠ 117 := fun h => by rw [h] at this; cases this
              have n2 : c ≠ 85 := fun h => by rw [h] at this; cases this
              rw [if_neg (by rw [Hb1.out]; exact n1), if_neg (by rw [Hb1.out]; exact n2), if_pos rfl, Hb1.out, this]; rfl
            clear hcf hes hfl
            go_wp2
            go_quiet (fail)
            go_wp2
            go_ret2
            exact ⟨by rw [Hes.out]; rfl, HB.out.os, HB.out.tape, HB.out.output, HB.out.size, HB.out.block⟩
          · have h1 : ((c : Int) == (f : Int)) = false := by simp; omega
            have h2 : (c == f) = false := by simp [hcf]
            have HN : Hid (∀ i, i < j + 1 → bn fromB i ≠ c) := fun i hi => by
              rcases Nat.lt_or_ge i j with h | h
              · exact Hne.out i h
              · obtain rfl : i = j := by omega
                rw [Hf.out]; exact fun e => hcf e.symm
            clear hcf
            go_wp2
            go_quiet (fail)
            go_wp2
            go_roundw
            case rel => exact ⟨j + 1, by omega, by go_num, ⟨HB.out.os, HB.out.tape, HB.out.output, HB.out.size, HB.out.block⟩, HN⟩
            case measure => simp [intOf]; omega
        · obtain rfl : j = 8 := by omega
          have Hno : Hid (true = true → escOf c = none) := fun _ => esc_none Hne.out
          clear Hne hlt
          go_upto_region 11 with (fail)
          by_cases h117 : c = 117
          · subst h117
            have hes2 : escL true (from_ s k) = optP 6 (numL 4 ((from_ s k).drop 2)) := by unfold escL; rw [if_pos Hb1.out]
            have e117 : ((117 : Nat) : Int) = 117 := rfl
            have hes3 := hes.trans hes2
            have Hes3 := Lib.hid hes3
            clear hes hes2 hes3
            by_cases hlen : k + 2 + 4 ≤ s.size
            · have hd2 : decide ((s.size : Int) < (k : Int) + 2 + 4) = false := by simp; omega
              obtain ⟨T, hT⟩ : ∃ T, ((from_ s k).drop 2).take 4 = T := ⟨_, rfl⟩
              have hnum : numL 4 ((from_ s k).drop 2) = (hexN T 0).bind fun n => if isB n then some n else none := by
                unfold numL; rw [if_neg (by rw [List.length_drop]; omega), hT]
              have Hnum := Lib.hid hnum
              have hTl : T.length = 4 := by rw [← hT, List.length_take, List.length_drop]; omega
              have hTg : ∀ j, j < 4 → (T.getD j 0).toNat = bn s (k + 2 + j) := fun j hj => by
                rw [← hT, take_getD _ _ _ hj, getD_drop, bn_from, Nat.add_assoc]
              clear hT hnum hfl
              have HTl := Lib.hid hTl
              have HTg := Lib.hid hTg
              clear hTl hTg
              go_wp2
              go_loop [12, 13] (fun n i => ∃ (j acc : Nat) (a : Int), n = .int .i64 a ∧ i = .int .i64 j ∧ j ≤ 4 ∧ 0 ≤ a ∧ a < 4294967296 ∧ Hid (a = (acc : Int) ∧ acc < 16 ^ j ∧ hexN T 0 = hexN (T.drop j) acc)) (fun _ i => 4 - (intOf i).toNat)
              case atStart => exact ⟨0, 0, 0, rfl, rfl, by omega, by omega, by omega, rfl, by decide, by rw [List.drop_zero]⟩
              case round =>
                obtain ⟨j, acc, a, rfl, rfl, hj, ha0, ha1, hh⟩ := hrel
                obtain ⟨ha, hacc, hdec⟩ := hh.out
                clear hh
                by_cases hlt : j < 4
                · have h7 : 16 ^ j ≤ 268435456 := Nat.pow_le_pow_right (by decide : 0 < 16) (by omega : j ≤ 7)
                  have hp : 16 ^ (j + 1) = 16 ^ j * 16 := Nat.pow_succ _ _
                  have hd3 : decide ((j : Int) < 4) = true := by simp; omega
                  have hdr : T.drop j = T.getD j 0 :: T.drop (j + 1) := by
                    rw [List.drop_eq_getElem_cons (by rw [HTl.out]; exact hlt)]
                    rw [List.getD_eq_getElem?_getD, List.getElem?_eq_getElem (by rw [HTl.out]; exact hlt)]; rfl
                  rw [hdr, hexN, HTg.out j hlt] at hdec
                  have hc2 := bn_lt s (k + 2 + j)
                  have hx := fun W => refHex (bn s (k + 2 + j)) hc2 W
                  have hk3 : k + 2 + j < s.size := by omega
                  clear hdr
                  cases hxb : hexB (bn s (k + 2 + j)) with
                  | none =>
                    have hxv : hexV (bn s (k + 2 + j)) = -1 := by unfold hexV; rw [hxb]
                    rw [hxv] at hx
                    rw [hxb, Option.bind_none] at hdec
                    have Hes : Hid (escR true (from_ s k) = (0, 0)) := by show _ = _; rw [Hes3.out, Hnum.out, hdec]; rfl
                    clear hxv hxb hdec hacc ha h7 hp
                    go_wp2_with (go_at_call 190; refine (hx _).mono ?_; rintro e w1 ⟨rfl, rfl⟩)
                    go_ret2
                    exact ⟨by rw [Hes.out]; rfl, HB.out⟩
                  | some d =>
                    have hxv : hexV (bn s (k + 2 + j)) = (d : Int) := by unfold hexV; rw [hxb]
                    have hd16 := (hexB_lt hxb).1
                    rw [hxv] at hx
                    rw [hxb, Option.bind_some] at hdec
                    have HN : Hid (16 * a + (d : Int) = ((16 * acc + d : Nat) : Int) ∧ 16 * acc + d < 16 ^ (j + 1) ∧ hexN T 0 = hexN (T.drop (j + 1)) (16 * acc + d)) := Lib.hid ⟨by omega, by omega, hdec⟩
                    have hb1 : 16 * a + (d : Int) < 4294967296 := by omega
                    clear hxv hxb hdec hacc ha h7 hp
                    go_wp2_with (go_at_call 190; refine (hx _).mono ?_; rintro e w1 ⟨rfl, rfl⟩)
                    go_round
                    case rel => exact ⟨j + 1, 16 * acc + d, 16 * a + (d : Int), rfl, by go_num, by omega, by omega, by omega, HN⟩
                    case measure => simp [intOf]; omega
                · have hjj : j = 4 := by omega
                  subst hjj
                  rw [List.drop_eq_nil_of_le (by rw [HTl.out]; exact Nat.le_refl _), hexN] at hdec
                  subst ha
                  have his := fun W => refIs (acc : Int) W
                  have hb8 : acc < 4294967296 := by omega
                  cases hq : isB (acc : Int)
                  · rw [hq] at his
                    have Hes : Hid (escR true (from_ s k) = (0, 0)) := by show _ = _; rw [Hes3.out, Hnum.out, hdec, Option.bind_some, hq]; rfl
                    clear hdec hacc hq
                    go_wp2_with (go_at_call 162; refine (his _).mono ?_; rintro e w1 ⟨rfl, rfl⟩)
                    go_ret2
                    exact ⟨by rw [Hes.out]; rfl, HB.out⟩
                  · rw [hq] at his
                    have Hes : Hid (escR true (from_ s k) = (acc, 6)) := by show _ = _; rw [Hes3.out, Hnum.out, hdec, Option.bind_some, hq]; rfl
                    clear hdec hacc hq
                    go_wp2_with (go_at_call 162; refine (his _).mono ?_; rintro e w1 ⟨rfl, rfl⟩)
                    go_ret2
                    exact ⟨by rw [Hes.out]; rfl, HB.out⟩
            · have hd2 : decide ((s.size : Int) < (k : Int) + 2 + 4) = true := by simp; omega
              have Hes : Hid (escR true (from_ s k) = (0, 0)) := by
                show _ = _
                rw [Hes3.out]
                unfold numL; rw [if_pos (by rw [List.length_drop]; omega)]; rfl
              clear hlen hfl
              go_wp2
              go_ret2
              exact ⟨by rw [Hes.out]; rfl, HB.out⟩
          · by_cases h85 : c = 85
            · subst h85
              have hes2 : escL true (from_ s k) = optP 10 (numL 8 ((from_ s k).drop 2)) := by unfold escL; rw [if_neg (by rw [Hb1.out]; decide), if_pos Hb1.out]
              have hes3 := hes.trans hes2
              have Hes3 := Lib.hid hes3
              clear hes hes2 hes3
              by_cases hlen : k + 2 + 8 ≤ s.size
              · have hd2 : decide ((s.size : Int) < (k : Int) + 2 + 8) = false := by simp; omega
                obtain ⟨T, hT⟩ : ∃ T, ((from_ s k).drop 2).take 8 = T := ⟨_, rfl⟩
                have hnum : numL 8 ((from_ s k).drop 2) = (hexN T 0).bind fun n => if isB n then some n else none := by
                  unfold numL; rw [if_neg (by rw [List.length_drop]; omega), hT]
                have Hnum := Lib.hid hnum
                have hTl : T.length = 8 := by rw [← hT, List.length_take, List.length_drop]; omega
                have hTg : ∀ j, j < 8 → (T.getD j 0).toNat = bn s (k + 2 + j) := fun j hj => by
                  rw [← hT, take_getD _ _ _ hj, getD_drop, bn_from, Nat.add_assoc]
                clear hT hnum hfl
                have HTl := Lib.hid hTl
                have HTg := Lib.hid hTg
                clear hTl hTg
                go_wp2
                go_loop [12, 13] (fun n i => ∃ (j acc : Nat) (a : Int), n = .int .i64 a ∧ i = .int .i64 j ∧ j ≤ 8 ∧ 0 ≤ a ∧ a < 4294967296 ∧ Hid (a = (acc : Int) ∧ acc < 16 ^ j ∧ hexN T 0 = hexN (T.drop j) acc)) (fun _ i => 8 - (intOf i).toNat)
                case atStart => exact ⟨0, 0, 0, rfl, rfl, by omega, by omega, by omega, rfl, by decide, by rw [List.drop_zero]⟩
                case round =>
                  obtain ⟨j, acc, a, rfl, rfl, hj, ha0, ha1, hh⟩ := hrel
                  obtain ⟨ha, hacc, hdec⟩ := hh.out
                  clear hh
                  by_cases hlt : j < 8
                  · have h7 : 16 ^ j ≤ 268435456 := Nat.pow_le_pow_right (by decide : 0 < 16) (by omega : j ≤ 7)
                    have hp : 16 ^ (j + 1) = 16 ^ j * 16 := Nat.pow_succ _ _
                    have hd3 : decide ((j : Int) < 8) = true := by simp; omega
                    have hdr : T.drop j = T.getD j 0 :: T.drop (j + 1) := by
                      rw [List.drop_eq_getElem_cons (by rw [HTl.out]; exact hlt)]
                      rw [List.getD_eq_getElem?_getD, List.getElem?_eq_getElem (by rw [HTl.out]; exact hlt)]; rfl
                    rw [hdr, hexN, HTg.out j hlt] at hdec
                    have hc2 := bn_lt s (k + 2 + j)
                    have hx := fun W => refHex (bn s (k + 2 + j)) hc2 W
                    have hk3 : k + 2 + j < s.size := by omega
                    clear hdr
                    cases hxb : hexB (bn s (k + 2 + j)) with
                    | none =>
                      have hxv : hexV (bn s (k + 2 + j)) = -1 := by unfold hexV; rw [hxb]
                      rw [hxv] at hx
                      rw [hxb, Option.bind_none] at hdec
                      have Hes : Hid (escR true (from_ s k) = (0, 0)) := by show _ = _; rw [Hes3.out, Hnum.out, hdec]; rfl
                      clear hxv hxb hdec hacc ha h7 hp
                      go_wp2_with (go_at_call 190; refine (hx _).mono ?_; rintro e w1 ⟨rfl, rfl⟩)
                      go_ret2
                      exact ⟨by rw [Hes.out]; rfl, HB.out⟩
                    | some d =>
                      have hxv : hexV (bn s (k + 2 + j)) = (d : Int) := by unfold hexV; rw [hxb]
                      have hd16 := (hexB_lt hxb).1
                      rw [hxv] at hx
                      rw [hxb, Option.bind_some] at hdec
                      have HN : Hid (16 * a + (d : Int) = ((16 * acc + d : Nat) : Int) ∧ 16 * acc + d < 16 ^ (j + 1) ∧ hexN T 0 = hexN (T.drop (j + 1)) (16 * acc + d)) := Lib.hid ⟨by omega, by omega, hdec⟩
                      have hb1 : 16 * a + (d : Int) < 4294967296 := by omega
                      clear hxv hxb hdec hacc ha h7 hp
                      go_wp2_with (go_at_call 190; refine (hx _).mono ?_; rintro e w1 ⟨rfl, rfl⟩)
                      go_round
                      case rel => exact ⟨j + 1, 16 * acc + d, 16 * a + (d : Int), rfl, by go_num, by omega, by omega, by omega, HN⟩
                      case measure => simp [intOf]; omega
                  · have hjj : j = 8 := by omega
                    subst hjj
                    rw [List.drop_eq_nil_of_le (by rw [HTl.out]; exact Nat.le_refl _), hexN] at hdec
                    subst ha
                    have his := fun W => refIs (acc : Int) W
                    have hb8 : acc < 4294967296 := by omega
                    cases hq : isB (acc : Int)
                    · rw [hq] at his
                      have Hes : Hid (escR true (from_ s k) = (0, 0)) := by show _ = _; rw [Hes3.out, Hnum.out, hdec, Option.bind_some, hq]; rfl
                      clear hdec hacc hq
                      go_wp2_with (go_at_call 162; refine (his _).mono ?_; rintro e w1 ⟨rfl, rfl⟩)
                      go_ret2
                      exact ⟨by rw [Hes.out]; rfl, HB.out⟩
                    · rw [hq] at his
                      have Hes : Hid (escR true (from_ s k) = (acc, 10)) := by show _ = _; rw [Hes3.out, Hnum.out, hdec, Option.bind_some, hq]; rfl
                      clear hdec hacc hq
                      go_wp2_with (go_at_call 162; refine (his _).mono ?_; rintro e w1 ⟨rfl, rfl⟩)
                      go_ret2
                      exact ⟨by rw [Hes.out]; rfl, HB.out⟩
              · have hd2 : decide ((s.size : Int) < (k : Int) + 2 + 8) = true := by simp; omega
                have Hes : Hid (escR true (from_ s k) = (0, 0)) := by
                  show _ = _
                  rw [Hes3.out]
                  unfold numL; rw [if_pos (by rw [List.length_drop]; omega)]; rfl
                clear hlen hfl
                go_wp2
                go_ret2
                exact ⟨by rw [Hes.out]; rfl, HB.out⟩
            · have Hes : Hid (escR true (from_ s k) = (0, 0)) := by
                show _ = _
                rw [hes]; unfold escL
                rw [if_neg (by rw [Hb1.out]; exact h117), if_neg (by rw [Hb1.out]; exact h85)]
                first
                  | rfl
                  | (rw [if_pos rfl, Hb1.out, Hno.out rfl]; rfl)
              have e117 : ((c : Int) == 117) = false := by simp; omega
              have e85 : ((c : Int) == 85) = false := by simp; omega
              clear h117 h85 hes
              go_wp2
              go_ret2
              exact ⟨by rw [Hes.out]; rfl, HB.out⟩
  · have hn : ((bn s k : Int) != 92) = true := by simp; omega
    have Hes : Hid (escR lit (from_ s k) = (0, 0)) := by show _ = _; unfold escR; rw [if_neg (by rw [hb0]; exact h92)]
    clear hb0 hb1 hk1 h92
    go_enter Tryz.func164, Tryz.ntmps164
    go_wp2
    go_ret2
    exact ⟨by rw [Hes.out]; rfl, Below.refl _ _⟩
end Go.Proofs.YtffpgandgajihaaGreatDoor
