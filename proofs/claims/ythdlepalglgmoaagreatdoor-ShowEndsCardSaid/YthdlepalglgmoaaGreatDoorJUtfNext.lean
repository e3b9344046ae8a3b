/- Words of lines: where a text is not valid behind a valid one. The program's package lex, walked: what a reader is; rest, eat, put. The program's package lex, walked: put. strconv.ParseUint at base 16, of at most eight digits. The program's package lex, walked: number. The reference's functions of layer 7, walked. The reference's Next: the sign that begins a text at a place. -/
import Derived.Test.YthdlepalglgmoaaGreatDoorJLexMath3
import Derived.Test.YthdlepalglgmoaaGreatDoorJUtfProg5
import Derived.Test.YthdlepalglgmoaaGreatDoorJMem
import Derived.Lib.ConvBytes
import Derived.Lib.AtoiAllMem
import Derived.Lib.Walk
import Derived.Laws.Closers25
import Derived.Laws.Closers25b
import Derived.BigCall
import Derived.BigGuard
import Derived.Lib.AtoiErrMem
import Derived.Test.YthdlepalglgmoaaGreatDoorJRegion
import Derived.Test.YthdlepalglgmoaaGreatDoorJUtfProg3
namespace Go.Proofs.YthdlepalglgmoaaGreatDoor
namespace Lx
open Go Go.Lib Um
theorem sgn_right (b : List UInt8) : ∀ a : List UInt8, vld a → (sgn (a ++ b)).2 = (a.length + (sgn b).2.1, (sgn b).2.2) := by
  refine sgn_ind ?_ ?_ ?_
  · intro _; simp
  · intro l h h0 hv; exact absurd h0 (vld_nx hv h).1
  · intro l h h0 ih hv
    have h1 := (nx_isB h0).2.1
    rw [sgn_cons (l ++ b) (by rw [List.length_append]; omega) (by rw [nx_app b h0]; exact h0), nx_app b h0, drop_app h1]
    have h2 := ih (vld_nx hv h).2
    have h3 : (nx l).2 + (sgn (l.drop (nx l).2 ++ b)).2.1 = l.length + (sgn b).2.1 := by
      rw [h2, List.length_drop]; omega
    rw [h3, h2]
/-- What a line says of a text behind blanks behind another. -/
theorem line_right {a b : List UInt8} (ha : vld a) (hb : (sgn b).2.2 = false) : lineL (a ++ b) = ([], a.length + (sgn b).2.1, 11) := by
  unfold lineL
  rw [sgn_right b a ha, hb]; rfl
end Lx
end Go.Proofs.YthdlepalglgmoaaGreatDoor
namespace Go.Proofs.YthdlepalglgmoaaGreatDoor
open Go Go.RowKit Um

end Go.Proofs.YthdlepalglgmoaaGreatDoor
namespace Go.Proofs.YthdlepalglgmoaaGreatDoor
open Go Go.RowKit Um

end Go.Proofs.YthdlepalglgmoaaGreatDoor
namespace Go.Proofs.YthdlepalglgmoaaGreatDoor
open Go Go.RowKit Um Lx

end Go.Proofs.YthdlepalglgmoaaGreatDoor
namespace Go.Proofs.YthdlepalglgmoaaGreatDoor
open Go Go.RowKit Um Lx

end Go.Proofs.YthdlepalglgmoaaGreatDoor
namespace Go.Proofs.YthdlepalglgmoaaGreatDoor
open Go Go.RowKit Um

theorem refIs (n : Int) (w : World) :
    Calls Tryz.prog 120 #[.int .i64 n] w fun e w' => e = .returned (.bool (isB n)) ∧ w = w' := by
  go_enter Tryz.func120, Tryz.ntmps120
  go_wp2
  all_goals
    go_ret
    refine ⟨?_, rfl⟩
    simp [isB, *]
  all_goals omega

theorem refIn (n : Int) (l : List Int) (A : Option Addr) (c : Nat) (w : World) (hl : l.length ≤ 1000000) (hc : Rd w A (l.map (Value.int .i64))) :
    Calls Tryz.prog 85 #[.int .i64 n, .slice A l.length c] w fun e w' => e = .returned (.bool (inB n l)) ∧ w = w' := by
  go_enter Tryz.func85, Tryz.ntmps85
  go_wp2
  go_loop [5] (fun i => ∃ k : Nat, k ≤ l.length + 1 ∧ i = .int .i64 k ∧ Hid (inB n (l.drop k) = inB n l)) (fun i => l.length + 2 - (intOf i).toNat)
  case atStart => exact ⟨0, by omega, rfl, rfl⟩
  case round =>
    obtain ⟨k, hk, rfl, H⟩ := hrel
    by_cases hlt : k + 1 < l.length
    · obtain ⟨x, hx⟩ : ∃ x, l[k]? = some x := ⟨_, List.getElem?_eq_getElem (by omega)⟩
      obtain ⟨y, hy⟩ : ∃ x, l[k+1]? = some x := ⟨_, List.getElem?_eq_getElem (by omega)⟩
      have hd := inB_drop n x y l k hx hy
      rw [H.out] at hd
      have Hd := Lib.hid hd
      clear hd H
      obtain ⟨g, o, rfl, hcc⟩ := hc.resolve_left (by intro h; simp at h; subst h; simp at hx)
      have h0 := hcc k (.int .i64 x) (by simp [hx])
      have h1 := hcc (k+1) (.int .i64 y) (by simp [hy])
      clear hx hy hc hcc
      go_wp2
      · go_ret
        exact ⟨by rw [Hd.out]; simp [*], rfl⟩
      · go_round
        case rel => exact ⟨k+2, by omega, by go_num, by show _ = _; rw [Hd.out]; simp; omega⟩
        case measure => simp [intOf]; omega
      · go_round
        case rel => exact ⟨k+2, by omega, by go_num, by show _ = _; rw [Hd.out]; simp; omega⟩
        case measure => simp [intOf]; omega
    · have he := inB_end n l k hlt
      rw [H.out] at he
      have Hd := Lib.hid he
      clear he H
      go_wp2
      go_ret
      exact ⟨by rw [Hd.out]; rfl, rfl⟩

theorem refFirst (n : Int) (w : World) :
    Calls Tryz.prog 84 #[.int .i64 n] w fun e w' => e = .returned (.bool (firstB n)) ∧ Below w.heap.size w w' := by
  have hin := fun W hW => refIn n firstL (some ⟨w.heap.size, 0, none⟩) 28 W (by decide) hW
  go_enter Tryz.func84, Tryz.ntmps84
  go_wp2_with (go_at_call 85; refine (hin _ ?_).mono ?_; exact Rd.of_block (heap_alloc_new w _) rfl; rintro e w' ⟨rfl, rfl⟩)
  go_ret
  exact ⟨rfl, (Below.refl _ _).alloc (Nat.le_refl _) _⟩

theorem refLetter (n : Int) (w : World) :
    Calls Tryz.prog 86 #[.int .i64 n] w fun e w' => e = .returned (.bool (letterB n)) ∧ Below w.heap.size w w' := by
  have hf := refFirst n w
  have hin := fun (W : World) (g : Nat) hW => refIn n letterL (some ⟨g, 0, none⟩) 14 W (by decide) hW
  unfold letterB
  generalize firstB n = b at hf
  go_enter Tryz.func86, Tryz.ntmps86
  cases b
  · go_wp2_with (first
      | (go_at_call 84; refine hf.mono ?_; rintro e w1 ⟨rfl, hb⟩)
      | (go_at_call 85; refine (hin _ _ ?_).mono ?_; exact Rd.of_block (heap_alloc_new w1 _) rfl; rintro e w' ⟨rfl, rfl⟩))
    go_ret
    exact ⟨by simp, hb.alloc hb.size _⟩
  · go_wp2_with (first
      | (go_at_call 84; refine hf.mono ?_; rintro e w1 ⟨rfl, hb⟩))
    go_ret
    exact ⟨by simp, hb⟩

/-- The bytes of a sign, in a block of their own. -/
theorem refBytes (n : Int) (w : World) (hn : isB n = true) :
    Calls Tryz.prog 121 #[.int .i64 n] w fun e w' => e = .returned (.slice (some ⟨w.heap.size, 0, none⟩) (Lib.runeCells n).length (Lib.runeCells n).length) ∧
      w' = w.alloc (.cells (Lib.runeCells n).toArray 5) := by
  rw [isB_iff] at hn
  obtain ⟨⟨h0, h9⟩, hs⟩ := hn
  by_cases c1 : n ≤ 127
  · have e := Lib.encodeRuneZ_one h0 c1
    unfold Lib.runeCells
    rw [e]
    clear e hs
    go_enter Tryz.func121, Tryz.ntmps121
    go_wp2
    go_ret
    exact ⟨rfl, rfl⟩
  · by_cases c2 : n ≤ 2047
    · have e := Lib.encodeRuneZ_two (by omega : 128 ≤ n) c2
      unfold Lib.runeCells
      rw [e]
      clear e hs
      go_enter Tryz.func121, Tryz.ntmps121
      go_wp2
      go_ret
      exact ⟨rfl, rfl⟩
    · by_cases c3 : n ≤ 65535
      · have e := Lib.encodeRuneZ_three (r := n) (by omega)
        unfold Lib.runeCells
        rw [e]
        clear e hs
        go_enter Tryz.func121, Tryz.ntmps121
        go_wp2
        go_ret
        exact ⟨rfl, rfl⟩
      · have e := Lib.encodeRuneZ_four (r := n) (by omega) (by omega)
        unfold Lib.runeCells
        rw [e]
        clear e hs
        go_enter Tryz.func121, Tryz.ntmps121
        go_wp2
        go_ret
        exact ⟨rfl, rfl⟩
def encS (n : Int) : ByteArray := ⟨(Lib.encodeRune n).toArray⟩
theorem encS_toList (n : Int) : (encS n).toList = Lib.encodeRune n := by unfold encS; rw [ByteArray.toList_mk]

theorem refBytesStr (n : Int) (w : World) (hn : isB n = true) :
    Calls Tryz.prog 121 #[.int .i64 n] w fun e w' => ∃ g, e = .returned (.slice (some ⟨g, 0, none⟩) (Lib.runeCells n).length (Lib.runeCells n).length) ∧
      Below w.heap.size w w' ∧ (∀ W, Below w'.heap.size w' W → (convert 33 9 (.slice (some ⟨g, 0, none⟩) (Lib.runeCells n).length (Lib.runeCells n).length)).run Tryz.prog W = .ok (.string (encS n)) W) := by
  refine (refBytes n w hn).mono ?_
  rintro e w' ⟨rfl, rfl⟩
  refine ⟨_, rfl, (Below.refl _ _).alloc (Nat.le_refl _) _, ?_⟩
  intro W hW
  have := run_convert_bytes_arg (P := Tryz.prog) W 33 5 Tryz.underlying33 Tryz.underlying5 w.heap.size 0
    (Lib.runeCells n).length (Lib.runeCells n).length (Lib.encodeRuneZ n) (by simp [Lib.runeCells]) ?_ 9 Tryz.underlying9
  · rw [this]
    congr 2
  · intro i hi
    have hb : (w.alloc (.cells (Lib.runeCells n).toArray 5)).heap[w.heap.size]? = some (.cells (Lib.runeCells n).toArray 5) := heap_alloc_new w _
    rw [← hW.block w.heap.size (by simp)] at hb
    simp only [World.cell?, hb, Nat.zero_add]
    simp [Lib.runeCells] at hi ⊢
    simp [hi]

theorem cand_bn (s : ByteArray) (k : Nat) :
    cand (from_ s k) 1 = bn s k ∧ cand (from_ s k) 2 = 64 * (bn s k - 192) + bn s (k+1) - 128 ∧
    cand (from_ s k) 3 = 64 * (64 * (bn s k - 224) + bn s (k+1) - 128) + bn s (k+2) - 128 ∧
    cand (from_ s k) 4 = 64 * (64 * (64 * (bn s k - 240) + bn s (k+1) - 128) + bn s (k+2) - 128) + bn s (k+3) - 128 := by
  simp only [cand, from_, bn_drop, Nat.add_zero, and_self]

/-- A candidate is right just if nx says so. -/
theorem cand_yes (l : List UInt8) (k : Nat) (_h1 : 1 ≤ k) (hk : k ≤ l.length) (h : isB (cand l k) = true ∧ l.take k = Lib.encodeRune (cand l k)) : nx l = ((cand l k).toNat, k) :=
  nx_of_enc _ l h.1 k h.2 hk
theorem cand_no (l : List UInt8) (k : Nat) (h1 : 1 ≤ k) (h : ¬ (isB (cand l k) = true ∧ l.take k = Lib.encodeRune (cand l k))) : (nx l).2 ≠ k := by
  intro e
  apply h
  have := nx_enc l (by omega)
  rw [e] at this
  rw [this.2.2.2.1]
  exact ⟨this.1, this.2.2.1⟩
end Go.Proofs.YthdlepalglgmoaaGreatDoor
namespace Go.Proofs.YthdlepalglgmoaaGreatDoor
open Go Go.RowKit Um

theorem ext_take (s : ByteArray) (k L : Nat) : (s.extract k (k + L)).toList = (from_ s k).take L := by
  rw [ByteArray.toList_eq, extract_toList, Nat.add_sub_cancel_left]

theorem next_yes (s : ByteArray) (k L : Nat) (hL : 1 ≤ L) (hk : k + L ≤ s.size) (hb : isB (cand (from_ s k) L) = true)
    (he : ((encS (cand (from_ s k) L)).toList == (s.extract k (k + L)).toList) = true) : nx (from_ s k) = ((cand (from_ s k) L).toNat, L) := by
  refine cand_yes _ L hL (by rw [from_length]; omega) ⟨hb, ?_⟩
  rw [beq_iff_eq, encS_toList, ext_take] at he
  exact he.symm

theorem next_no (s : ByteArray) (k L : Nat) (hL : 1 ≤ L) (h : isB (cand (from_ s k) L) = false ∨ ((encS (cand (from_ s k) L)).toList == (s.extract k (k + L)).toList) = false) : (nx (from_ s k)).2 ≠ L := by
  refine cand_no _ L hL fun ⟨h1, h2⟩ => ?_
  rcases h with h | h
  · rw [h1] at h; cases h
  · rw [beq_eq_false_iff_ne, encS_toList, ext_take] at h
    exact h h2.symm


set_option maxHeartbeats 4000000 in
theorem refNext (s : ByteArray) (k : Nat) (w : World) (hk : k < s.size) (hs : s.size ≤ 4611686018427387904) :
    Calls Tryz.prog 83 #[.string s, .int .i64 k] w fun e w' => e = .returned (.tuple #[.int .i64 (nx (from_ s k)).1, .int .i64 (nx (from_ s k)).2]) ∧ Below w.heap.size w w' := by
  obtain ⟨c1, c2, c3, c4⟩ := cand_bn s k
  have C1 := Lib.hid c1; have C2 := Lib.hid c2; have C3 := Lib.hid c3; have C4 := Lib.hid c4
  clear c1 c2 c3 c4
  have b0 := bn_lt s k; have b1 := bn_lt s (k+1); have b2 := bn_lt s (k+2); have b3 := bn_lt s (k+3)
  go_enter Tryz.func83, Tryz.ntmps83
  go_wp2
  go_loopw [6] (fun i wr => ∃ L : Nat, 1 ≤ L ∧ L ≤ 5 ∧ i = .int .i64 L ∧ Below w.heap.size w wr ∧ Hid (∀ j, 1 ≤ j → j < L → (nx (from_ s k)).2 ≠ j)) (fun i _ => 5 - (intOf i).toNat)
  case atStart => exact ⟨1, by omega, by omega, rfl, Below.refl _ _, fun j _ _ => by omega⟩
  case round =>
    obtain ⟨L, hL1, hL5, rfl, hB, H⟩ := hrel
    by_cases hlt : L ≤ 4 ∧ k + L ≤ s.size
    · obtain ⟨hL4, hkL⟩ := hlt
      rcases (by omega : L = 1 ∨ L = 2 ∨ L = 3 ∨ L = 4) with rfl | rfl | rfl | rfl
      · go_wp2
        go_rounds 1
        have his := fun W => refIs (bn s k : Int) W
        have hby := fun W => refBytesStr (bn s k : Int) W
        have hyes := next_yes s k 1 hL1 hkL
        have hno := next_no s k 1 hL1
        rw [C1.out] at hyes hno
        have Hyes := Lib.hid hyes
        have Hno := Lib.hid hno
        clear hyes hno C1 C2 C3 C4
        have e1 : (k : Int) ≤ (k : Int) + 1 := by omega
        have e2 : (k : Int) + 1 ≤ (s.size : Int) := by omega
        by_cases hi : isB (bn s k : Int) = true
        · replace hby := fun W => hby W hi
          rw [hi] at his
          refine Rg.wp_region_plan [(true, [0]), (false, [1]), (true, [2,3,6,7,8,9,10,11]), (false, [4]), (false, [5]), (true, [12,13])] _ (by kernel_rfl) (by kernel_rfl)
            (by simp only [List.map_cons, List.map_nil, Rg.pickOps, List.getElem?_toArray, List.getElem?_cons_zero, List.getElem?_cons_succ, Option.getD_some]; rfl) (fun K hK => ?_)
          refine Rg.plan_quiet ?_
          go_big_quiet_step (fail)
          refine wpQuiet_nil (Rg.plan_chain ?_)
          intro W1 hW1
          go_wp2_with (go_at_call 120; refine (his _).mono ?_; rintro e w1 ⟨rfl, rfl⟩)
          refine ⟨Below.refl _ _, Rg.plan_quiet ?_⟩
          iterate 8 go_big_quiet_step (fail)
          refine wpQuiet_nil (Rg.plan_chain ?_)
          intro W2 hW2
          go_wp2_with (go_at_call 121; refine (hby _).mono ?_; rintro e w2 ⟨g, rfl, hb2, hcv⟩)
          refine ⟨hb2, Rg.plan_chain ?_⟩
          intro W3 hW3
          have hcv3 := hcv W3 hW3
          go_wp2_with fail
          refine ⟨Below.refl _ _, Rg.plan_quiet ?_⟩
          iterate 2 go_big_quiet_step (fail)
          refine wpQuiet_nil (Rg.plan_end ?_)
          intro W4 hW4
          refine hK _ _ ?_
          clear hK hcv hcv3 hby his
          have hall : Below w.heap.size w W4 := hB.trans ((Rg.tr hW1 (Rg.tr hW2 (Rg.tr hb2 (Rg.tr hW3 hW4)))).mono hB.size)
          go_wp2
          · have hq : ((encS (bn s k : Int)).toList == (s.extract k (k + 1)).toList) = true := by assumption
            go_ret2
            refine ⟨?_, hall⟩
            rw [Hyes.out hi hq]
            rw [isB_iff] at hi
            simp only [Int.toNat_of_nonneg hi.1.1]
            rfl
          · have hq : ((encS (bn s k : Int)).toList == (s.extract k (k + 1)).toList) = false := by assumption
            have hn := Hno.out (.inr hq)
            go_roundw
            case rel => exact ⟨1+1, by omega, by omega, by go_num, hall, fun j h1 h2 => by
              rcases Nat.lt_or_ge j 1 with h | h
              · exact H.out j h1 h
              · have : j = 1 := by omega
                subst this; exact hn⟩
            case measure => simp [intOf]
        · have hi : isB (bn s k : Int) = false := by simpa using hi
          rw [hi] at his
          have hn := Hno.out (.inl hi)
          refine Rg.wp_region_plan [(true, [0]), (false, [1]), (true, [2,3,6,7,8,9,10,11]), (false, [4]), (false, [5]), (true, [12,13])] _ (by kernel_rfl) (by kernel_rfl)
            (by simp only [List.map_cons, List.map_nil, Rg.pickOps, List.getElem?_toArray, List.getElem?_cons_zero, List.getElem?_cons_succ, Option.getD_some]; rfl) (fun K hK => ?_)
          refine Rg.plan_quiet ?_
          go_big_quiet_step (fail)
          refine wpQuiet_nil (Rg.plan_chain ?_)
          intro W1 hW1
          go_wp2_with (go_at_call 120; refine (his _).mono ?_; rintro e w1 ⟨rfl, rfl⟩)
          refine ⟨Below.refl _ _, Rg.plan_quiet ?_⟩
          iterate 8 go_big_quiet_step (fail)
          refine wpQuiet_nil (Rg.plan_chain ?_)
          intro W2 hW2
          go_wp2_with fail
          refine ⟨Below.refl _ _, Rg.plan_chain ?_⟩
          intro W3 hW3
          go_wp2_with fail
          refine ⟨Below.refl _ _, Rg.plan_quiet ?_⟩
          iterate 2 go_big_quiet_step (fail)
          refine wpQuiet_nil (Rg.plan_end ?_)
          intro W4 hW4
          refine hK _ _ ?_
          clear hK hby his
          have hall : Below w.heap.size w W4 := hB.trans ((Rg.tr hW1 (Rg.tr hW2 (Rg.tr hW3 hW4))).mono hB.size)
          go_wp2
          go_roundw
          case rel => exact ⟨1+1, by omega, by omega, by go_num, hall, fun j h1 h2 => by
            rcases Nat.lt_or_ge j 1 with h | h
            · exact H.out j h1 h
            · have : j = 1 := by omega
              subst this; exact hn⟩
          case measure => simp [intOf]
      · go_wp2
        go_rounds 2
        have his := fun W => refIs (64 * ((bn s k : Int) - 192) + (bn s (k+1) : Int) - 128) W
        have hby := fun W => refBytesStr (64 * ((bn s k : Int) - 192) + (bn s (k+1) : Int) - 128) W
        have hyes := next_yes s k 2 hL1 hkL
        have hno := next_no s k 2 hL1
        rw [C2.out] at hyes hno
        have Hyes := Lib.hid hyes
        have Hno := Lib.hid hno
        clear hyes hno C1 C2 C3 C4
        have e1 : (k : Int) ≤ (k : Int) + 2 := by omega
        have e2 : (k : Int) + 2 ≤ (s.size : Int) := by omega
        by_cases hi : isB (64 * ((bn s k : Int) - 192) + (bn s (k+1) : Int) - 128) = true
        · replace hby := fun W => hby W hi
          rw [hi] at his
          refine Rg.wp_region_plan [(true, [0]), (false, [1]), (true, [2,3,6,7,8,9,10,11]), (false, [4]), (false, [5]), (true, [12,13])] _ (by kernel_rfl) (by kernel_rfl)
            (by simp only [List.map_cons, List.map_nil, Rg.pickOps, List.getElem?_toArray, List.getElem?_cons_zero, List.getElem?_cons_succ, Option.getD_some]; rfl) (fun K hK => ?_)
          refine Rg.plan_quiet ?_
          go_big_quiet_step (fail)
          refine wpQuiet_nil (Rg.plan_chain ?_)
          intro W1 hW1
          go_wp2_with (go_at_call 120; refine (his _).mono ?_; rintro e w1 ⟨rfl, rfl⟩)
          refine ⟨Below.refl _ _, Rg.plan_quiet ?_⟩
          iterate 8 go_big_quiet_step (fail)
          refine wpQuiet_nil (Rg.plan_chain ?_)
          intro W2 hW2
          go_wp2_with (go_at_call 121; refine (hby _).mono ?_; rintro e w2 ⟨g, rfl, hb2, hcv⟩)
          refine ⟨hb2, Rg.plan_chain ?_⟩
          intro W3 hW3
          have hcv3 := hcv W3 hW3
          go_wp2_with fail
          refine ⟨Below.refl _ _, Rg.plan_quiet ?_⟩
          iterate 2 go_big_quiet_step (fail)
          refine wpQuiet_nil (Rg.plan_end ?_)
          intro W4 hW4
          refine hK _ _ ?_
          clear hK hcv hcv3 hby his
          have hall : Below w.heap.size w W4 := hB.trans ((Rg.tr hW1 (Rg.tr hW2 (Rg.tr hb2 (Rg.tr hW3 hW4)))).mono hB.size)
          go_wp2
          · have hq : ((encS (64 * ((bn s k : Int) - 192) + (bn s (k+1) : Int) - 128)).toList == (s.extract k (k + 2)).toList) = true := by assumption
            go_ret2
            refine ⟨?_, hall⟩
            rw [Hyes.out hi hq]
            rw [isB_iff] at hi
            simp only [Int.toNat_of_nonneg hi.1.1]
            rfl
          · have hq : ((encS (64 * ((bn s k : Int) - 192) + (bn s (k+1) : Int) - 128)).toList == (s.extract k (k + 2)).toList) = false := by assumption
            have hn := Hno.out (.inr hq)
            go_roundw
            case rel => exact ⟨2+1, by omega, by omega, by go_num, hall, fun j h1 h2 => by
              rcases Nat.lt_or_ge j 2 with h | h
              · exact H.out j h1 h
              · have : j = 2 := by omega
                subst this; exact hn⟩
            case measure => simp [intOf]
        · have hi : isB (64 * ((bn s k : Int) - 192) + (bn s (k+1) : Int) - 128) = false := by simpa using hi
          rw [hi] at his
          have hn := Hno.out (.inl hi)
          refine Rg.wp_region_plan [(true, [0]), (false, [1]), (true, [2,3,6,7,8,9,10,11]), (false, [4]), (false, [5]), (true, [12,13])] _ (by kernel_rfl) (by kernel_rfl)
            (by simp only [List.map_cons, List.map_nil, Rg.pickOps, List.getElem?_toArray, List.getElem?_cons_zero, List.getElem?_cons_succ, Option.getD_some]; rfl) (fun K hK => ?_)
          refine Rg.plan_quiet ?_
          go_big_quiet_step (fail)
          refine wpQuiet_nil (Rg.plan_chain ?_)
          intro W1 hW1
          go_wp2_with (go_at_call 120; refine (his _).mono ?_; rintro e w1 ⟨rfl, rfl⟩)
          refine ⟨Below.refl _ _, Rg.plan_quiet ?_⟩
          iterate 8 go_big_quiet_step (fail)
          refine wpQuiet_nil (Rg.plan_chain ?_)
          intro W2 hW2
          go_wp2_with fail
          refine ⟨Below.refl _ _, Rg.plan_chain ?_⟩
          intro W3 hW3
          go_wp2_with fail
          refine ⟨Below.refl _ _, Rg.plan_quiet ?_⟩
          iterate 2 go_big_quiet_step (fail)
          refine wpQuiet_nil (Rg.plan_end ?_)
          intro W4 hW4
          refine hK _ _ ?_
          clear hK hby his
          have hall : Below w.heap.size w W4 := hB.trans ((Rg.tr hW1 (Rg.tr hW2 (Rg.tr hW3 hW4))).mono hB.size)
          go_wp2
          go_roundw
          case rel => exact ⟨2+1, by omega, by omega, by go_num, hall, fun j h1 h2 => by
            rcases Nat.lt_or_ge j 2 with h | h
            · exact H.out j h1 h
            · have : j = 2 := by omega
              subst this; exact hn⟩
          case measure => simp [intOf]
      · go_wp2
        go_rounds 3
        have his := fun W => refIs (64 * (64 * ((bn s k : Int) - 224) + (bn s (k+1) : Int) - 128) + (bn s (k+2) : Int) - 128) W
        have hby := fun W => refBytesStr (64 * (64 * ((bn s k : Int) - 224) + (bn s (k+1) : Int) - 128) + (bn s (k+2) : Int) - 128) W
        have hyes := next_yes s k 3 hL1 hkL
        have hno := next_no s k 3 hL1
        rw [C3.out] at hyes hno
        have Hyes := Lib.hid hyes
        have Hno := Lib.hid hno
        clear hyes hno C1 C2 C3 C4
        have e1 : (k : Int) ≤ (k : Int) + 3 := by omega
        have e2 : (k : Int) + 3 ≤ (s.size : Int) := by omega
        by_cases hi : isB (64 * (64 * ((bn s k : Int) - 224) + (bn s (k+1) : Int) - 128) + (bn s (k+2) : Int) - 128) = true
        · replace hby := fun W => hby W hi
          rw [hi] at his
          refine Rg.wp_region_plan [(true, [0]), (false, [1]), (true, [2,3,6,7,8,9,10,11]), (false, [4]), (false, [5]), (true, [12,13])] _ (by kernel_rfl) (by kernel_rfl)
            (by simp only [List.map_cons, List.map_nil, Rg.pickOps, List.getElem?_toArray, List.getElem?_cons_zero, List.getElem?_cons_succ, Option.getD_some]; rfl) (fun K hK => ?_)
          refine Rg.plan_quiet ?_
          go_big_quiet_step (fail)
          refine wpQuiet_nil (Rg.plan_chain ?_)
          intro W1 hW1
          go_wp2_with (go_at_call 120; refine (his _).mono ?_; rintro e w1 ⟨rfl, rfl⟩)
          refine ⟨Below.refl _ _, Rg.plan_quiet ?_⟩
          iterate 8 go_big_quiet_step (fail)
          refine wpQuiet_nil (Rg.plan_chain ?_)
          intro W2 hW2
          go_wp2_with (go_at_call 121; refine (hby _).mono ?_; rintro e w2 ⟨g, rfl, hb2, hcv⟩)
          refine ⟨hb2, Rg.plan_chain ?_⟩
          intro W3 hW3
          have hcv3 := hcv W3 hW3
          go_wp2_with fail
          refine ⟨Below.refl _ _, Rg.plan_quiet ?_⟩
          iterate 2 go_big_quiet_step (fail)
          refine wpQuiet_nil (Rg.plan_end ?_)
          intro W4 hW4
          refine hK _ _ ?_
          clear hK hcv hcv3 hby his
          have hall : Below w.heap.size w W4 := hB.trans ((Rg.tr hW1 (Rg.tr hW2 (Rg.tr hb2 (Rg.tr hW3 hW4)))).mono hB.size)
          go_wp2
          · have hq : ((encS (64 * (64 * ((bn s k : Int) - 224) + (bn s (k+1) : Int) - 128) + (bn s (k+2) : Int) - 128)).toList == (s.extract k (k + 3)).toList) = true := by assumption
            go_ret2
            refine ⟨?_, hall⟩
            rw [Hyes.out hi hq]
            rw [isB_iff] at hi
            simp only [Int.toNat_of_nonneg hi.1.1]
            rfl
          · have hq : ((encS (64 * (64 * ((bn s k : Int) - 224) + (bn s (k+1) : Int) - 128) + (bn s (k+2) : Int) - 128)).toList == (s.extract k (k + 3)).toList) = false := by assumption
            have hn := Hno.out (.inr hq)
            go_roundw
            case rel => exact ⟨3+1, by omega, by omega, by go_num, hall, fun j h1 h2 => by
              rcases Nat.lt_or_ge j 3 with h | h
              · exact H.out j h1 h
              · have : j = 3 := by omega
                subst this; exact hn⟩
            case measure => simp [intOf]
        · have hi : isB (64 * (64 * ((bn s k : Int) - 224) + (bn s (k+1) : Int) - 128) + (bn s (k+2) : Int) - 128) = false := by simpa using hi
          rw [hi] at his
          have hn := Hno.out (.inl hi)
          refine Rg.wp_region_plan [(true, [0]), (false, [1]), (true, [2,3,6,7,8,9,10,11]), (false, [4]), (false, [5]), (true, [12,13])] _ (by kernel_rfl) (by kernel_rfl)
            (by simp only [List.map_cons, List.map_nil, Rg.pickOps, List.getElem?_toArray, List.getElem?_cons_zero, List.getElem?_cons_succ, Option.getD_some]; rfl) (fun K hK => ?_)
          refine Rg.plan_quiet ?_
          go_big_quiet_step (fail)
          refine wpQuiet_nil (Rg.plan_chain ?_)
          intro W1 hW1
          go_wp2_with (go_at_call 120; refine (his _).mono ?_; rintro e w1 ⟨rfl, rfl⟩)
          refine ⟨Below.refl _ _, Rg.plan_quiet ?_⟩
          iterate 8 go_big_quiet_step (fail)
          refine wpQuiet_nil (Rg.plan_chain ?_)
          intro W2 hW2
          go_wp2_with fail
          refine ⟨Below.refl _ _, Rg.plan_chain ?_⟩
          intro W3 hW3
          go_wp2_with fail
          refine ⟨Below.refl _ _, Rg.plan_quiet ?_⟩
          iterate 2 go_big_quiet_step (fail)
          refine wpQuiet_nil (Rg.plan_end ?_)
          intro W4 hW4
          refine hK _ _ ?_
          clear hK hby his
          have hall : Below w.heap.size w W4 := hB.trans ((Rg.tr hW1 (Rg.tr hW2 (Rg.tr hW3 hW4))).mono hB.size)
          go_wp2
          go_roundw
          case rel => exact ⟨3+1, by omega, by omega, by go_num, hall, fun j h1 h2 => by
            rcases Nat.lt_or_ge j 3 with h | h
            · exact H.out j h1 h
            · have : j = 3 := by omega
              subst this; exact hn⟩
          case measure => simp [intOf]
      · go_wp2
        go_rounds 4
        have his := fun W => refIs (64 * (64 * (64 * ((bn s k : Int) - 240) + (bn s (k+1) : Int) - 128) + (bn s (k+2) : Int) - 128) + (bn s (k+3) : Int) - 128) W
        have hby := fun W => refBytesStr (64 * (64 * (64 * ((bn s k : Int) - 240) + (bn s (k+1) : Int) - 128) + (bn s (k+2) : Int) - 128) + (bn s (k+3) : Int) - 128) W
        have hyes := next_yes s k 4 hL1 hkL
        have hno := next_no s k 4 hL1
        rw [C4.out] at hyes hno
        have Hyes := Lib.hid hyes
        have Hno := Lib.hid hno
        clear hyes hno C1 C2 C3 C4
        have e1 : (k : Int) ≤ (k : Int) + 4 := by omega
        have e2 : (k : Int) + 4 ≤ (s.size : Int) := by omega
        by_cases hi : isB (64 * (64 * (64 * ((bn s k : Int) - 240) + (bn s (k+1) : Int) - 128) + (bn s (k+2) : Int) - 128) + (bn s (k+3) : Int) - 128) = true
        · replace hby := fun W => hby W hi
          rw [hi] at his
          refine Rg.wp_region_plan [(true, [0]), (false, [1]), (true, [2,3,6,7,8,9,10,11]), (false, [4]), (false, [5]), (true, [12,13])] _ (by kernel_rfl) (by kernel_rfl)
            (by simp only [List.map_cons, List.map_nil, Rg.pickOps, List.getElem?_toArray, List.getElem?_cons_zero, List.getElem?_cons_succ, Option.getD_some]; rfl) (fun K hK => ?_)
          refine Rg.plan_quiet ?_
          go_big_quiet_step (fail)
          refine wpQuiet_nil (Rg.plan_chain ?_)
          intro W1 hW1
          go_wp2_with (go_at_call 120; refine (his _).mono ?_; rintro e w1 ⟨rfl, rfl⟩)
          refine ⟨Below.refl _ _, Rg.plan_quiet ?_⟩
          iterate 8 go_big_quiet_step (fail)
          refine wpQuiet_nil (Rg.plan_chain ?_)
          intro W2 hW2
          go_wp2_with (go_at_call 121; refine (hby _).mono ?_; rintro e w2 ⟨g, rfl, hb2, hcv⟩)
          refine ⟨hb2, Rg.plan_chain ?_⟩
          intro W3 hW3
          have hcv3 := hcv W3 hW3
          go_wp2_with fail
          refine ⟨Below.refl _ _, Rg.plan_quiet ?_⟩
          iterate 2 go_big_quiet_step (fail)
          refine wpQuiet_nil (Rg.plan_end ?_)
          intro W4 hW4
          refine hK _ _ ?_
          clear hK hcv hcv3 hby his
          have hall : Below w.heap.size w W4 := hB.trans ((Rg.tr hW1 (Rg.tr hW2 (Rg.tr hb2 (Rg.tr hW3 hW4)))).mono hB.size)
          go_wp2
          · have hq : ((encS (64 * (64 * (64 * ((bn s k : Int) - 240) + (bn s (k+1) : Int) - 128) + (bn s (k+2) : Int) - 128) + (bn s (k+3) : Int) - 128)).toList == (s.extract k (k + 4)).toList) = true := by assumption
            go_ret2
            refine ⟨?_, hall⟩
            rw [Hyes.out hi hq]
            rw [isB_iff] at hi
            simp only [Int.toNat_of_nonneg hi.1.1]
            rfl
          · have hq : ((encS (64 * (64 * (64 * ((bn s k : Int) - 240) + (bn s (k+1) : Int) - 128) + (bn s (k+2) : Int) - 128) + (bn s (k+3) : Int) - 128)).toList == (s.extract k (k + 4)).toList) = false := by assumption
            have hn := Hno.out (.inr hq)
            go_roundw
            case rel => exact ⟨4+1, by omega, by omega, by go_num, hall, fun j h1 h2 => by
              rcases Nat.lt_or_ge j 4 with h | h
              · exact H.out j h1 h
              · have : j = 4 := by omega
                subst this; exact hn⟩
            case measure => simp [intOf]
        · have hi : isB (64 * (64 * (64 * ((bn s k : Int) - 240) + (bn s (k+1) : Int) - 128) + (bn s (k+2) : Int) - 128) + (bn s (k+3) : Int) - 128) = false := by simpa using hi
          rw [hi] at his
          have hn := Hno.out (.inl hi)
          refine Rg.wp_region_plan [(true, [0]), (false, [1]), (true, [2,3,6,7,8,9,10,11]), (false, [4]), (false, [5]), (true, [12,13])] _ (by kernel_rfl) (by kernel_rfl)
            (by simp only [List.map_cons, List.map_nil, Rg.pickOps, List.getElem?_toArray, List.getElem?_cons_zero, List.getElem?_cons_succ, Option.getD_some]; rfl) (fun K hK => ?_)
          refine Rg.plan_quiet ?_
          go_big_quiet_step (fail)
          refine wpQuiet_nil (Rg.plan_chain ?_)
          intro W1 hW1
          go_wp2_with (go_at_call 120; refine (his _).mono ?_; rintro e w1 ⟨rfl, rfl⟩)
          refine ⟨Below.refl _ _, Rg.plan_quiet ?_⟩
          iterate 8 go_big_quiet_step (fail)
          refine wpQuiet_nil (Rg.plan_chain ?_)
          intro W2 hW2
          go_wp2_with fail
          refine ⟨Below.refl _ _, Rg.plan_chain ?_⟩
          intro W3 hW3
          go_wp2_with fail
          refine ⟨Below.refl _ _, Rg.plan_quiet ?_⟩
          iterate 2 go_big_quiet_step (fail)
          refine wpQuiet_nil (Rg.plan_end ?_)
          intro W4 hW4
          refine hK _ _ ?_
          clear hK hby his
          have hall : Below w.heap.size w W4 := hB.trans ((Rg.tr hW1 (Rg.tr hW2 (Rg.tr hW3 hW4))).mono hB.size)
          go_wp2
          go_roundw
          case rel => exact ⟨4+1, by omega, by omega, by go_num, hall, fun j h1 h2 => by
            rcases Nat.lt_or_ge j 4 with h | h
            · exact H.out j h1 h
            · have : j = 4 := by omega
              subst this; exact hn⟩
          case measure => simp [intOf]
    · have hend : nx (from_ s k) = (0, 0) := by
        have hl := from_length s k
        by_cases h0 : (nx (from_ s k)).2 = 0
        · have : nx (from_ s k) = (0, 0) := by
            unfold nx at h0 ⊢
            split at h0
            · rename_i h; rw [if_pos h]
            · rename_i h
              rw [if_neg h]
              split at h0
              · rename_i h'; rw [if_pos h']
              · exfalso
                have := decodeN_pos (from_ s k).length ((from_ s k).getD 0 0).toNat ((from_ s k).getD 1 0).toNat ((from_ s k).getD 2 0).toNat ((from_ s k).getD 3 0).toNat
                omega
          exact this
        · have h1 := nx_enc (from_ s k) h0
          exact absurd rfl (H.out (nx (from_ s k)).2 (by omega) (by omega))
      have Hend := Lib.hid hend
      clear hend H C1 C2 C3 C4
      by_cases h4 : L ≤ 4
      · go_wp2
        go_ret2
        exact ⟨by rw [Hend.out]; rfl, hB⟩
      · go_wp2
        go_ret2
        exact ⟨by rw [Hend.out]; rfl, hB⟩
end Go.Proofs.YthdlepalglgmoaaGreatDoor
