/- The answer for term (ossuaryref08): texts written. The program's package term, walked: Tagged, Typed, how long a literal's text is. -/
import Derived.Test.YthdlepalglgmoaaGreatDoorJTxRd
import Derived.Test.YthdlepalglgmoaaGreatDoorJUtfProg2b
import Derived.Test.YthdlepalglgmoaaGreatDoorJMem
import Derived.Test.YthdlepalglgmoaaGreatDoorJRegion4
import Derived.Lib.AtoiErrMem
import Derived.Test.YthdlepalglgmoaaGreatDoorJTxMath
import Derived.Lib.ConvBytes
namespace Go.Proofs.YthdlepalglgmoaaGreatDoor
open Go Go.RowKit Um Fm Lx Tx

theorem u8Info8 : (Tryz.prog.info? 5).map (fun i => (i.zero, i.size, i.bytes)) = some (some (.int .u8 0), 1, 1) := by kernel_rfl
/-- A row of the call's own holds some bytes. -/
abbrev OwnB (w wr : World) (v : Value) (acc : List UInt8) : Prop := wr.ownsRow w.heap.size 5 1 v acc.length (Lib.byteCells acc)
theorem OwnB.snoc {w wr : World} {v : Value} {acc r : List UInt8} {n : Nat} (h : wr.ownsRow w.heap.size 5 1 v n (Lib.byteCells acc ++ Lib.byteCells r)) (hn : n = acc.length + r.length) : OwnB w wr v (acc ++ r) := by
  unfold OwnB
  rw [Lib.byteCells_append, List.length_append, ← hn]; exact h
theorem OwnB.form {w wr : World} {v : Value} {acc : List UInt8} (h : OwnB w wr v acc) : ∃ A c, v = .slice A acc.length c := own_form h
theorem OwnB.nums {w wr : World} {v : Value} {acc : List UInt8} (h : OwnB w wr v acc) {A : Option Addr} {c : Nat} (hv : v = .slice A acc.length c) : Rd wr A ((acc.map fun x => (x.toNat : Int)).map (Value.int .u8)) := by
  subst hv
  have := Rd.of_own h
  unfold Lib.byteCells at this
  rw [List.map_map]; exact this
theorem byteCells_one (l : List UInt8) : ∀ u ∈ Lib.byteCells l, u.oneCell' = true := by
  intro u hu
  unfold Lib.byteCells at hu
  obtain ⟨s, _, rfl⟩ := List.mem_map.1 hu
  rfl
theorem nums_str8 (l : List UInt8) : strOfNums (l.map fun x => (x.toNat : Int)) = mkS l := by
  apply ba_ext
  rw [strOfNums_data]
  simp only [List.map_map]
  exact (List.map_congr_left fun x _ => by simp).trans (List.map_id _)
abbrev digU : ByteArray := ⟨#[48, 49, 50, 51, 52, 53, 54, 55, 56, 57, 65, 66, 67, 68, 69, 70]⟩
theorem dig_up : ∀ d : Fin 16, bn digU d.val = (hxD d.val).toNat := by decide
theorem take_snoc8 (l : List UInt8) (k : Nat) (c : UInt8) (h : l[k]? = some c) : l.take (k + 1) = l.take k ++ [c] := by rw [List.take_add_one, h]; rfl
theorem bn_of {s : ByteArray} {k : Nat} {c : UInt8} (h : s.data.toList[k]? = some c) : bn s k = c.toNat := by unfold bn; rw [List.getD_eq_getElem?_getD, h]; rfl
theorem rdN8 (w : World) (cs : Array Value) (r : List UInt8) (h : cs.toList = Lib.byteCells r) : Rd (w.alloc (.cells cs 5)) (some ⟨w.heap.size, 0, none⟩) (Lib.byteCells r) := Rd.of_block (heap_alloc_new w _) h
theorem iri_snoc {l : List UInt8} {k : Nat} {c : UInt8} (h : l[k]? = some c) : iriL (l.take (k + 1)) = iriL (l.take k) ++ iriC c := by
  rw [take_snoc8 _ _ _ h, iriL_app]
  congr 1
  unfold iriL
  simp
theorem lit_snoc {l : List UInt8} {k : Nat} {c : UInt8} (h : l[k]? = some c) : litL (l.take (k + 1)) = litL (l.take k) ++ litC c := by
  rw [take_snoc8 _ _ _ h]
  unfold litL
  rw [List.flatMap_append]
  congr 1
  simp
set_option maxRecDepth 20000 in
set_option maxHeartbeats 4000000 in
theorem r08Iri (s : ByteArray) (w : World) (hs : s.size ≤ 1048576) :
    Calls Tryz.prog 57 #[.string s] w fun e w' => e = .returned (.string (mkS (iriL s.data.toList))) ∧ Below w.heap.size w w' := by
  have hz := size_toList s
  go_enter Tryz.func57, Tryz.ntmps57
  go_wp2
  go_loopw [4, 5] (fun v i wr => ∃ (k : Nat) (acc : List UInt8), k ≤ s.size ∧ acc.length ≤ 6 * k ∧ i = .int .i64 k ∧ OwnB w wr v acc ∧ Below w.heap.size w wr ∧ Hid (acc = iriL (s.data.toList.take k))) (fun _ i _ => s.size - (intOf i).toNat)
  case atStart => exact ⟨0, [], by omega, by simp, rfl, World.ownsRow_nil _ _ _ _, Below.refl _ _, rfl⟩
  case round =>
    obtain ⟨k, acc, hk, hal, rfl, own, hB, Ha⟩ := hrel
    have Own := Lib.hid own
    have HB := Lib.hid hB
    have hw0 := hB.size
    obtain ⟨A, cp, hA⟩ := OwnB.form own
    subst hA
    clear hB own
    by_cases hlt : k < s.size
    · obtain ⟨c, hc⟩ : ∃ c, s.data.toList[k]? = some c := ⟨_, List.getElem?_eq_getElem (by rw [hz]; exact hlt)⟩
      have hbc := bn_of hc
      have hn := c.toNat_lt
      have Hnx : Hid (acc ++ iriC c = iriL (s.data.toList.take (k + 1))) := by
        show _ = _
        rw [iri_snoc hc, ← Ha.out]
      clear hc Ha
      have single : ∀ {q : List UInt8}, iriC c = [c] → Hid (acc ++ iriC c = q) → Hid (acc ++ [c] = q) := fun e h => by rw [e] at h; exact h
      have hsame : Lib.byteCells [c] = [.int .u8 (c.toNat : Int)] := rfl
      by_cases h128 : c.toNat < 128
      · have hR := fun W => refRaw (c.toNat : Int) W
        cases hr : rawB (c.toNat : Int)
        · rw [hr] at hR
          have hi : iriC c = [92, 117, 48, 48, hxD (c.toNat / 16), hxD (c.toNat % 16)] := by unfold iriC escC; rw [hr, decide_eq_true h128]; rfl
          rw [hi] at Hnx
          have d1 := dig_up ⟨c.toNat / 16, by omega⟩
          have d2 := dig_up ⟨c.toNat % 16, by omega⟩
          simp only at d1 d2
          clear hi hr single hsame
          generalize hxD (c.toNat / 16) = x1 at *
          generalize hxD (c.toNat % 16) = x2 at *
          generalize c.toNat = n at *
          go_wp2_with (go_at_call 89; refine (hR _).mono ?_; rintro e w1 ⟨rfl, rfl⟩)
          refine Rf.wp_region_pl w.heap.size _ (Rf.Pl.quiet [0, 1, 2, 3, 4, 5, 6, 7, 8] (Rf.Pl.one 9 (Rf.Pl.one 10 (Rf.Pl.quiet [11] (Rf.Pl.done))))) _ (by kernel_rfl) (by kernel_rfl) (by simp only [Rf.Pl.pick, Rf.pickO, List.map_cons, List.map_nil, Rg.pickOps, List.getElem?_toArray, List.getElem?_cons_zero, List.getElem?_cons_succ, Option.getD_some]; rfl) ?_ (fun a w h => h)
          intro wd hbd hwz
          have hle := hbd.size
          have Own1 := Lib.hid ((own_below Own.out hbd (Nat.le_refl _)).alloc (.cells #[.int .u8 92, .int .u8 117, .int .u8 48, .int .u8 48, .int .u8 x1.toNat, .int .u8 x2.toNat] 5))
          have Hb9 : Hid (Below w.heap.size wd (wd.alloc (.cells #[.int .u8 92, .int .u8 117, .int .u8 48, .int .u8 48, .int .u8 x1.toNat, .int .u8 x2.toNat] 5))) := Lib.hid ((Below.refl _ _).alloc (by omega) _)
          have Hbd := Lib.hid (HB.out.trans (hbd.mono hw0))
          clear hwz hbd
          refine Rf.pl_quiet ?_
          iterate 9 go_big_quiet_step (fail)
          refine wpQuiet_nil (Rf.pl_one ?_)
          go_wp2_with fail
          refine ⟨Hb9.out, Rf.pl_one ?_⟩
          go_wp2_with (at_builtin; refine wpList_app (m := 6) rfl rfl Tryz.underlying33 u8Info8 rfl (by omega) rfl Own1.out rfl (rdN8 wd _ [92, 117, 48, 48, x1, x2] rfl) rfl (byteCells_one _) (by omega) (by omega) (by simp; omega) ?_; intro v8 w8 own8 hb8)
          refine ⟨hb8, Rf.pl_quiet ?_⟩
          go_frame
          iterate 1 go_big_quiet_step (fail)
          refine wpQuiet_nil (Rf.pl_done ?_)
          have HF := Lib.hid ((Hbd.out.trans Hb9.out).trans hb8)
          have Own8 := Lib.hid own8
          obtain ⟨A8, c8, hA8⟩ := own_form own8
          subst hA8
          clear own8 hb8 d1 d2
          go_wp2
          go_roundw
          case rel => exact ⟨k + 1, _, by omega, (by rw [List.length_append]; simp only [List.length_cons, List.length_nil]; omega), by go_num, OwnB.snoc (r := [92, 117, 48, 48, x1, x2]) Own8.out rfl, HF.out, Hnx⟩
          case measure => simp [intOf]; omega
        · rw [hr] at hR
          have hi : iriC c = [c] := by unfold iriC escC; rw [hr]; simp
          replace Hnx := single hi Hnx
          clear hi hr single
          have Own1 := Lib.hid (Own.out.alloc (.cells #[.int .u8 c.toNat] 5))
          have Hb9 : Hid (Below w.heap.size wr (wr.alloc (.cells #[.int .u8 c.toNat] 5))) := Lib.hid ((Below.refl _ _).alloc (by omega) _)
          go_wp2_with (first
            | (go_at_call 89; refine (hR _).mono ?_; rintro e w1 ⟨rfl, rfl⟩)
            | (at_builtin; refine wpList_app (m := 1) rfl rfl Tryz.underlying33 u8Info8 rfl (by omega) rfl Own1.out rfl (rdN8 _ _ [c] rfl) rfl (byteCells_one _) (by omega) (by omega) (by simp; omega) ?_; intro v8 w8 own8 hb8; have HF := Lib.hid ((HB.out.trans Hb9.out).trans hb8); have Own8 := Lib.hid own8; obtain ⟨A8, c8, hA8⟩ := own_form own8; subst hA8; clear own8 hb8))
          go_roundw
          case rel => exact ⟨k + 1, _, by omega, (by rw [List.length_append]; simp only [List.length_cons, List.length_nil]; omega), by go_num, OwnB.snoc (r := [c]) Own8.out rfl, HF.out, Hnx⟩
          case measure => simp [intOf]; omega
      · have hi : iriC c = [c] := by unfold iriC escC; rw [decide_eq_false h128]; simp
        replace Hnx := single hi Hnx
        clear hi single
        have Own1 := Lib.hid (Own.out.alloc (.cells #[.int .u8 c.toNat] 5))
        have Hb9 : Hid (Below w.heap.size wr (wr.alloc (.cells #[.int .u8 c.toNat] 5))) := Lib.hid ((Below.refl _ _).alloc (by omega) _)
        go_wp2_with (first
          | (at_builtin; refine wpList_app (m := 1) rfl rfl Tryz.underlying33 u8Info8 rfl (by omega) rfl Own1.out rfl (rdN8 _ _ [c] rfl) rfl (byteCells_one _) (by omega) (by omega) (by simp; omega) ?_; intro v8 w8 own8 hb8; have HF := Lib.hid ((HB.out.trans Hb9.out).trans hb8); have Own8 := Lib.hid own8; obtain ⟨A8, c8, hA8⟩ := own_form own8; subst hA8; clear own8 hb8))
        go_roundw
        case rel => exact ⟨k + 1, _, by omega, (by rw [List.length_append]; simp only [List.length_cons, List.length_nil]; omega), by go_num, OwnB.snoc (r := [c]) Own8.out rfl, HF.out, Hnx⟩
        case measure => simp [intOf]; omega
    · have ht : s.data.toList.take k = s.data.toList := List.take_of_length_le (by rw [hz]; omega)
      have hcv := run_conv_bytes (P := Tryz.prog) (n := acc.length) (c := cp) 33 9 5 Tryz.underlying33 Tryz.underlying5 Tryz.underlying9 (OwnB.nums Own.out rfl) (by simp)
      rw [nums_str8] at hcv
      have HS : Hid (acc = iriL s.data.toList) := by show _ = _; rw [Ha.out, ht]
      clear ht Ha
      go_wp2
      go_ret
      exact ⟨by rw [← HS.out]; rfl, HB.out⟩
set_option maxRecDepth 20000 in
set_option maxHeartbeats 4000000 in
theorem r08Literal (s : ByteArray) (w : World) (hs : s.size ≤ 1048576) :
    Calls Tryz.prog 58 #[.string s] w fun e w' => e = .returned (.string (mkS (litL s.data.toList))) ∧ Below w.heap.size w w' := by
  have hz := size_toList s
  go_enter Tryz.func58, Tryz.ntmps58
  go_wp2
  go_loopw [3, 4] (fun v i wr => ∃ (k : Nat) (acc : List UInt8), k ≤ s.size ∧ acc.length ≤ 6 * k ∧ i = .int .i64 k ∧ OwnB w wr v acc ∧ Below w.heap.size w wr ∧ Hid (acc = litL (s.data.toList.take k))) (fun _ i _ => s.size - (intOf i).toNat)
  case atStart => exact ⟨0, [], by omega, by simp, rfl, World.ownsRow_nil _ _ _ _, Below.refl _ _, rfl⟩
  case round =>
    obtain ⟨k, acc, hk, hal, rfl, own, hB, Ha⟩ := hrel
    have Own := Lib.hid own
    have HB := Lib.hid hB
    have hw0 := hB.size
    obtain ⟨A, cp, hA⟩ := OwnB.form own
    subst hA
    clear hB own
    by_cases hlt : k < s.size
    · obtain ⟨c, hc⟩ : ∃ c, s.data.toList[k]? = some c := ⟨_, List.getElem?_eq_getElem (by rw [hz]; exact hlt)⟩
      have hbc := bn_of hc
      have hn := c.toNat_lt
      have Hnx : Hid (acc ++ litC c = litL (s.data.toList.take (k + 1))) := by
        show _ = _
        rw [lit_snoc hc, ← Ha.out]
      clear hc Ha
      unfold litC at Hnx
      have hne : ∀ x : UInt8, ¬ c.toNat = x.toNat → ¬ c = x := fun x h e => h (by rw [e])
      by_cases h1 : c.toNat = 34
      · obtain rfl : c = 34 := UInt8.toNat_inj.1 h1
        rw [if_pos rfl] at Hnx
        clear h1 hne
        replace hbc : bn s k = 34 := hbc
        have Own1 := Lib.hid (Own.out.alloc (.cells #[.int .u8 92, .int .u8 34] 5))
        have Hb9 : Hid (Below w.heap.size wr (wr.alloc (.cells #[.int .u8 92, .int .u8 34] 5))) := Lib.hid ((Below.refl _ _).alloc (by omega) _)
        go_wp2_with (first
          | (at_builtin; refine wpList_app (m := 2) rfl rfl Tryz.underlying33 u8Info8 rfl (by omega) rfl Own1.out rfl (rdN8 _ _ [92, 34] rfl) rfl (byteCells_one _) (by omega) (by omega) (by simp; omega) ?_; intro v8 w8 own8 hb8; have HF := Lib.hid ((HB.out.trans Hb9.out).trans hb8); have Own8 := Lib.hid own8; obtain ⟨A8, c8, hA8⟩ := own_form own8; subst hA8; clear own8 hb8))
        go_roundw
        case rel => exact ⟨k + 1, _, by omega, (by rw [List.length_append]; simp only [List.length_cons, List.length_nil]; omega), by go_num, OwnB.snoc (r := [92, 34]) Own8.out rfl, HF.out, Hnx⟩
        case measure => simp [intOf]; omega
      rw [if_neg (hne 34 h1)] at Hnx
      by_cases h2 : c.toNat = 92
      · obtain rfl : c = 92 := UInt8.toNat_inj.1 h2
        rw [if_pos rfl] at Hnx
        clear h1 h2 hne
        replace hbc : bn s k = 92 := hbc
        have Own1 := Lib.hid (Own.out.alloc (.cells #[.int .u8 92, .int .u8 92] 5))
        have Hb9 : Hid (Below w.heap.size wr (wr.alloc (.cells #[.int .u8 92, .int .u8 92] 5))) := Lib.hid ((Below.refl _ _).alloc (by omega) _)
        go_wp2_with (first
          | (at_builtin; refine wpList_app (m := 2) rfl rfl Tryz.underlying33 u8Info8 rfl (by omega) rfl Own1.out rfl (rdN8 _ _ [92, 92] rfl) rfl (byteCells_one _) (by omega) (by omega) (by simp; omega) ?_; intro v8 w8 own8 hb8; have HF := Lib.hid ((HB.out.trans Hb9.out).trans hb8); have Own8 := Lib.hid own8; obtain ⟨A8, c8, hA8⟩ := own_form own8; subst hA8; clear own8 hb8))
        go_roundw
        case rel => exact ⟨k + 1, _, by omega, (by rw [List.length_append]; simp only [List.length_cons, List.length_nil]; omega), by go_num, OwnB.snoc (r := [92, 92]) Own8.out rfl, HF.out, Hnx⟩
        case measure => simp [intOf]; omega
      rw [if_neg (hne 92 h2)] at Hnx
      by_cases h3 : c.toNat = 10
      · obtain rfl : c = 10 := UInt8.toNat_inj.1 h3
        rw [if_pos rfl] at Hnx
        clear h1 h2 h3 hne
        replace hbc : bn s k = 10 := hbc
        have Own1 := Lib.hid (Own.out.alloc (.cells #[.int .u8 92, .int .u8 110] 5))
        have Hb9 : Hid (Below w.heap.size wr (wr.alloc (.cells #[.int .u8 92, .int .u8 110] 5))) := Lib.hid ((Below.refl _ _).alloc (by omega) _)
        go_wp2_with (first
          | (at_builtin; refine wpList_app (m := 2) rfl rfl Tryz.underlying33 u8Info8 rfl (by omega) rfl Own1.out rfl (rdN8 _ _ [92, 110] rfl) rfl (byteCells_one _) (by omega) (by omega) (by simp; omega) ?_; intro v8 w8 own8 hb8; have HF := Lib.hid ((HB.out.trans Hb9.out).trans hb8); have Own8 := Lib.hid own8; obtain ⟨A8, c8, hA8⟩ := own_form own8; subst hA8; clear own8 hb8))
        go_roundw
        case rel => exact ⟨k + 1, _, by omega, (by rw [List.length_append]; simp only [List.length_cons, List.length_nil]; omega), by go_num, OwnB.snoc (r := [92, 110]) Own8.out rfl, HF.out, Hnx⟩
        case measure => simp [intOf]; omega
      rw [if_neg (hne 10 h3)] at Hnx
      by_cases h4 : c.toNat = 13
      · obtain rfl : c = 13 := UInt8.toNat_inj.1 h4
        rw [if_pos rfl] at Hnx
        clear h1 h2 h3 h4 hne
        replace hbc : bn s k = 13 := hbc
        have Own1 := Lib.hid (Own.out.alloc (.cells #[.int .u8 92, .int .u8 114] 5))
        have Hb9 : Hid (Below w.heap.size wr (wr.alloc (.cells #[.int .u8 92, .int .u8 114] 5))) := Lib.hid ((Below.refl _ _).alloc (by omega) _)
        go_wp2_with (first
          | (at_builtin; refine wpList_app (m := 2) rfl rfl Tryz.underlying33 u8Info8 rfl (by omega) rfl Own1.out rfl (rdN8 _ _ [92, 114] rfl) rfl (byteCells_one _) (by omega) (by omega) (by simp; omega) ?_; intro v8 w8 own8 hb8; have HF := Lib.hid ((HB.out.trans Hb9.out).trans hb8); have Own8 := Lib.hid own8; obtain ⟨A8, c8, hA8⟩ := own_form own8; subst hA8; clear own8 hb8))
        go_roundw
        case rel => exact ⟨k + 1, _, by omega, (by rw [List.length_append]; simp only [List.length_cons, List.length_nil]; omega), by go_num, OwnB.snoc (r := [92, 114]) Own8.out rfl, HF.out, Hnx⟩
        case measure => simp [intOf]; omega
      rw [if_neg (hne 13 h4)] at Hnx
      clear hne
      have Own1 := Lib.hid (Own.out.alloc (.cells #[.int .u8 c.toNat] 5))
      have Hb9 : Hid (Below w.heap.size wr (wr.alloc (.cells #[.int .u8 c.toNat] 5))) := Lib.hid ((Below.refl _ _).alloc (by omega) _)
      go_wp2_with (first
        | (at_builtin; refine wpList_app (m := 1) rfl rfl Tryz.underlying33 u8Info8 rfl (by omega) rfl Own1.out rfl (rdN8 _ _ [c] rfl) rfl (byteCells_one _) (by omega) (by omega) (by simp; omega) ?_; intro v8 w8 own8 hb8; have HF := Lib.hid ((HB.out.trans Hb9.out).trans hb8); have Own8 := Lib.hid own8; obtain ⟨A8, c8, hA8⟩ := own_form own8; subst hA8; clear own8 hb8))
      go_roundw
      case rel => exact ⟨k + 1, _, by omega, (by rw [List.length_append]; simp only [List.length_cons, List.length_nil]; omega), by go_num, OwnB.snoc (r := [c]) Own8.out rfl, HF.out, Hnx⟩
      case measure => simp [intOf]; omega
    · have ht : s.data.toList.take k = s.data.toList := List.take_of_length_le (by rw [hz]; omega)
      have hcv := run_conv_bytes (P := Tryz.prog) (n := acc.length) (c := cp) 33 9 5 Tryz.underlying33 Tryz.underlying5 Tryz.underlying9 (OwnB.nums Own.out rfl) (by simp)
      rw [nums_str8] at hcv
      have HS : Hid (acc = litL s.data.toList) := by show _ = _; rw [Ha.out, ht]
      clear ht Ha
      go_wp2
      go_ret
      exact ⟨by rw [← HS.out]; rfl, HB.out⟩
end Go.Proofs.YthdlepalglgmoaaGreatDoor
namespace Go.Proofs.YthdlepalglgmoaaGreatDoor
open Go Go.RowKit Um Fm Tx

/-- n bytes of the call's own, in block g. -/
structure By (w0 : World) (g n : Nat) (f : Nat → Int) (w : World) : Prop where
  below : Below w0.heap.size w0 w
  ge : w0.heap.size ≤ g
  cells : ∀ j, j < n → w.cell? ⟨g, j, none⟩ = some (.int .u8 (f j))
  fz : ∀ j, j < n → w.frozen? ⟨g, j, none⟩ = false
theorem By.set {w0 w : World} {g n : Nat} {f : Nat → Int} (h : By w0 g n f w) (k : Nat) (hk : k < n) (x : Int) : By w0 g n (fun j => if j = k then x else f j) (w.setCell ⟨g, k, none⟩ (.int .u8 x)) where
  below := h.below.setCell (p := ⟨g, k, none⟩) h.ge _
  ge := h.ge
  cells := fun j hj => by
    by_cases e : j = k
    · subst e
      rw [World.cell?_setCell_same _ _ _ (h.cells j hj), if_pos rfl]
    · rw [World.cell?_setCell_other _ ⟨g, k, none⟩ ⟨g, j, none⟩ _ (by simp), if_neg e]
      exact h.cells j hj
  fz := fun j hj => by rw [World.frozen?_setCell]; exact h.fz j hj
theorem By.congr {w0 w : World} {g n : Nat} {f f' : Nat → Int} (h : By w0 g n f w) (e : ∀ j, j < n → f j = f' j) : By w0 g n f' w :=
  ⟨h.below, h.ge, fun j hj => by rw [← e j hj]; exact h.cells j hj, h.fz⟩
theorem By.rd {w0 w : World} {g n : Nat} {f : Nat → Int} (h : By w0 g n f w) {xs : List Int} (hn : xs.length = n) (e : ∀ j, j < n → f j = xs.getD j 0) : Rd w (some ⟨g, 0, none⟩) (xs.map (Value.int .u8)) := by
  refine .inr ⟨g, 0, rfl, fun j u hu => ?_⟩
  have hj : j < xs.length := by
    have := (List.getElem?_eq_some_iff.1 hu).1
    simpa using this
  rw [List.getElem?_map, List.getElem?_eq_getElem hj] at hu
  simp only [Option.map_some, Option.some.injEq] at hu
  subst hu
  have := h.cells j (by omega)
  rw [e j (by omega), List.getD_eq_getElem?_getD, List.getElem?_eq_getElem hj] at this
  simpa using this
theorem By.conv (w : World) (s : ByteArray) : By w w.heap.size s.size (fun j => (bn s j : Int)) (Lib.bytesWorld w 5 s) where
  below := Lib.bytesWorld_below w _ s
  ge := Nat.le_refl _
  cells := fun j hj => Lib.bytesWorld_cell w 5 s j hj
  fz := fun j hj => by
    simp only [World.frozen?, Lib.bytesWorld_at_new]
    have : s.size ≤ (Lib.bytesCells w 5 s).size := by
      unfold Lib.bytesCells
      rw [Array.size_append, Array.size_map]
      exact Nat.le_add_right _ _
    simp; omega
theorem By.later {w0 w w' : World} {g n : Nat} {f : Nat → Int} (h : By w0 g n f w) (hlt : g < w.heap.size) (hb : Below w.heap.size w w') : By w0 g n f w' where
  below := below_tr h.below hb
  ge := h.ge
  cells := fun j hj => by rw [hb.cell (p := ⟨g, j, none⟩) hlt]; exact h.cells j hj
  fz := fun j hj => by rw [hb.frozen (p := ⟨g, j, none⟩) hlt]; exact h.fz j hj

/-- A byte's small one. -/
def lowB (b : UInt8) : UInt8 := if upB b then UInt8.ofNat (b.toNat + 32) else b
def lowS (s : ByteArray) : ByteArray := mkS (s.data.toList.map lowB)
theorem lowB_low (b : UInt8) : ((lowB b).toNat : Int) = lowI b.toNat := by
  have h := b.toNat_lt
  unfold lowB lowI upB
  by_cases h1 : 65 ≤ b.toNat
  · by_cases h2 : b.toNat ≤ 90
    · rw [if_pos (by simp [h1, h2]), if_pos (by omega), UInt8.toNat_ofNat']
      omega
    · rw [if_neg (by simp; omega), if_neg (by omega)]
  · rw [if_neg (by simp; omega), if_neg (by omega)]
theorem low_str (s : ByteArray) : strOfNums (s.data.toList.map fun b => lowI b.toNat) = lowS s := by
  apply ba_ext
  rw [strOfNums_data]
  unfold lowS mkS
  simp only [List.map_map]
  apply List.map_congr_left
  intro b _
  simp only [Function.comp]
  rw [← lowB_low]
  simp
theorem low_at (s : ByteArray) (j : Nat) (h : j < s.size) : (s.data.toList.map fun b => lowI b.toNat).getD j 0 = lowI (bn s j) := by
  have hl : j < s.data.toList.length := by rw [size_toList]; exact h
  rw [List.getD_eq_getElem?_getD, List.getElem?_map, List.getElem?_eq_getElem hl, bn, List.getD_eq_getElem?_getD, List.getElem?_eq_getElem hl]
  rfl
theorem lowI_byte {x : Nat} (h : x < 256) : 0 ≤ lowI x ∧ lowI x < 256 := by unfold lowI; split <;> omega
/-- A term as the value that it is. -/
abbrev tmA (k : Int) (x l y : ByteArray) : Value := .agg #[.int .i64 k, .string x, .string l, .string y]
set_option maxHeartbeats 1000000 in
set_option maxRecDepth 10000 in
theorem termTagged (x s : ByteArray) (w : World) (hs : s.size ≤ 1000000) :
    Calls Tryz.prog 7 #[.string x, .string s] w fun e w' => e = .returned (tmA 3 x (lowS s) ⟨#[]⟩) ∧ Below w.heap.size w w' := by
  have hB0 : Below w.heap.size w (w.alloc (.cells #[.int .i64 0, .string ⟨#[]⟩, .string ⟨#[]⟩, .string ⟨#[]⟩] 24)) := (Below.refl _ w).alloc (Nat.le_refl _) _
  have hblk := heap_alloc_new w (.cells #[.int .i64 0, .string ⟨#[]⟩, .string ⟨#[]⟩, .string ⟨#[]⟩] 24)
  have hcv := Lib.run_convert_string_bytes (P := Tryz.prog) (w.alloc (.cells #[.int .i64 0, .string ⟨#[]⟩, .string ⟨#[]⟩, .string ⟨#[]⟩] 24)) 9 33 5 s (u := .string) Tryz.underlying9 Tryz.underlying33 Tryz.underlying5
  have hBy := By.conv (w.alloc (.cells #[.int .i64 0, .string ⟨#[]⟩, .string ⟨#[]⟩, .string ⟨#[]⟩] 24)) s
  obtain ⟨W1, hW1⟩ : ∃ W1, W1 = Lib.bytesWorld (w.alloc (.cells #[.int .i64 0, .string ⟨#[]⟩, .string ⟨#[]⟩, .string ⟨#[]⟩] 24)) 5 s := ⟨_, rfl⟩
  obtain ⟨c1, hc1⟩ : ∃ c1, c1 = grownCap (w.alloc (.cells #[.int .i64 0, .string ⟨#[]⟩, .string ⟨#[]⟩, .string ⟨#[]⟩] 24)) s.size 0 5 := ⟨_, rfl⟩
  rw [← hW1] at hcv hBy
  rw [← hc1] at hcv
  clear hW1 hc1
  obtain ⟨W0, hW0⟩ : ∃ W0, W0 = w.alloc (.cells #[.int .i64 0, .string ⟨#[]⟩, .string ⟨#[]⟩, .string ⟨#[]⟩] 24) := ⟨_, rfl⟩
  rw [← hW0] at hBy hB0 hblk
  have hg : W0.heap.size = w.heap.size + 1 := by rw [hW0]; simp
  rw [hg] at hBy
  have HG := Lib.hid hg
  have HB0 := Lib.hid hB0
  have Hblk := Lib.hid hblk
  have HBy := Lib.hid hBy
  clear hW0 hg hB0 hblk hBy
  go_enter Tryz.func7, Tryz.ntmps7
  go_wp2
  go_loopw [12] (fun i wr => ∃ k : Nat, k ≤ s.size ∧ i = .int .i64 k ∧ By W0 (w.heap.size + 1) s.size (fun j => if j < k then lowI (bn s j) else (bn s j : Int)) wr) (fun i _ => s.size - (intOf i).toNat)
  case atStart => exact ⟨0, by omega, rfl, HBy.out.congr (fun j _ => by rw [if_neg (by omega)])⟩
  case round =>
    obtain ⟨k, hk, rfl, hI⟩ := hrel
    have HI := Lib.hid hI
    by_cases hlt : k < s.size
    · have hc := hI.cells k hlt
      have hf := hI.fz k hlt
      rw [if_neg (by omega)] at hc
      have hb := bn_lt s k
      obtain ⟨b0, b1⟩ := lowI_byte hb
      have hL := fun W => termLower (bn s k : Int) W (by omega) (by omega)
      generalize hq : lowI (bn s k : Int) = q at *
      have Hq := Lib.hid hq
      clear hI hq
      go_wp2_with (refine (hL _).mono ?_; rintro e w2 ⟨rfl, rfl⟩)
      go_roundw
      case rel =>
        refine ⟨k + 1, by omega, by go_num, (HI.out.set k hlt q).congr (fun j hj => ?_)⟩
        by_cases e : j = k
        · subst e; rw [if_pos rfl, if_pos (by omega), Hq.out]
        · rw [if_neg e]
          by_cases e2 : j < k
          · rw [if_pos e2, if_pos (by omega)]
          · rw [if_neg e2, if_neg (by omega)]
      case measure => simp [intOf]; omega
    · have hks : k = s.size := by omega
      subst hks
      have hrd : Rd wr (some ⟨w.heap.size + 1, 0, none⟩) ((s.data.toList.map fun b => lowI b.toNat).map (Value.int .u8)) := hI.rd (by rw [List.length_map, size_toList]) (fun j hj => by rw [if_pos hj, low_at s j hj])
      have hcs := run_conv_bytes (P := Tryz.prog) (w := wr) (n := s.size) (c := c1) 33 9 5 Tryz.underlying33 Tryz.underlying5 Tryz.underlying9 hrd (by rw [List.length_map, size_toList])
      rw [low_str] at hcs
      have hb3 : wr.heap[w.heap.size]? = some (.cells #[.int .i64 0, .string ⟨#[]⟩, .string ⟨#[]⟩, .string ⟨#[]⟩] 24 (0, 0)) := by
        rw [hI.below.block _ (by rw [HG.out]; omega)]; exact Hblk.out
      have d0 : wr.cell? ⟨w.heap.size, 0, none⟩ = some (.int .i64 0) := by rw [Lib.cell_of_heap hb3]; rfl
      have d1 : wr.cell? ⟨w.heap.size, 1, none⟩ = some (.string ⟨#[]⟩) := by rw [Lib.cell_of_heap hb3]; rfl
      have d2 : wr.cell? ⟨w.heap.size, 2, none⟩ = some (.string ⟨#[]⟩) := by rw [Lib.cell_of_heap hb3]; rfl
      have d3 : wr.cell? ⟨w.heap.size, 3, none⟩ = some (.string ⟨#[]⟩) := by rw [Lib.cell_of_heap hb3]; rfl
      have f0 : ∀ i, wr.frozen? ⟨w.heap.size, i, none⟩ = false := fun i => Lib.frozen_of_heap hb3 i
      have HX := Lib.hid (below_tr HB0.out hI.below)
      clear hI hrd hb3
      go_wp2
      refine bodyPost_ret (v := tmA 3 x (lowS s) ⟨#[]⟩) (by simp [results, Tryz.results7, go_sem, d0, d1, d2, d3]) rfl ⟨rfl, ?_⟩
      exact HX.out.trans (below_set4 (Nat.le_refl _) _ _ _ _)
end Go.Proofs.YthdlepalglgmoaaGreatDoor
