/- The answer for term (ossuaryref08): texts written. -/
import Derived.Test.YtheeklkcaapkbaaGreatDoorJUtfRaw
import Derived.Test.YtheeklkcaapkbaaGreatDoorJWr2
import Derived.Test.YtheeklkcaapkbaaGreatDoorJMem
namespace Go.Proofs.YtheeklkcaapkbaaGreatDoor
open Go Go.RowKit Um Fm Lx Tx

theorem u8Info8 : (Tryz.prog.info? 5).map (fun i => (i.zero, i.size, i.bytes)) = some (some (.int .u8 0), 1, 1) := by kernel_rfl
/-- A row of the call's own holds some bytes. -/
abbrev OwnB (w wr : World) (v : Value) (acc : List UInt8) : Prop := wr.ownsRow w.heap.size 5 1 v acc.length (Lib.byteCells acc)
theorem OwnB.snoc {w wr : World} {v : Value} {acc r : List UInt8} {n : Nat} (h : wr.ownsRow w.heap.size 5 1 v n (Lib.byteCells acc ++ Lib.byteCells r)) (hn : n = acc.length + r.length) : OwnB w wr v (acc ++ r) := by
  unfold OwnB
  rw [Lib.byteCells_append, List.length_append, ← hn]; exact h
theorem OwnB.form {w wr : World} {v : Value} {acc : List UInt8} (h : OwnB w wr v acc) : ∃ A c, v = .slice A acc.length c := own_form h
theorem OwnB.nums {w wr : World} {v : Value} {acc : List UInt8} (h : OwnB w wr v acc) {A : Option Addr} {c : Nat} (hv : v = .slice A acc.length c) : Rd wr A ((acc.map fun x => (x.toNat : Int)).map (Value.int .u8)) := by
  subst hv
  have := Rd.of_own h
  unfold Lib.byteCells at this
  rw [List.map_map]; exact this
theorem byteCells_one (l : List UInt8) : ∀ u ∈ Lib.byteCells l, u.oneCell' = true := by
  intro u hu
  unfold Lib.byteCells at hu
  obtain ⟨s, _, rfl⟩ := List.mem_map.1 hu
  rfl
theorem nums_str8 (l : List UInt8) : strOfNums (l.map fun x => (x.toNat : Int)) = mkS l := by
  apply ba_ext
  rw [strOfNums_data]
  simp only [List.map_map]
  exact (List.map_congr_left fun x _ => by simp).trans (List.map_id _)
abbrev digU : ByteArray := ⟨#[48, 49, 50, 51, 52, 53, 54, 55, 56, 57, 65, 66, 67, 68, 69, 70]⟩
theorem dig_up : ∀ d : Fin 16, bn digU d.val = (hxD d.val).toNat := by decide
theorem take_snoc8 (l : List UInt8) (k : Nat) (c : UInt8) (h : l[k]? = some c) : l.take (k + 1) = l.take k ++ [c] := by rw [List.take_add_one, h]; rfl
theorem bn_of {s : ByteArray} {k : Nat} {c : UInt8} (h : s.data.toList[k]? = some c) : bn s k = c.toNat := by unfold bn; rw [List.getD_eq_getElem?_getD, h]; rfl
theorem rdN8 (w : World) (cs : Array Value) (r : List UInt8) (h : cs.toList = Lib.byteCells r) : Rd (w.alloc (.cells cs 5)) (some ⟨w.heap.size, 0, none⟩) (Lib.byteCells r) := Rd.of_block (heap_alloc_new w _) h
theorem iri_snoc {l : List UInt8} {k : Nat} {c : UInt8} (h : l[k]? = some c) : iriL (l.take (k + 1)) = iriL (l.take k) ++ iriC c := by
  rw [take_snoc8 _ _ _ h, iriL_app]
  congr 1
  unfold iriL
  simp
theorem lit_snoc {l : List UInt8} {k : Nat} {c : UInt8} (h : l[k]? = some c) : litL (l.take (k + 1)) = litL (l.take k) ++ litC c := by
  rw [take_snoc8 _ _ _ h]
  unfold litL
  rw [List.flatMap_append]
  congr 1
  simp
set_option maxRecDepth 20000 in
set_option maxHeartbeats 4000000 in
theorem r08Iri (s : ByteArray) (w : World) (hs : s.size ≤ 1048576) :
    Calls Tryz.prog 59 #[.string s] w fun e w' => e = .returned (.string (mkS (iriL s.data.toList))) ∧ Below w.heap.size w w' := by
  have hz := size_toList s
  go_enter Tryz.func59, Tryz.ntmps59
  go_wp2
  go_loopw [4, 5] (fun v i wr => ∃ (k : Nat) (acc : List UInt8), k ≤ s.size ∧ acc.length ≤ 6 * k ∧ i = .int .i64 k ∧ OwnB w wr v acc ∧ Below w.heap.size w wr ∧ Hid (acc = iriL (s.data.toList.take k))) (fun _ i _ => s.size - (intOf i).toNat)
  case atStart => exact ⟨0, [], by omega, by simp, rfl, World.ownsRow_nil _ _ _ _, Below.refl _ _, rfl⟩
  case round =>
    obtain ⟨k, acc, hk, hal, rfl, own, hB, Ha⟩ := hrel
    have Own := Lib.hid own
    have HB := Lib.hid hB
    have hw0 := hB.size
    obtain ⟨A, cp, hA⟩ := OwnB.form own
    subst hA
    clear hB own
    by_cases hlt : k < s.size
    · obtain ⟨c, hc⟩ : ∃ c, s.data.toList[k]? = some c := ⟨_, List.getElem?_eq_getElem (by rw [hz]; exact hlt)⟩
      have hbc := bn_of hc
      have hn := c.toNat_lt
      have Hnx : Hid (acc ++ iriC c = iriL (s.data.toList.take (k + 1))) := by
        show _ = _
        rw [iri_snoc hc, ← Ha.out]
      clear hc Ha
      have single : ∀ {q : List UInt8}, iriC c = [c] → Hid (acc ++ iriC c = q) → Hid (acc ++ [c] = q) := fun e h => by rw [e] at h; exact h
      have hsame : Lib.byteCells [c] = [.int .u8 (c.toNat : Int)] := rfl
      by_cases h128 : c.toNat < 128
      · have hR := fun W => refRaw (c.toNat : Int) W
        cases hr : rawB (c.toNat : Int)
        · rw [hr] at hR
          have hi : iriC c = [92, 117, 48, 48, hxD (c.toNat / 16), hxD (c.toNat % 16)] := by unfold iriC escC; rw [hr, decide_eq_true h128]; rfl
          rw [hi] at Hnx
          have d1 := dig_up ⟨c.toNat / 16, by omega⟩
          have d2 := dig_up ⟨c.toNat % 16, by omega⟩
          simp only at d1 d2
          clear hi hr single hsame
          generalize hxD (c.toNat / 16) = x1 at *
          generalize hxD (c.toNat % 16) = x2 at *
          generalize c.toNat = n at *
          go_wp2_with (go_at_call 98; refine (hR _).mono ?_; rintro e w1 ⟨rfl, rfl⟩)
          refine Rf.wp_region_pl w.heap.size _ (Rf.Pl.quiet [0, 1, 2, 3, 4, 5, 6, 7, 8] (Rf.Pl.one 9 (Rf.Pl.one 10 (Rf.Pl.quiet [11] (Rf.Pl.done))))) _ (by kernel_rfl) (by kernel_rfl) (by simp only [Rf.Pl.pick, Rf.pickO, List.map_cons, List.map_nil, Rg.pickOps, List.getElem?_toArray, List.getElem?_cons_zero, List.getElem?_cons_succ, Option.getD_some]; rfl) ?_ (fun a w h => h)
          intro wd hbd hwz
          have hle := hbd.size
          have Own1 := Lib.hid ((own_below Own.out hbd (Nat.le_refl _)).alloc (.cells #[.int .u8 92, .int .u8 117, .int .u8 48, .int .u8 48, .int .u8 x1.toNat, .int .u8 x2.toNat] 5))
          have Hb9 : Hid (Below w.heap.size wd (wd.alloc (.cells #[.int .u8 92, .int .u8 117, .int .u8 48, .int .u8 48, .int .u8 x1.toNat, .int .u8 x2.toNat] 5))) := Lib.hid ((Below.refl _ _).alloc (by omega) _)
          have Hbd := Lib.hid (HB.out.trans (hbd.mono hw0))
          clear hwz hbd
          refine Rf.pl_quiet ?_
          iterate 9 go_big_quiet_step (fail)
          refine wpQuiet_nil (Rf.pl_one ?_)
          go_wp2_with fail
          refine ⟨Hb9.out, Rf.pl_one ?_⟩
          go_wp2_with (at_builtin; refine wpList_app (m := 6) rfl rfl Tryz.underlying47 u8Info8 rfl (by omega) rfl Own1.out rfl (rdN8 wd _ [92, 117, 48, 48, x1, x2] rfl) rfl (byteCells_one _) (by omega) (by omega) (by simp; omega) ?_; intro v8 w8 own8 hb8)
          refine ⟨hb8, Rf.pl_quiet ?_⟩
          go_frame
          iterate 1 go_big_quiet_step (fail)
          refine wpQuiet_nil (Rf.pl_done ?_)
          have HF := Lib.hid ((Hbd.out.trans Hb9.out).trans hb8)
          have Own8 := Lib.hid own8
          obtain ⟨A8, c8, hA8⟩ := own_form own8
          subst hA8
          clear own8 hb8 d1 d2
          go_wp2
          go_roundw
          case rel => exact ⟨k + 1, _, by omega, (by rw [List.length_append]; simp only [List.length_cons, List.length_nil]; omega), by go_num, OwnB.snoc (r := [92, 117, 48, 48, x1, x2]) Own8.out rfl, HF.out, Hnx⟩
          case measure => simp [intOf]; omega
        · rw [hr] at hR
          have hi : iriC c = [c] := by unfold iriC escC; rw [hr]; simp
          replace Hnx := single hi Hnx
          clear hi hr single
          have Own1 := Lib.hid (Own.out.alloc (.cells #[.int .u8 c.toNat] 5))
          have Hb9 : Hid (Below w.heap.size wr (wr.alloc (.cells #[.int .u8 c.toNat] 5))) := Lib.hid ((Below.refl _ _).alloc (by omega) _)
          go_wp2_with (first
            | (go_at_call 98; refine (hR _).mono ?_; rintro e w1 ⟨rfl, rfl⟩)
            | (at_builtin; refine wpList_app (m := 1) rfl rfl Tryz.underlying47 u8Info8 rfl (by omega) rfl Own1.out rfl (rdN8 _ _ [c] rfl) rfl (byteCells_one _) (by omega) (by omega) (by simp; omega) ?_; intro v8 w8 own8 hb8; have HF := Lib.hid ((HB.out.trans Hb9.out).trans hb8); have Own8 := Lib.hid own8; obtain ⟨A8, c8, hA8⟩ := own_form own8; subst hA8; clear own8 hb8))
          go_roundw
          case rel => exact ⟨k + 1, _, by omega, (by rw [List.length_append]; simp only [List.length_cons, List.length_nil]; omega), by go_num, OwnB.snoc (r := [c]) Own8.out rfl, HF.out, Hnx⟩
          case measure => simp [intOf]; omega
      · have hi : iriC c = [c] := by unfold iriC escC; rw [decide_eq_false h128]; simp
        replace Hnx := single hi Hnx
        clear hi single
        have Own1 := Lib.hid (Own.out.alloc (.cells #[.int .u8 c.toNat] 5))
        have Hb9 : Hid (Below w.heap.size wr (wr.alloc (.cells #[.int .u8 c.toNat] 5))) := Lib.hid ((Below.refl _ _).alloc (by omega) _)
        go_wp2_with (first
          | (at_builtin; refine wpList_app (m := 1) rfl rfl Tryz.underlying47 u8Info8 rfl (by omega) rfl Own1.out rfl (rdN8 _ _ [c] rfl) rfl (byteCells_one _) (by omega) (by omega) (by simp; omega) ?_; intro v8 w8 own8 hb8; have HF := Lib.hid ((HB.out.trans Hb9.out).trans hb8); have Own8 := Lib.hid own8; obtain ⟨A8, c8, hA8⟩ := own_form own8; subst hA8; clear own8 hb8))
        go_roundw
        case rel => exact ⟨k + 1, _, by omega, (by rw [List.length_append]; simp only [List.length_cons, List.length_nil]; omega), by go_num, OwnB.snoc (r := [c]) Own8.out rfl, HF.out, Hnx⟩
        case measure => simp [intOf]; omega
    · have ht : s.data.toList.take k = s.data.toList := List.take_of_length_le (by rw [hz]; omega)
      have hcv := run_conv_bytes (P := Tryz.prog) (n := acc.length) (c := cp) 47 9 5 Tryz.underlying47 Tryz.underlying5 Tryz.underlying9 (OwnB.nums Own.out rfl) (by simp)
      rw [nums_str8] at hcv
      have HS : Hid (acc = iriL s.data.toList) := by show _ = _; rw [Ha.out, ht]
      clear ht Ha
      go_wp2
      go_ret
      exact ⟨by rw [← HS.out]; rfl, HB.out⟩
set_option maxRecDepth 20000 in
set_option maxHeartbeats 4000000 in
theorem r08Literal (s : ByteArray) (w : World) (hs : s.size ≤ 1048576) :
    Calls Tryz.prog 60 #[.string s] w fun e w' => e = .returned (.string (mkS (litL s.data.toList))) ∧ Below w.heap.size w w' := by
  have hz := size_toList s
  go_enter Tryz.func60, Tryz.ntmps60
  go_wp2
  go_loopw [3, 4] (fun v i wr => ∃ (k : Nat) (acc : List UInt8), k ≤ s.size ∧ acc.length ≤ 6 * k ∧ i = .int .i64 k ∧ OwnB w wr v acc ∧ Below w.heap.size w wr ∧ Hid (acc = litL (s.data.toList.take k))) (fun _ i _ => s.size - (intOf i).toNat)
  case atStart => exact ⟨0, [], by omega, by simp, rfl, World.ownsRow_nil _ _ _ _, Below.refl _ _, rfl⟩
  case round =>
    obtain ⟨k, acc, hk, hal, rfl, own, hB, Ha⟩ := hrel
    have Own := Lib.hid own
    have HB := Lib.hid hB
    have hw0 := hB.size
    obtain ⟨A, cp, hA⟩ := OwnB.form own
    subst hA
    clear hB own
    by_cases hlt : k < s.size
    · obtain ⟨c, hc⟩ : ∃ c, s.data.toList[k]? = some c := ⟨_, List.getElem?_eq_getElem (by rw [hz]; exact hlt)⟩
      have hbc := bn_of hc
      have hn := c.toNat_lt
      have Hnx : Hid (acc ++ litC c = litL (s.data.toList.take (k + 1))) := by
        show _ = _
        rw [lit_snoc hc, ← Ha.out]
      clear hc Ha
      unfold litC at Hnx
      have hne : ∀ x : UInt8, ¬ c.toNat = x.toNat → ¬ c = x := fun x h e => h (by rw [e])
      by_cases h1 : c.toNat = 34
      · obtain rfl : c = 34 := UInt8.toNat_inj.1 h1
        rw [if_pos rfl] at Hnx
        clear h1 hne
        replace hbc : bn s k = 34 := hbc
        have Own1 := Lib.hid (Own.out.alloc (.cells #[.int .u8 92, .int .u8 34] 5))
        have Hb9 : Hid (Below w.heap.size wr (wr.alloc (.cells #[.int .u8 92, .int .u8 34] 5))) := Lib.hid ((Below.refl _ _).alloc (by omega) _)
        go_wp2_with (first
          | (at_builtin; refine wpList_app (m := 2) rfl rfl Tryz.underlying47 u8Info8 rfl (by omega) rfl Own1.out rfl (rdN8 _ _ [92, 34] rfl) rfl (byteCells_one _) (by omega) (by omega) (by simp; omega) ?_; intro v8 w8 own8 hb8; have HF := Lib.hid ((HB.out.trans Hb9.out).trans hb8); have Own8 := Lib.hid own8; obtain ⟨A8, c8, hA8⟩ := own_form own8; subst hA8; clear own8 hb8))
        go_roundw
        case rel => exact ⟨k + 1, _, by omega, (by rw [List.length_append]; simp only [List.length_cons, List.length_nil]; omega), by go_num, OwnB.snoc (r := [92, 34]) Own8.out rfl, HF.out, Hnx⟩
        case measure => simp [intOf]; omega
      rw [if_neg (hne 34 h1)] at Hnx
      by_cases h2 : c.toNat = 92
      · obtain rfl : c = 92 := UInt8.toNat_inj.1 h2
        rw [if_pos rfl] at Hnx
        clear h1 h2 hne
        replace hbc : bn s k = 92 := hbc
        have Own1 := Lib.hid (Own.out.alloc (.cells #[.int .u8 92, .int .u8 92] 5))
        have Hb9 : Hid (Below w.heap.size wr (wr.alloc (.cells #[.int .u8 92, .int .u8 92] 5))) := Lib.hid ((Below.refl _ _).alloc (by omega) _)
        go_wp2_with (first
          | (at_builtin; refine wpList_app (m := 2) rfl rfl Tryz.underlying47 u8Info8 rfl (by omega) rfl Own1.out rfl (rdN8 _ _ [92, 92] rfl) rfl (byteCells_one _) (by omega) (by omega) (by simp; omega) ?_; intro v8 w8 own8 hb8; have HF := Lib.hid ((HB.out.trans Hb9.out).trans hb8); have Own8 := Lib.hid own8; obtain ⟨A8, c8, hA8⟩ := own_form own8; subst hA8; clear own8 hb8))
        go_roundw
        case rel => exact ⟨k + 1, _, by omega, (by rw [List.length_append]; simp only [List.length_cons, List.length_nil]; omega), by go_num, OwnB.snoc (r := [92, 92]) Own8.out rfl, HF.out, Hnx⟩
        case measure => simp [intOf]; omega
      rw [if_neg (hne 92 h2)] at Hnx
      by_cases h3 : c.toNat = 10
      · obtain rfl : c = 10 := UInt8.toNat_inj.1 h3
        rw [if_pos rfl] at Hnx
        clear h1 h2 h3 hne
        replace hbc : bn s k = 10 := hbc
        have Own1 := Lib.hid (Own.out.alloc (.cells #[.int .u8 92, .int .u8 110] 5))
        have Hb9 : Hid (Below w.heap.size wr (wr.alloc (.cells #[.int .u8 92, .int .u8 110] 5))) := Lib.hid ((Below.refl _ _).alloc (by omega) _)
        go_wp2_with (first
          | (at_builtin; refine wpList_app (m := 2) rfl rfl Tryz.underlying47 u8Info8 rfl (by omega) rfl Own1.out rfl (rdN8 _ _ [92, 110] rfl) rfl (byteCells_one _) (by omega) (by omega) (by simp; omega) ?_; intro v8 w8 own8 hb8; have HF := Lib.hid ((HB.out.trans Hb9.out).trans hb8); have Own8 := Lib.hid own8; obtain ⟨A8, c8, hA8⟩ := own_form own8; subst hA8; clear own8 hb8))
        go_roundw
        case rel => exact ⟨k + 1, _, by omega, (by rw [List.length_append]; simp only [List.length_cons, List.length_nil]; omega), by go_num, OwnB.snoc (r := [92, 110]) Own8.out rfl, HF.out, Hnx⟩
        case measure => simp [intOf]; omega
      rw [if_neg (hne 10 h3)] at Hnx
      by_cases h4 : c.toNat = 13
      · obtain rfl : c = 13 := UInt8.toNat_inj.1 h4
        rw [if_pos rfl] at Hnx
        clear h1 h2 h3 h4 hne
        replace hbc : bn s k = 13 := hbc
        have Own1 := Lib.hid (Own.out.alloc (.cells #[.int .u8 92, .int .u8 114] 5))
        have Hb9 : Hid (Below w.heap.size wr (wr.alloc (.cells #[.int .u8 92, .int .u8 114] 5))) := Lib.hid ((Below.refl _ _).alloc (by omega) _)
        go_wp2_with (first
          | (at_builtin; refine wpList_app (m := 2) rfl rfl Tryz.underlying47 u8Info8 rfl (by omega) rfl Own1.out rfl (rdN8 _ _ [92, 114] rfl) rfl (byteCells_one _) (by omega) (by omega) (by simp; omega) ?_; intro v8 w8 own8 hb8; have HF := Lib.hid ((HB.out.trans Hb9.out).trans hb8); have Own8 := Lib.hid own8; obtain ⟨A8, c8, hA8⟩ := own_form own8; subst hA8; clear own8 hb8))
        go_roundw
        case rel => exact ⟨k + 1, _, by omega, (by rw [List.length_append]; simp only [List.length_cons, List.length_nil]; omega), by go_num, OwnB.snoc (r := [92, 114]) Own8.out rfl, HF.out, Hnx⟩
        case measure => simp [intOf]; omega
      rw [if_neg (hne 13 h4)] at Hnx
      clear hne
      have Own1 := Lib.hid (Own.out.alloc (.cells #[.int .u8 c.toNat] 5))
      have Hb9 : Hid (Below w.heap.size wr (wr.alloc (.cells #[.int .u8 c.toNat] 5))) := Lib.hid ((Below.refl _ _).alloc (by omega) _)
      go_wp2_with (first
        | (at_builtin; refine wpList_app (m := 1) rfl rfl Tryz.underlying47 u8Info8 rfl (by omega) rfl Own1.out rfl (rdN8 _ _ [c] rfl) rfl (byteCells_one _) (by omega) (by omega) (by simp; omega) ?_; intro v8 w8 own8 hb8; have HF := Lib.hid ((HB.out.trans Hb9.out).trans hb8); have Own8 := Lib.hid own8; obtain ⟨A8, c8, hA8⟩ := own_form own8; subst hA8; clear own8 hb8))
      go_roundw
      case rel => exact ⟨k + 1, _, by omega, (by rw [List.length_append]; simp only [List.length_cons, List.length_nil]; omega), by go_num, OwnB.snoc (r := [c]) Own8.out rfl, HF.out, Hnx⟩
      case measure => simp [intOf]; omega
    · have ht : s.data.toList.take k = s.data.toList := List.take_of_length_le (by rw [hz]; omega)
      have hcv := run_conv_bytes (P := Tryz.prog) (n := acc.length) (c := cp) 47 9 5 Tryz.underlying47 Tryz.underlying5 Tryz.underlying9 (OwnB.nums Own.out rfl) (by simp)
      rw [nums_str8] at hcv
      have HS : Hid (acc = litL s.data.toList) := by show _ = _; rw [Ha.out, ht]
      clear ht Ha
      go_wp2
      go_ret
      exact ⟨by rw [← HS.out]; rfl, HB.out⟩
end Go.Proofs.YtheeklkcaapkbaaGreatDoor
