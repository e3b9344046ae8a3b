/- The document's layer 25, walked: Number. -/
import Derived.Test.YtfijpdmkdoccjaaGreatDoorJFilRef
namespace Go.Proofs.YtfijpdmkdoccjaaGreatDoor
open Go Go.RowKit Fm

theorem HV_of (m : Bool) (s : ByteArray) (V : Value) (h : numV (numR m s.toList) = V) :
    (s.toList.isEmpty = true → V = .tuple #[.bool false, .string ⟨#[]⟩, .bool false]) ∧ (s.toList.all digs.contains = false → V = .tuple #[.bool false, .string ⟨#[]⟩, .bool false]) ∧
      (s.toList.all digs.contains = true → s.toList.isEmpty = false → V = .tuple #[.bool (m && !(stripT s.toList == [48])), .string ⟨(stripT s.toList).toArray⟩, .bool true]) := by
  subst h
  exact ⟨fun h => numR_no (.inl h), fun h => numR_no (.inr h), fun h h2 => numR_of m _ h2 h⟩
set_option maxHeartbeats 8000000 in
theorem refNumber (k : Int) (x l y : ByteArray) (w : World) (hs : x.size ≤ 281474976710656) :
    Calls Tryz.prog 13 #[.agg #[.int .i64 k, .string x, .string l, .string y]] w fun e w' => e = .returned (numV (numT ⟨k, x, l, y⟩)) ∧ Below w.heap.size w w' := by
  have ht := fun W => refOf k x l y integerS W
  have hfin : numV (numT ⟨k, x, l, y⟩) = if typedB ⟨k, x, l, y⟩ integerS then numV (numL x.toList) else .tuple #[.bool false, .string ⟨#[]⟩, .bool false] := by
    unfold numT
    split <;> rfl
  rw [hfin]
  clear hfin
  generalize typedB ⟨k, x, l, y⟩ integerS = q at ht ⊢
  unfold integerS at ht
  cases q
  · go_enter Tryz.func13, Tryz.ntmps13
    go_wp2_with (go_at_call 42; refine (ht _).mono ?_; rintro e w2 ⟨rfl, hb2⟩)
    go_ret3
    exact ⟨rfl, (by repeat (first | exact Below.refl _ _ | assumption | exact (Below.refl _ _).alloc (Nat.le_refl _) _ | refine below_tr ?_ (by assumption) | refine below_alloc ?_ | refine below_tr ?_ (below_regrown _ _ _)))⟩
  · by_cases h0 : 0 < x.size
    · by_cases h45 : bn x 0 = 45
      · have hV := congrArg numV (numL_minus x h0 h45)
        have hV2 := HV_of _ _ _ hV.symm
        have hss : (x.extract 1 x.size).size ≤ 281474976710656 := by rw [ByteArray.size_extract]; omega
        have HV := Lib.hid hV2
        clear hV hV2
        generalize numV (numL x.toList) = V at *
        have q1 : ((bn x 0 : Int) == 45) = true := by rw [h45]; rfl
        clear h45
        by_cases hs0 : (x.extract 1 x.size).size = 0
        · have he : (x.extract 1 x.size).toList.isEmpty = true := by
            have hsz : (x.extract 1 x.size).toList.length = (x.extract 1 x.size).size := by rw [ByteArray.toList_eq]; exact size_toList _
            rw [List.isEmpty_iff]
            exact List.eq_nil_of_length_eq_zero (by omega)
          have hv := HV.out.1 he
          have Hv := Lib.hid hv
          clear hv HV hs0
          go_enter Tryz.func13, Tryz.ntmps13
          go_wp2_with fail
          refine (ht _).mono ?_
          rintro e w2 ⟨rfl, hb2⟩
          obtain ⟨hc2, hf2⟩ := bcell hb2
          go_wp2
          go_ret3
          exact ⟨by rw [Hv.out]; rfl, (by repeat (first | exact Below.refl _ _ | assumption | exact (Below.refl _ _).alloc (Nat.le_refl _) _ | refine below_tr ?_ (by assumption) | refine below_alloc ?_ | refine below_tr ?_ (below_regrown _ _ _)))⟩
        · have he : (x.extract 1 x.size).toList.isEmpty = false := by
            have hsz : (x.extract 1 x.size).toList.length = (x.extract 1 x.size).size := by rw [ByteArray.toList_eq]; exact size_toList _
            cases h : (x.extract 1 x.size).toList with
            | nil => rw [h, List.length_nil] at hsz; omega
            | cons a r => rfl
          have hs1 : 1 ≤ (x.extract 1 x.size).size := by omega
          clear hs0
          go_enter Tryz.func13, Tryz.ntmps13
          go_wp2_with fail
          refine (ht _).mono ?_
          rintro e w2 ⟨rfl, hb2⟩
          obtain ⟨hc2, hf2⟩ := bcell hb2
          go_wp2
          generalize x.extract 1 x.size = s at *
          go_loop [7] (fun i => ∃ j : Nat, j ≤ s.size ∧ i = .int .i64 j ∧ Hid (allD s j)) (fun i => s.size - (intOf i).toNat)
          case atStart => exact ⟨0, by omega, rfl, fun j h => by omega⟩
          case round =>
            obtain ⟨j, hj, rfl, Hd⟩ := hrel
            by_cases hlt : j < s.size
            · by_cases hlo : bn s j < 48
              · have q1 : decide ((bn s j : Int) < 48) = true := by simp; omega
                have hv := HV.out.2.1 (not_digs s j hlt (.inl hlo))
                have Hv := Lib.hid hv
                clear hv HV Hd hlo
                go_wp2
                go_ret3
                exact ⟨by rw [Hv.out]; rfl, (by repeat (first | exact Below.refl _ _ | assumption | exact (Below.refl _ _).alloc (Nat.le_refl _) _ | refine below_tr ?_ (by assumption) | refine below_alloc ?_ | refine below_tr ?_ (below_regrown _ _ _)))⟩
              · have q1 : decide ((bn s j : Int) < 48) = false := by simp; omega
                by_cases hhi : 57 < bn s j
                · have q2 : decide ((57 : Int) < bn s j) = true := by simp; omega
                  have hv := HV.out.2.1 (not_digs s j hlt (.inr hhi))
                  have Hv := Lib.hid hv
                  clear hv HV Hd hlo hhi
                  go_wp2
                  go_ret3
                  exact ⟨by rw [Hv.out]; rfl, (by repeat (first | exact Below.refl _ _ | assumption | exact (Below.refl _ _).alloc (Nat.le_refl _) _ | refine below_tr ?_ (by assumption) | refine below_alloc ?_ | refine below_tr ?_ (below_regrown _ _ _)))⟩
                · have q2 : decide ((57 : Int) < bn s j) = false := by simp; omega
                  have Hd2 : Hid (allD s (j+1)) := fun i hi => by
                    rcases Nat.lt_or_ge i j with h | h
                    · exact Hd.out i h
                    · obtain rfl : i = j := by omega
                      omega
                  clear hlo hhi Hd
                  go_wp2
                  go_round
                  case rel => exact ⟨j+1, by omega, by go_num, Hd2⟩
                  case measure => simp [intOf]; omega
            · obtain rfl : j = s.size := by omega
              have h2 := HV.out.2.2 (all_digs s Hd.out) he
              have HV2 := Lib.hid h2
              clear h2 Hd
              go_wp2
              go_loop [5] (fun v => ∃ t : ByteArray, v = .string t ∧ 1 ≤ t.size ∧ t.size ≤ 281474976710656 ∧ Hid (stripT t.toList = stripT s.toList)) (fun v => vsz v)
              case atStart => exact ⟨s, rfl, by omega, by omega, rfl⟩
              case round =>
                obtain ⟨t, rfl, ht1, ht2, H⟩ := hrel
                obtain ⟨b, htl, hb⟩ := toList_cons t (by omega)
                by_cases hlt : 1 < t.size
                · have d0 : 0 < t.size := by omega
                  by_cases h48 : bn t 0 = 48
                  · have hb48 : b = 48 := u8_ofNat b 48 (by omega) (by omega)
                    have q1 : ((bn t 0 : Int) == 48) = true := by rw [h48]; rfl
                    have hsz : (t.extract 1 t.size).size = t.size - 1 := by rw [ByteArray.size_extract]; omega
                    have H2 : Hid (stripT (t.extract 1 t.size).toList = stripT s.toList) := by
                      show stripT _ = _
                      rw [← H.out, htl, hb48, stripT_zero]
                    have Hsz := Lib.hid hsz
                    clear htl hb hb48 H hsz h48
                    go_wp2
                    go_round
                    case rel => exact ⟨_, rfl, by rw [Hsz.out]; omega, by rw [Hsz.out]; omega, H2⟩
                    case measure => simp only [vsz, Hsz.out]; omega
                  · have hb48 : b ≠ 48 := fun e => h48 (by rw [hb, e]; rfl)
                    have q1 : ((bn t 0 : Int) == 48) = false := by rw [beq_eq_false_iff_ne]; omega
                    have H2 : Hid (t.toList = stripT s.toList) := by
                      show t.toList = _
                      rw [← H.out, htl, stripT_stop _ _ hb48]
                    clear htl hb hb48 H h48
                    have HF : Hid (V = .tuple #[.bool (true && !(t.toList == [48])), .string t, .bool true]) := by
                      show V = _
                      rw [HV2.out, ← H2.out]
                      congr 3
                      rw [ByteArray.toList_eq]
                    clear HV2 H2
                    go_wp2
                    all_goals
                      go_ret3
                      exact ⟨by rw [HF.out]; simp [*], (by repeat (first | exact Below.refl _ _ | assumption | exact (Below.refl _ _).alloc (Nat.le_refl _) _ | refine below_tr ?_ (by assumption) | refine below_alloc ?_ | refine below_tr ?_ (below_regrown _ _ _)))⟩
                · have hone : t.size = 1 := by omega
                  have hnil : (t.extract 1 t.size).toList = [] := by
                    have hsz : (t.extract 1 t.size).toList.length = (t.extract 1 t.size).size := by rw [ByteArray.toList_eq]; exact size_toList _
                    rw [ByteArray.size_extract] at hsz
                    exact List.eq_nil_of_length_eq_zero (by omega)
                  have H2 : Hid (t.toList = stripT s.toList) := by
                    show t.toList = _
                    rw [← H.out, htl, hnil]
                    by_cases hb48 : b = 48
                    · subst hb48; rfl
                    · rw [stripT_stop _ _ hb48]
                  have d1 : decide (1 < t.size) = false := by simp; omega
                  clear htl hb H hnil hone
                  have HF : Hid (V = .tuple #[.bool (true && !(t.toList == [48])), .string t, .bool true]) := by
                    show V = _
                    rw [HV2.out, ← H2.out]
                    congr 3
                    rw [ByteArray.toList_eq]
                  clear HV2 H2
                  go_wp2
                  all_goals
                    go_ret3
                    exact ⟨by rw [HF.out]; simp [*], (by repeat (first | exact Below.refl _ _ | assumption | exact (Below.refl _ _).alloc (Nat.le_refl _) _ | refine below_tr ?_ (by assumption) | refine below_alloc ?_ | refine below_tr ?_ (below_regrown _ _ _)))⟩
      · by_cases h43 : bn x 0 = 43
        · have hV := congrArg numV (numL_plus x h0 h43)
          have hV2 := HV_of _ _ _ hV.symm
          have hss : (x.extract 1 x.size).size ≤ 281474976710656 := by rw [ByteArray.size_extract]; omega
          have HV := Lib.hid hV2
          clear hV hV2
          generalize numV (numL x.toList) = V at *
          have q1 : ((bn x 0 : Int) == 45) = false := by rw [beq_eq_false_iff_ne]; omega
          have q2 : ((bn x 0 : Int) == 43) = true := by rw [h43]; rfl
          clear h43 h45
          by_cases hs0 : (x.extract 1 x.size).size = 0
          · have he : (x.extract 1 x.size).toList.isEmpty = true := by
              have hsz : (x.extract 1 x.size).toList.length = (x.extract 1 x.size).size := by rw [ByteArray.toList_eq]; exact size_toList _
              rw [List.isEmpty_iff]
              exact List.eq_nil_of_length_eq_zero (by omega)
            have hv := HV.out.1 he
            have Hv := Lib.hid hv
            clear hv HV hs0
            go_enter Tryz.func13, Tryz.ntmps13
            go_wp2_with fail
            refine (ht _).mono ?_
            rintro e w2 ⟨rfl, hb2⟩
            obtain ⟨hc2, hf2⟩ := bcell hb2
            go_wp2
            go_ret3
            exact ⟨by rw [Hv.out]; rfl, (by repeat (first | exact Below.refl _ _ | assumption | exact (Below.refl _ _).alloc (Nat.le_refl _) _ | refine below_tr ?_ (by assumption) | refine below_alloc ?_ | refine below_tr ?_ (below_regrown _ _ _)))⟩
          · have he : (x.extract 1 x.size).toList.isEmpty = false := by
              have hsz : (x.extract 1 x.size).toList.length = (x.extract 1 x.size).size := by rw [ByteArray.toList_eq]; exact size_toList _
              cases h : (x.extract 1 x.size).toList with
              | nil => rw [h, List.length_nil] at hsz; omega
              | cons a r => rfl
            have hs1 : 1 ≤ (x.extract 1 x.size).size := by omega
            clear hs0
            go_enter Tryz.func13, Tryz.ntmps13
            go_wp2_with fail
            refine (ht _).mono ?_
            rintro e w2 ⟨rfl, hb2⟩
            obtain ⟨hc2, hf2⟩ := bcell hb2
            go_wp2
            generalize x.extract 1 x.size = s at *
            go_loop [7] (fun i => ∃ j : Nat, j ≤ s.size ∧ i = .int .i64 j ∧ Hid (allD s j)) (fun i => s.size - (intOf i).toNat)
            case atStart => exact ⟨0, by omega, rfl, fun j h => by omega⟩
            case round =>
              obtain ⟨j, hj, rfl, Hd⟩ := hrel
              by_cases hlt : j < s.size
              · by_cases hlo : bn s j < 48
                · have q1 : decide ((bn s j : Int) < 48) = true := by simp; omega
                  have hv := HV.out.2.1 (not_digs s j hlt (.inl hlo))
                  have Hv := Lib.hid hv
                  clear hv HV Hd hlo
                  go_wp2
                  go_ret3
                  exact ⟨by rw [Hv.out]; rfl, (by repeat (first | exact Below.refl _ _ | assumption | exact (Below.refl _ _).alloc (Nat.le_refl _) _ | refine below_tr ?_ (by assumption) | refine below_alloc ?_ | refine below_tr ?_ (below_regrown _ _ _)))⟩
                · have q1 : decide ((bn s j : Int) < 48) = false := by simp; omega
                  by_cases hhi : 57 < bn s j
                  · have q2 : decide ((57 : Int) < bn s j) = true := by simp; omega
                    have hv := HV.out.2.1 (not_digs s j hlt (.inr hhi))
                    have Hv := Lib.hid hv
                    clear hv HV Hd hlo hhi
                    go_wp2
                    go_ret3
                    exact ⟨by rw [Hv.out]; rfl, (by repeat (first | exact Below.refl _ _ | assumption | exact (Below.refl _ _).alloc (Nat.le_refl _) _ | refine below_tr ?_ (by assumption) | refine below_alloc ?_ | refine below_tr ?_ (below_regrown _ _ _)))⟩
                  · have q2 : decide ((57 : Int) < bn s j) = false := by simp; omega
                    have Hd2 : Hid (allD s (j+1)) := fun i hi => by
                      rcases Nat.lt_or_ge i j with h | h
                      · exact Hd.out i h
                      · obtain rfl : i = j := by omega
                        omega
                    clear hlo hhi Hd
                    go_wp2
                    go_round
                    case rel => exact ⟨j+1, by omega, by go_num, Hd2⟩
                    case measure => simp [intOf]; omega
              · obtain rfl : j = s.size := by omega
                have h2 := HV.out.2.2 (all_digs s Hd.out) he
                have HV2 := Lib.hid h2
                clear h2 Hd
                go_wp2
                go_loop [5] (fun v => ∃ t : ByteArray, v = .string t ∧ 1 ≤ t.size ∧ t.size ≤ 281474976710656 ∧ Hid (stripT t.toList = stripT s.toList)) (fun v => vsz v)
                case atStart => exact ⟨s, rfl, by omega, by omega, rfl⟩
                case round =>
                  obtain ⟨t, rfl, ht1, ht2, H⟩ := hrel
                  obtain ⟨b, htl, hb⟩ := toList_cons t (by omega)
                  by_cases hlt : 1 < t.size
                  · have d0 : 0 < t.size := by omega
                    by_cases h48 : bn t 0 = 48
                    · have hb48 : b = 48 := u8_ofNat b 48 (by omega) (by omega)
                      have q1 : ((bn t 0 : Int) == 48) = true := by rw [h48]; rfl
                      have hsz : (t.extract 1 t.size).size = t.size - 1 := by rw [ByteArray.size_extract]; omega
                      have H2 : Hid (stripT (t.extract 1 t.size).toList = stripT s.toList) := by
                        show stripT _ = _
                        rw [← H.out, htl, hb48, stripT_zero]
                      have Hsz := Lib.hid hsz
                      clear htl hb hb48 H hsz h48
                      go_wp2
                      go_round
                      case rel => exact ⟨_, rfl, by rw [Hsz.out]; omega, by rw [Hsz.out]; omega, H2⟩
                      case measure => simp only [vsz, Hsz.out]; omega
                    · have hb48 : b ≠ 48 := fun e => h48 (by rw [hb, e]; rfl)
                      have q1 : ((bn t 0 : Int) == 48) = false := by rw [beq_eq_false_iff_ne]; omega
                      have H2 : Hid (t.toList = stripT s.toList) := by
                        show t.toList = _
                        rw [← H.out, htl, stripT_stop _ _ hb48]
                      clear htl hb hb48 H h48
                      have HF : Hid (V = .tuple #[.bool (false && !(t.toList == [48])), .string t, .bool true]) := by
                        show V = _
                        rw [HV2.out, ← H2.out]
                        congr 3
                        rw [ByteArray.toList_eq]
                      clear HV2 H2
                      go_wp2
                      all_goals
                        go_ret3
                        exact ⟨by rw [HF.out]; simp [*], (by repeat (first | exact Below.refl _ _ | assumption | exact (Below.refl _ _).alloc (Nat.le_refl _) _ | refine below_tr ?_ (by assumption) | refine below_alloc ?_ | refine below_tr ?_ (below_regrown _ _ _)))⟩
                  · have hone : t.size = 1 := by omega
                    have hnil : (t.extract 1 t.size).toList = [] := by
                      have hsz : (t.extract 1 t.size).toList.length = (t.extract 1 t.size).size := by rw [ByteArray.toList_eq]; exact size_toList _
                      rw [ByteArray.size_extract] at hsz
                      exact List.eq_nil_of_length_eq_zero (by omega)
                    have H2 : Hid (t.toList = stripT s.toList) := by
                      show t.toList = _
                      rw [← H.out, htl, hnil]
                      by_cases hb48 : b = 48
                      · subst hb48; rfl
                      · rw [stripT_stop _ _ hb48]
                    have d1 : decide (1 < t.size) = false := by simp; omega
                    clear htl hb H hnil hone
                    have HF : Hid (V = .tuple #[.bool (false && !(t.toList == [48])), .string t, .bool true]) := by
                      show V = _
                      rw [HV2.out, ← H2.out]
                      congr 3
                      rw [ByteArray.toList_eq]
                    clear HV2 H2
                    go_wp2
                    all_goals
                      go_ret3
                      exact ⟨by rw [HF.out]; simp [*], (by repeat (first | exact Below.refl _ _ | assumption | exact (Below.refl _ _).alloc (Nat.le_refl _) _ | refine below_tr ?_ (by assumption) | refine below_alloc ?_ | refine below_tr ?_ (below_regrown _ _ _)))⟩
        · have hV := congrArg numV (numL_bare x h0 h45 h43)
          have hV2 := HV_of _ x _ hV.symm
          have HV := Lib.hid hV2
          clear hV hV2
          generalize numV (numL x.toList) = V at *
          have q1 : ((bn x 0 : Int) == 45) = false := by rw [beq_eq_false_iff_ne]; omega
          have q2 : ((bn x 0 : Int) == 43) = false := by rw [beq_eq_false_iff_ne]; omega
          clear h45 h43
          by_cases hs0 : x.size = 0
          · have he : x.toList.isEmpty = true := by
              have hsz : x.toList.length = x.size := by rw [ByteArray.toList_eq]; exact size_toList _
              rw [List.isEmpty_iff]
              exact List.eq_nil_of_length_eq_zero (by omega)
            have hv := HV.out.1 he
            have Hv := Lib.hid hv
            clear hv HV hs0
            go_enter Tryz.func13, Tryz.ntmps13
            go_wp2_with fail
            refine (ht _).mono ?_
            rintro e w2 ⟨rfl, hb2⟩
            obtain ⟨hc2, hf2⟩ := bcell hb2
            go_wp2
            go_ret3
            exact ⟨by rw [Hv.out]; rfl, (by repeat (first | exact Below.refl _ _ | assumption | exact (Below.refl _ _).alloc (Nat.le_refl _) _ | refine below_tr ?_ (by assumption) | refine below_alloc ?_ | refine below_tr ?_ (below_regrown _ _ _)))⟩
          · have he : x.toList.isEmpty = false := by
              have hsz : x.toList.length = x.size := by rw [ByteArray.toList_eq]; exact size_toList _
              cases h : x.toList with
              | nil => rw [h, List.length_nil] at hsz; omega
              | cons a r => rfl
            have hs1 : 1 ≤ x.size := by omega
            clear hs0
            go_enter Tryz.func13, Tryz.ntmps13
            go_wp2_with fail
            refine (ht _).mono ?_
            rintro e w2 ⟨rfl, hb2⟩
            obtain ⟨hc2, hf2⟩ := bcell hb2
            go_wp2
            go_loop [7] (fun i => ∃ j : Nat, j ≤ x.size ∧ i = .int .i64 j ∧ Hid (allD x j)) (fun i => x.size - (intOf i).toNat)
            case atStart => exact ⟨0, by omega, rfl, fun j h => by omega⟩
            case round =>
              obtain ⟨j, hj, rfl, Hd⟩ := hrel
              by_cases hlt : j < x.size
              · by_cases hlo : bn x j < 48
                · have q1 : decide ((bn x j : Int) < 48) = true := by simp; omega
                  have hv := HV.out.2.1 (not_digs x j hlt (.inl hlo))
                  have Hv := Lib.hid hv
                  clear hv HV Hd hlo
                  go_wp2
                  go_ret3
                  exact ⟨by rw [Hv.out]; rfl, (by repeat (first | exact Below.refl _ _ | assumption | exact (Below.refl _ _).alloc (Nat.le_refl _) _ | refine below_tr ?_ (by assumption) | refine below_alloc ?_ | refine below_tr ?_ (below_regrown _ _ _)))⟩
                · have q1 : decide ((bn x j : Int) < 48) = false := by simp; omega
                  by_cases hhi : 57 < bn x j
                  · have q2 : decide ((57 : Int) < bn x j) = true := by simp; omega
                    have hv := HV.out.2.1 (not_digs x j hlt (.inr hhi))
                    have Hv := Lib.hid hv
                    clear hv HV Hd hlo hhi
                    go_wp2
                    go_ret3
                    exact ⟨by rw [Hv.out]; rfl, (by repeat (first | exact Below.refl _ _ | assumption | exact (Below.refl _ _).alloc (Nat.le_refl _) _ | refine below_tr ?_ (by assumption) | refine below_alloc ?_ | refine below_tr ?_ (below_regrown _ _ _)))⟩
                  · have q2 : decide ((57 : Int) < bn x j) = false := by simp; omega
                    have Hd2 : Hid (allD x (j+1)) := fun i hi => by
                      rcases Nat.lt_or_ge i j with h | h
                      · exact Hd.out i h
                      · obtain rfl : i = j := by omega
                        omega
                    clear hlo hhi Hd
                    go_wp2
                    go_round
                    case rel => exact ⟨j+1, by omega, by go_num, Hd2⟩
                    case measure => simp [intOf]; omega
              · obtain rfl : j = x.size := by omega
                have h2 := HV.out.2.2 (all_digs x Hd.out) he
                have HV2 := Lib.hid h2
                clear h2 Hd
                go_wp2
                go_loop [5] (fun v => ∃ t : ByteArray, v = .string t ∧ 1 ≤ t.size ∧ t.size ≤ 281474976710656 ∧ Hid (stripT t.toList = stripT x.toList)) (fun v => vsz v)
                case atStart => exact ⟨x, rfl, by omega, by omega, rfl⟩
                case round =>
                  obtain ⟨t, rfl, ht1, ht2, H⟩ := hrel
                  obtain ⟨b, htl, hb⟩ := toList_cons t (by omega)
                  by_cases hlt : 1 < t.size
                  · have d0 : 0 < t.size := by omega
                    by_cases h48 : bn t 0 = 48
                    · have hb48 : b = 48 := u8_ofNat b 48 (by omega) (by omega)
                      have q1 : ((bn t 0 : Int) == 48) = true := by rw [h48]; rfl
                      have hsz : (t.extract 1 t.size).size = t.size - 1 := by rw [ByteArray.size_extract]; omega
                      have H2 : Hid (stripT (t.extract 1 t.size).toList = stripT x.toList) := by
                        show stripT _ = _
                        rw [← H.out, htl, hb48, stripT_zero]
                      have Hsz := Lib.hid hsz
                      clear htl hb hb48 H hsz h48
                      go_wp2
                      go_round
                      case rel => exact ⟨_, rfl, by rw [Hsz.out]; omega, by rw [Hsz.out]; omega, H2⟩
                      case measure => simp only [vsz, Hsz.out]; omega
                    · have hb48 : b ≠ 48 := fun e => h48 (by rw [hb, e]; rfl)
                      have q1 : ((bn t 0 : Int) == 48) = false := by rw [beq_eq_false_iff_ne]; omega
                      have H2 : Hid (t.toList = stripT x.toList) := by
                        show t.toList = _
                        rw [← H.out, htl, stripT_stop _ _ hb48]
                      clear htl hb hb48 H h48
                      have HF : Hid (V = .tuple #[.bool (false && !(t.toList == [48])), .string t, .bool true]) := by
                        show V = _
                        rw [HV2.out, ← H2.out]
                        congr 3
                        rw [ByteArray.toList_eq]
                      clear HV2 H2
                      go_wp2
                      all_goals
                        go_ret3
                        exact ⟨by rw [HF.out]; simp [*], (by repeat (first | exact Below.refl _ _ | assumption | exact (Below.refl _ _).alloc (Nat.le_refl _) _ | refine below_tr ?_ (by assumption) | refine below_alloc ?_ | refine below_tr ?_ (below_regrown _ _ _)))⟩
                  · have hone : t.size = 1 := by omega
                    have hnil : (t.extract 1 t.size).toList = [] := by
                      have hsz : (t.extract 1 t.size).toList.length = (t.extract 1 t.size).size := by rw [ByteArray.toList_eq]; exact size_toList _
                      rw [ByteArray.size_extract] at hsz
                      exact List.eq_nil_of_length_eq_zero (by omega)
                    have H2 : Hid (t.toList = stripT x.toList) := by
                      show t.toList = _
                      rw [← H.out, htl, hnil]
                      by_cases hb48 : b = 48
                      · subst hb48; rfl
                      · rw [stripT_stop _ _ hb48]
                    have d1 : decide (1 < t.size) = false := by simp; omega
                    clear htl hb H hnil hone
                    have HF : Hid (V = .tuple #[.bool (false && !(t.toList == [48])), .string t, .bool true]) := by
                      show V = _
                      rw [HV2.out, ← H2.out]
                      congr 3
                      rw [ByteArray.toList_eq]
                    clear HV2 H2
                    go_wp2
                    all_goals
                      go_ret3
                      exact ⟨by rw [HF.out]; simp [*], (by repeat (first | exact Below.refl _ _ | assumption | exact (Below.refl _ _).alloc (Nat.le_refl _) _ | refine below_tr ?_ (by assumption) | refine below_alloc ?_ | refine below_tr ?_ (below_regrown _ _ _)))⟩
    · have hx0 : x.size = 0 := by omega
      have hV := numL_none x hx0
      rw [hV]
      have he : x.toList.isEmpty = true := by
        have hsz : x.toList.length = x.size := by rw [ByteArray.toList_eq]; exact size_toList x
        rw [List.isEmpty_iff]
        exact List.eq_nil_of_length_eq_zero (by omega)
      have d0 : decide (0 < x.size) = false := decide_eq_false (by omega)
      clear hV h0
      have Hx0 := Lib.hid hx0
      clear hx0
      go_enter Tryz.func13, Tryz.ntmps13
      go_wp2_with fail
      refine (ht _).mono ?_
      rintro e w2 ⟨rfl, hb2⟩
      obtain ⟨hc2, hf2⟩ := bcell hb2
      go_wp2
      go_ret3
      exact ⟨rfl, (by repeat (first | exact Below.refl _ _ | assumption | exact (Below.refl _ _).alloc (Nat.le_refl _) _ | refine below_tr ?_ (by assumption) | refine below_alloc ?_ | refine below_tr ?_ (below_regrown _ _ _)))⟩
end Go.Proofs.YtfijpdmkdoccjaaGreatDoor
