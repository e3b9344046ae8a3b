/- The answer for term (ossuaryref08): valid, small, Right. Reading back, step by step, in plain words. -/
import Derived.Test.YtffpgandgajihaaGreatDoorJUtfMath3
import Derived.Test.YtffpgandgajihaaGreatDoorJUtfRef3
import Derived.Test.YtffpgandgajihaaGreatDoorJWr2
import Derived.Lib.Case
namespace Go.Proofs.YtffpgandgajihaaGreatDoor
open Go Go.RowKit Um Fm

theorem r08Valid (s : ByteArray) (w : World) (hs : s.size ≤ 1048576) :
    Calls Tryz.prog 171 #[.string s] w fun e w' => e = .returned (.bool (validB s)) ∧ Below w.heap.size w w' := by
  have hS := refSigns s w (by omega)
  cases hv : validB s
  · rw [sigR_of_not hv] at hS
    generalize (sigR s.data.toList).2.1 = j at *
    generalize (sigR s.data.toList).1 = l at *
    clear hv
    go_enter Tryz.func171, Tryz.ntmps171
    go_wp2_with (refine hS.mono ?_; rintro e w2 ⟨v, m, rfl, -, hb⟩)
    go_ret
    exact ⟨rfl, hb⟩
  · rw [sigR_of_valid hv] at hS
    generalize (sigR s.data.toList).2.1 = j at *
    generalize (sigR s.data.toList).1 = l at *
    clear hv
    go_enter Tryz.func171, Tryz.ntmps171
    go_wp2_with (refine hS.mono ?_; rintro e w2 ⟨v, m, rfl, -, hb⟩)
    go_ret
    exact ⟨rfl, hb⟩
theorem smallB_at (s : ByteArray) (k : Nat) (h : k < s.size) : smallB (s.data.toList.drop k) = (!(decide (65 ≤ bn s k) && decide (bn s k ≤ 90)) && smallB (s.data.toList.drop (k + 1))) := by
  have hl : k < s.data.toList.length := by rw [size_toList]; exact h
  rw [List.drop_eq_getElem_cons hl]
  unfold smallB
  rw [List.all_cons]
  congr 2
  unfold upB bn
  rw [List.getD_eq_getElem?_getD, List.getElem?_eq_getElem hl]; rfl
theorem r08Small (s : ByteArray) (w : World) (hs : s.size ≤ 1048576) :
    Calls Tryz.prog 172 #[.string s] w fun e w' => e = .returned (.bool (smallB s.data.toList)) ∧ w = w' := by
  go_enter Tryz.func172, Tryz.ntmps172
  go_wp2
  go_loop [3] (fun i => ∃ k : Nat, k ≤ s.size ∧ i = .int .i64 k ∧ Hid (smallB s.data.toList = smallB (s.data.toList.drop k))) (fun i => s.size - (intOf i).toNat)
  case atStart => exact ⟨0, by omega, rfl, rfl⟩
  case round =>
    obtain ⟨k, hk, rfl, H⟩ := hrel
    by_cases hlt : k < s.size
    · have hb := bn_lt s k
      have H2 : Hid (smallB s.data.toList = (!(decide (65 ≤ bn s k) && decide (bn s k ≤ 90)) && smallB (s.data.toList.drop (k + 1)))) := by show _ = _; rw [H.out, smallB_at s k hlt]
      by_cases h1 : 65 ≤ bn s k
      · by_cases h2 : bn s k ≤ 90
        · go_wp2
          go_ret
          exact ⟨by rw [H2.out, decide_eq_true h1, decide_eq_true h2]; rfl, rfl⟩
        · go_wp2
          go_round
          case rel => exact ⟨k + 1, by omega, by go_num, by show _ = _; rw [H2.out, decide_eq_false h2, Bool.and_false, Bool.not_false, Bool.true_and]⟩
          case measure => simp [intOf]; omega
      · go_wp2
        go_round
        case rel => exact ⟨k + 1, by omega, by go_num, by show _ = _; rw [H2.out, decide_eq_false h1, Bool.false_and, Bool.not_false, Bool.true_and]⟩
        case measure => simp [intOf]; omega
    · have H2 : Hid (smallB s.data.toList = true) := by show _ = _; rw [H.out, List.drop_eq_nil_of_le (by rw [size_toList]; omega)]; rfl
      go_wp2
      go_ret
      exact ⟨by rw [H2.out]; rfl, rfl⟩
theorem Calls.quiet_r8 {P : Program} {f : FuncId} {args : Array Value} {w : World} {d : Nat} {os : Array Obj} {v : Value}
    (h : Calls P f args (Sort.grow (redrawn w d) os) fun e w' => e = .returned v ∧ Sort.grow (redrawn w d) os = w') : Calls P f args (Sort.grow (redrawn w d) os) fun e w'' => e = .returned v ∧ ∃ p : Regrown, w'' = Sort.grow (redrawn w p.d) p.os :=
  h.mono fun _ _ ⟨he, hb⟩ => ⟨he, ⟨d, os⟩, hb.symm⟩
theorem empty_app (a b : ByteArray) : emptyB (a ++ b) = (emptyB a && emptyB b) := by
  unfold emptyB
  rw [Bool.eq_iff_iff]
  simp [ByteArray.toList_eq]
set_option maxRecDepth 20000 in
set_option maxHeartbeats 2000000 in
theorem r08Right (t : Tm) (w : World) (hx : t.x.size ≤ 1048576) (hl : t.l.size ≤ 1048576) (hy : t.y.size ≤ 1048576) :
    Calls Tryz.prog 141 #[.agg #[.int .i64 t.k, .string t.x, .string t.l, .string t.y]] w fun e w' => e = .returned (.bool (rightB t)) ∧ Below w.heap.size w w' := by
  obtain ⟨k, x, l, y⟩ := t
  simp only at hx hl hy ⊢
  have hB0 : Below w.heap.size w (w.alloc (.cells #[.int .i64 k, .string x, .string l, .string y] 35)) := (by repeat (first | exact Below.refl _ _ | assumption | exact (Below.refl _ _).alloc (Nat.le_refl _) _ | refine below_tr ?_ (by assumption) | refine below_alloc ?_ | refine below_tr ?_ (below_regrown _ _ _)))
  have r0 : (w.alloc (.cells #[.int .i64 k, .string x, .string l, .string y] 35)).cell? ⟨w.heap.size, 0, none⟩ = some (.int .i64 k) := by rw [World.cell?, heap_alloc_new]; rfl
  have r1 : (w.alloc (.cells #[.int .i64 k, .string x, .string l, .string y] 35)).cell? ⟨w.heap.size, 1, none⟩ = some (.string x) := by rw [World.cell?, heap_alloc_new]; rfl
  have r2 : (w.alloc (.cells #[.int .i64 k, .string x, .string l, .string y] 35)).cell? ⟨w.heap.size, 2, none⟩ = some (.string l) := by rw [World.cell?, heap_alloc_new]; rfl
  have r3 : (w.alloc (.cells #[.int .i64 k, .string x, .string l, .string y] 35)).cell? ⟨w.heap.size, 3, none⟩ = some (.string y) := by rw [World.cell?, heap_alloc_new]; rfl
  obtain ⟨W, hW⟩ : ∃ W : World, w.alloc (.cells #[.int .i64 k, .string x, .string l, .string y] 35) = W := ⟨_, rfl⟩
  rw [hW] at hB0 r0 r1 r2 r3
  have hVx := fun W' => r08Valid x W' hx
  have hVy := fun W' => r08Valid y W' hy
  have hLx := fun W' => refLabel x W' (by omega)
  have hTl := fun W' => refTag l W' (by omega)
  have hSl := fun W' => r08Small l W' hl
  have htg := tagB_small l
  have hlb : labelB x = (!x.toList.isEmpty && ((label x.data.toList : Int) == x.size)) := rfl
  unfold rightB
  simp only [empty_app]
  rw [htg, hlb]
  unfold emptyB xsdL
  clear htg hlb
  generalize validB x = v at *
  generalize validB y = v2 at *
  generalize label x.data.toList = lb at *
  generalize tag l.data.toList = tg at *
  generalize smallB l.data.toList = sm at *
  have HW := Lib.hid hW
  have HB0 := Lib.hid hB0
  clear hW hB0
  by_cases h1 : k = 1
  · subst h1
    rw [if_pos rfl]
    have hV := hVx W
    clear hVx hVy hLx hTl hSl
    cases he1 : l.toList.isEmpty
    all_goals cases he2 : y.toList.isEmpty
    all_goals
      cases v
      all_goals
        go_enter Tryz.func141, Tryz.ntmps141
        go_wp2_with fail
        simp only [HW.out]
        go_wp2_with fail
        refine hV.mono ?_
        rintro e w2 ⟨rfl, hb2⟩
        replace r2 := cell_on r2 hb2
        replace r3 := cell_on r3 hb2
        go_wp2
        go_ret
        exact ⟨rfl, below_tr HB0.out hb2⟩
  rw [if_neg h1]
  by_cases h2 : k = 2
  · subst h2
    rw [if_pos rfl]
    clear hVx hVy hTl hSl h1
    have R1 := fun d os => cell_on r1 (below_regrown W d os)
    have R2 := fun d os => cell_on r2 (below_regrown W d os)
    have R3 := fun d os => cell_on r3 (below_regrown W d os)
    cases he0 : x.toList.isEmpty
    · cases hq : ((lb : Int) == x.size)
      all_goals cases he1 : l.toList.isEmpty
      all_goals cases he2 : y.toList.isEmpty
      all_goals
        go_enter Tryz.func141, Tryz.ntmps141
        go_wp2_with fail
        simp only [HW.out]
        go_wp2
        refine wp_region_quiet_below (by kernel_rfl) (by kernel_rfl) ?_; (repeat (any_goals (go_big_quiet_step ((go_at_call 139; exact Calls.regrown_of (hLx _)))))); all_goals (refine wpQuiet_nil ?_; intro _ hw9; obtain ⟨⟨d9, os9⟩, hw8⟩ := hw9; subst hw8)
        go_wp2
        go_ret
        exact ⟨by simp, HB0.out.trans ((below_regrown _ _ _).mono HB0.out.size)⟩
    · go_enter Tryz.func141, Tryz.ntmps141
      go_wp2_with fail
      simp only [HW.out]
      go_wp2
      refine wp_region_quiet_below (by kernel_rfl) (by kernel_rfl) ?_; (repeat (any_goals (go_big_quiet_step ((fail))))); all_goals (refine wpQuiet_nil ?_; intro _ hw9; obtain ⟨⟨d9, os9⟩, hw8⟩ := hw9; subst hw8)
      go_wp2
      go_ret
      exact ⟨by simp, HB0.out.trans ((below_regrown _ _ _).mono HB0.out.size)⟩
  rw [if_neg h2]
  by_cases h3 : k = 3
  · subst h3
    rw [if_pos rfl]
    clear hVy hLx h1 h2
    have R1 := fun d os => cell_on r1 (below_regrown W d os)
    have R2 := fun d os => cell_on r2 (below_regrown W d os)
    have R3 := fun d os => cell_on r3 (below_regrown W d os)
    cases v
    · clear hTl hSl
      go_enter Tryz.func141, Tryz.ntmps141
      go_wp2_with fail
      simp only [HW.out]
      go_wp2
      refine wp_region_quiet_below (by kernel_rfl) (by kernel_rfl) ?_; (repeat (any_goals (go_big_quiet_step ((go_at_call 171; exact Calls.regrown_of (hVx _)))))); all_goals (refine wpQuiet_nil ?_; intro _ hw9; obtain ⟨⟨d9, os9⟩, hw8⟩ := hw9; subst hw8)
      go_wp2
      go_ret
      exact ⟨by simp, HB0.out.trans ((below_regrown _ _ _).mono HB0.out.size)⟩
    · cases hq : ((tg : Int) == l.size)
      · clear hSl
        go_enter Tryz.func141, Tryz.ntmps141
        go_wp2_with fail
        simp only [HW.out]
        go_wp2
        refine wp_region_quiet_below (by kernel_rfl) (by kernel_rfl) ?_; (repeat (any_goals (go_big_quiet_step ((first | (go_at_call 171; with_reducible exact Calls.regrown_of (hVx _)) | (go_at_call 140; with_reducible exact Calls.quiet_r8 (hTl _))))))); all_goals (refine wpQuiet_nil ?_; intro _ hw9; obtain ⟨⟨d9, os9⟩, hw8⟩ := hw9; subst hw8)
        go_wp2
        go_ret
        exact ⟨by simp, HB0.out.trans ((below_regrown _ _ _).mono HB0.out.size)⟩
      · cases he2 : y.toList.isEmpty
        all_goals cases sm
        all_goals
          go_enter Tryz.func141, Tryz.ntmps141
          go_wp2_with fail
          simp only [HW.out]
          go_wp2
          refine wp_region_quiet_below (by kernel_rfl) (by kernel_rfl) ?_; (repeat (any_goals (go_big_quiet_step ((first | (go_at_call 171; with_reducible exact Calls.regrown_of (hVx _)) | (go_at_call 140; with_reducible exact Calls.quiet_r8 (hTl _)) | (go_at_call 172; with_reducible exact Calls.quiet_r8 (hSl _))))))); all_goals (refine wpQuiet_nil ?_; intro _ hw9; obtain ⟨⟨d9, os9⟩, hw8⟩ := hw9; subst hw8)
          go_wp2
          go_ret
          exact ⟨by simp, HB0.out.trans ((below_regrown _ _ _).mono HB0.out.size)⟩
  rw [if_neg h3]
  by_cases h4 : k = 4
  · subst h4
    rw [if_pos rfl]
    have hV := hVx W
    clear hVx hLx hTl hSl h1 h2 h3
    cases v
    · clear hVy
      go_enter Tryz.func141, Tryz.ntmps141
      go_wp2_with fail
      simp only [HW.out]
      go_wp2_with (refine hV.mono ?_; rintro e w2 ⟨rfl, hb2⟩)
      go_ret
      exact ⟨by simp, below_tr HB0.out hb2⟩
    · cases he : l.toList.isEmpty
      · clear hVy
        go_enter Tryz.func141, Tryz.ntmps141
        go_wp2_with fail
        simp only [HW.out]
        go_wp2_with fail
        refine hV.mono ?_
        rintro e w2 ⟨rfl, hb2⟩
        replace r2 := cell_on r2 hb2
        replace r3 := cell_on r3 hb2
        go_wp2
        go_ret
        exact ⟨by simp, below_tr HB0.out hb2⟩
      · cases hq : (y.toList == [104, 116, 116, 112, 58, 47, 47, 119, 119, 119, 46, 119, 51, 46, 111, 114, 103, 47, 50, 48, 48, 49, 47, 88, 77, 76, 83, 99, 104, 101, 109, 97, 35, 115, 116, 114, 105, 110, 103])
        all_goals
          have hqn : (y.toList != [104, 116, 116, 112, 58, 47, 47, 119, 119, 119, 46, 119, 51, 46, 111, 114, 103, 47, 50, 48, 48, 49, 47, 88, 77, 76, 83, 99, 104, 101, 109, 97, 35, 115, 116, 114, 105, 110, 103]) = !(y.toList == [104, 116, 116, 112, 58, 47, 47, 119, 119, 119, 46, 119, 51, 46, 111, 114, 103, 47, 50, 48, 48, 49, 47, 88, 77, 76, 83, 99, 104, 101, 109, 97, 35, 115, 116, 114, 105, 110, 103]) := rfl
          rw [hq] at hqn
          go_enter Tryz.func141, Tryz.ntmps141
          go_wp2_with fail
          simp only [HW.out]
          go_wp2_with fail
          refine hV.mono ?_
          rintro e w2 ⟨rfl, hb2⟩
          replace r2 := cell_on r2 hb2
          replace r3 := cell_on r3 hb2
          have hT := hVy w2
          clear hVy hV
          cases v2
          all_goals
            go_wp2_with fail
            refine hT.mono ?_
            rintro e w3 ⟨rfl, hb3⟩
            replace r3 := cell_on r3 hb3
            go_wp2
            go_ret
            exact ⟨by simp, below_tr (below_tr HB0.out hb2) hb3⟩
  · rw [if_neg h4]
    clear hVx hVy hLx hTl hSl
    go_enter Tryz.func141, Tryz.ntmps141
    go_wp2_with fail
    simp only [HW.out]
    go_wp2
    go_ret
    exact ⟨rfl, HB0.out⟩
end Go.Proofs.YtffpgandgajihaaGreatDoor
namespace Go.Proofs.YtffpgandgajihaaGreatDoor.Tx
open Go Go.RowKit Um Fm Lx

theorem rdG_pre (p : List UInt8 → Option Nat) : ∀ (a r : List UInt8), (∀ b ∈ a, b ≠ 92) → rdG p (a ++ r) = a ++ rdG p r
  | [], r, _ => rfl
  | c :: t, r, h => by
    rw [List.cons_append, rdG_plain p c _ (h c (by simp)), rdG_pre p t r (fun b hb => h b (by simp [hb]))]; rfl
theorem rdG_all (p : List UInt8 → Option Nat) (a : List UInt8) (h : ∀ b ∈ a, b ≠ 92) : rdG p a = a := by
  have := rdG_pre p a [] h
  rw [List.append_nil, rdG_nil, List.append_nil] at this
  exact this
/-- Where the first \ stands. -/
def slashN : List UInt8 → Nat
  | [] => 0
  | c :: t => if c = 92 then 0 else slashN t + 1
theorem slash_here (t : List UInt8) : slashN (92 :: t) = 0 := by rw [slashN, if_pos rfl]
theorem slash_on {c : UInt8} (t : List UInt8) (h : c ≠ 92) : slashN (c :: t) = slashN t + 1 := by rw [slashN, if_neg h]
theorem slash_pre : ∀ l : List UInt8, ∀ b ∈ l.take (slashN l), b ≠ 92
  | [], b, hb => by simp at hb
  | c :: t, b, hb => by
    by_cases h : c = 92
    · subst h; rw [slash_here] at hb; simp at hb
    · rw [slash_on t h, List.take_succ_cons, List.mem_cons] at hb
      rcases hb with rfl | hb
      · exact h
      · exact slash_pre t b hb
theorem slash_le : ∀ l : List UInt8, slashN l ≤ l.length
  | [] => Nat.le_refl _
  | c :: t => by
    by_cases h : c = 92
    · subst h; rw [slash_here]; omega
    · rw [slash_on t h, List.length_cons]; have := slash_le t; omega
theorem slash_at : ∀ l : List UInt8, slashN l < l.length → l.drop (slashN l) = 92 :: l.drop (slashN l + 1)
  | [], h => by simp at h
  | c :: t, h => by
    by_cases hc : c = 92
    · subst hc; rw [slash_here]; rfl
    · rw [slash_on t hc] at h ⊢
      rw [List.drop_succ_cons, List.drop_succ_cons]
      exact slash_at t (by rw [List.length_cons] at h; omega)
/-- A text in which no \ stands, or one at the end alone, is read as it is. -/
theorem rdG_flat (p : List UInt8 → Option Nat) (l : List UInt8) (h : l.length ≤ slashN l + 1) : rdG p l = l := by
  by_cases h1 : slashN l < l.length
  · have e := slash_at l h1
    have e2 : l = l.take (slashN l) ++ [92] := by
      conv => lhs; rw [← List.take_append_drop (slashN l) l, e, List.drop_eq_nil_of_le (by omega)]
    conv => lhs; rw [e2]
    rw [rdG_pre p _ _ (slash_pre l), rdG_last]; exact e2.symm
  · have e2 : l.take (slashN l) = l := List.take_of_length_le (by have := slash_le l; omega)
    exact rdG_all p l (by have := slash_pre l; rw [e2] at this; exact this)
/-- One step: what stands ahead of the first \, the sign behind it, the rest. -/
theorem rdG_step (p : List UInt8 → Option Nat) (l : List UInt8) (h : slashN l + 1 < l.length) :
    ∃ (c : UInt8) (r : List UInt8), l.drop (slashN l) = 92 :: c :: r ∧ l.drop (slashN l + 2) = r ∧ l.getD (slashN l + 1) 0 = c ∧
      (∀ n, c = 117 → p r = some n → rdG p l = l.take (slashN l) ++ UInt8.ofNat n :: rdG p (r.drop 4)) ∧
      ((c ≠ 117 ∨ p r = none) → rdG p l = l.take (slashN l) ++ (if c = 110 then 10 else if c = 114 then 13 else c) :: rdG p r) := by
  have e := slash_at l (by omega)
  have hd : l.drop (slashN l + 1) = l[slashN l + 1] :: l.drop (slashN l + 1 + 1) := List.drop_eq_getElem_cons h
  have e1 : rdG p l = l.take (slashN l) ++ rdG p (l.drop (slashN l)) := by
    conv => lhs; rw [← List.take_append_drop (slashN l) l]
    exact rdG_pre p _ _ (slash_pre l)
  refine ⟨l[slashN l + 1], l.drop (slashN l + 2), by rw [e, hd], rfl, by rw [List.getD_eq_getElem?_getD, List.getElem?_eq_getElem h]; rfl, ?_, ?_⟩
  · intro n hc hp
    rw [e1, e, hd, hc, rdG_u p n _ hp]
  · intro hc
    rw [e1, e, hd, rdG_esc p _ _ hc]
/-- Where the library finds the first \. -/
theorem slash_index : ∀ l : List UInt8, Lib.indexByte l 92 = if slashN l < l.length then (slashN l : Int) else -1
  | [] => rfl
  | c :: t => by
    have ih := slash_index t
    unfold Lib.indexByte
    by_cases h : c = 92
    · subst h
      rw [slash_here]; simp
    · rw [if_neg (by simpa using h), ih, slash_on t h, List.length_cons]
      by_cases h2 : slashN t < t.length
      · rw [if_pos h2, if_neg (by simp), if_pos (by omega)]; omega
      · rw [if_neg h2, if_pos (by rfl), if_neg (by omega)]
end Go.Proofs.YtffpgandgajihaaGreatDoor.Tx
