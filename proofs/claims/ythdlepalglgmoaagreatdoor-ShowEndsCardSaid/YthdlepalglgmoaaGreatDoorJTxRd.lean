/- A region that draws its order, one operation of which (L) may write to whatever block: what is moved ahead of it stands before it, by a path of edges, or comes after it is listed. The program's package lex, walked: span. The program's package lex, walked: what a token's call keeps. The program's package lex, walked: token. Printed by gen/lex9.py. The program's package lex, walked: Line. The answer for lex (ossuaryref09): Line. The answer for term (ossuaryref08): valid, small, Right. Reading back, step by step, in plain words. -/
import Derived.Test.YthdlepalglgmoaaGreatDoorJRegion4
import Derived.Lib.AppendStr
import Derived.Deep.CutRange
import Derived.Test.YthdlepalglgmoaaGreatDoorJUtfProg5
import Derived.Test.YthdlepalglgmoaaGreatDoorJUtfRef3
import Derived.Test.YthdlepalglgmoaaGreatDoorJUtfMath3
import Derived.Test.YthdlepalglgmoaaGreatDoorJTxMath
import Derived.Lib.Case
namespace Go.Proofs.YthdlepalglgmoaaGreatDoor.Rn
open Go Go.Sort Go.RowKit Rg Rh Rf Rl

section
variable {P : Program} {ops : Array Oper}

/-- What stands behind i (edges point down). -/
def behind (ops : Array Oper) (i : Nat) : List Nat := (List.range ops.size).foldl (fun S k => match ops[k]? with
  | none => S
  | some o => if o.after.any fun e => Region.binds .any e && S.contains e.on then k :: S else S) [i]
def BehindOK (ops : Array Oper) (i : Nat) (S : List Nat) : Prop := ∀ k ∈ S, k = i ∨ ∃ (o : Oper) (e : Edge), ops[k]? = some o ∧ e ∈ o.after ∧ Region.binds .any e = true ∧ e.on ∈ S
theorem behind_ok (i : Nat) : BehindOK ops i (behind ops i) := by
  unfold behind
  suffices h : ∀ (l : List Nat) (S : List Nat), BehindOK ops i S → BehindOK ops i (l.foldl (fun S k => match ops[k]? with
      | none => S
      | some o => if o.after.any fun e => Region.binds .any e && S.contains e.on then k :: S else S) S) from
    h _ _ (fun k hk => .inl (by simpa using hk))
  intro l
  induction l with
  | nil => exact fun S h => h
  | cons k l ih =>
    intro S h
    rw [List.foldl_cons]
    refine ih _ ?_
    split
    · exact h
    · rename_i o ho
      split
      · rename_i hany
        obtain ⟨e, he, hb⟩ := Array.any_eq_true'.1 hany
        rw [Bool.and_eq_true] at hb
        have hm : e.on ∈ S := by simpa using hb.2
        intro k' hk'
        rcases List.mem_cons.1 hk' with rfl | hk'
        · exact .inr ⟨o, e, ho, he, hb.1, List.mem_cons_of_mem _ hm⟩
        · rcases h k' hk' with h1 | ⟨o', e', h1, h2, h3, h4⟩
          · exact .inl h1
          · exact .inr ⟨o', e', h1, h2, h3, List.mem_cons_of_mem _ h4⟩
      · exact h
/-- While i is open, L can't run: L is listed, or stands behind i. -/
def Holds (ops : Array Oper) (L i : Nat) (listed : Array Bool) : Prop := listed.getD L true = true ∨ ∃ S, BehindOK ops i S ∧ L ∈ S ∧ L ≠ i ∧ ∀ k ∈ S, listed.getD k true = false
def holdsB (ops : Array Oper) (L i : Nat) (listed : Array Bool) : Bool := listed.getD L true || ((behind ops i).contains L && L != i && (behind ops i).all fun k => !listed.getD k true)
theorem holds_of {L i : Nat} {listed : Array Bool} (h : holdsB ops L i listed = true) : Holds ops L i listed := by
  unfold holdsB at h
  simp only [Bool.or_eq_true, Bool.and_eq_true, bne_iff_ne, ne_eq, List.all_eq_true, Bool.not_eq_true', List.contains_iff_mem] at h
  rcases h with h | ⟨⟨h1, h2⟩, h3⟩
  · exact .inl h
  · exact .inr ⟨_, behind_ok i, h1, h2, h3⟩
theorem Holds.set {L i j : Nat} {listed : Array Bool} (h : Holds ops L i listed) (hji : j ≠ i) (hj : j ∈ Region.ready .any ops listed) : Holds ops L i (listed.setIfInBounds j true) := by
  obtain ⟨hjun, oj, hoj, hall⟩ := mem_ready.1 hj
  rcases h with h | ⟨S, hS, hL, hLi, hun⟩
  · refine .inl ?_
    by_cases hjL : j = L
    · subst hjL; rw [hjun] at h; cases h
    · rw [getD_set_ne true hjL]; exact h
  · refine .inr ⟨S, hS, hL, hLi, fun k hk => ?_⟩
    have hjS : j ∉ S := fun hm => by
      rcases hS _ hm with h | ⟨o, e, ho, he, hb, hm⟩
      · exact hji h
      · rw [hoj] at ho; injection ho with ho; subst ho
        have := hun _ hm
        rcases Nat.lt_or_ge e.on listed.size with h' | h'
        · have h1 := hall e he hb
          simp [h'] at h1 this; rw [h1] at this; cases this
        · simp [Array.getElem?_eq_none h'] at this
    have hne : j ≠ k := fun e => hjS (e ▸ hk)
    rw [getD_set_ne true hne]; exact hun k hk

end
end Go.Proofs.YthdlepalglgmoaaGreatDoor.Rn
namespace Go.Proofs.YthdlepalglgmoaaGreatDoor
open Go Go.RowKit Um Lx

end Go.Proofs.YthdlepalglgmoaaGreatDoor
namespace Go.Proofs.YthdlepalglgmoaaGreatDoor
open Go Go.RowKit Um Lx

end Go.Proofs.YthdlepalglgmoaaGreatDoor
namespace Go.Proofs.YthdlepalglgmoaaGreatDoor
open Go Go.RowKit Um Lx

end Go.Proofs.YthdlepalglgmoaaGreatDoor
namespace Go.Proofs.YthdlepalglgmoaaGreatDoor
open Go Go.RowKit Um Lx

/-- A token's cells. -/
def tokC (t : LTok) : List Value := [.int .i64 t.k, .string t.x, .int .i64 t.p]
end Go.Proofs.YthdlepalglgmoaaGreatDoor
namespace Go.Proofs.YthdlepalglgmoaaGreatDoor
open Go Go.RowKit Um Lx

end Go.Proofs.YthdlepalglgmoaaGreatDoor
namespace Go.Proofs.YthdlepalglgmoaaGreatDoor
open Go Go.RowKit Um Fm

theorem r08Valid (s : ByteArray) (w : World) (hs : s.size ≤ 1048576) :
    Calls Tryz.prog 53 #[.string s] w fun e w' => e = .returned (.bool (validB s)) ∧ Below w.heap.size w w' := by
  have hS := refSigns s w (by omega)
  cases hv : validB s
  · rw [sigR_of_not hv] at hS
    generalize (sigR s.data.toList).2.1 = j at *
    generalize (sigR s.data.toList).1 = l at *
    clear hv
    go_enter Tryz.func53, Tryz.ntmps53
    go_wp2_with (refine hS.mono ?_; rintro e w2 ⟨v, m, rfl, -, hb⟩)
    go_ret
    exact ⟨rfl, hb⟩
  · rw [sigR_of_valid hv] at hS
    generalize (sigR s.data.toList).2.1 = j at *
    generalize (sigR s.data.toList).1 = l at *
    clear hv
    go_enter Tryz.func53, Tryz.ntmps53
    go_wp2_with (refine hS.mono ?_; rintro e w2 ⟨v, m, rfl, -, hb⟩)
    go_ret
    exact ⟨rfl, hb⟩
theorem smallB_at (s : ByteArray) (k : Nat) (h : k < s.size) : smallB (s.data.toList.drop k) = (!(decide (65 ≤ bn s k) && decide (bn s k ≤ 90)) && smallB (s.data.toList.drop (k + 1))) := by
  have hl : k < s.data.toList.length := by rw [size_toList]; exact h
  rw [List.drop_eq_getElem_cons hl]
  unfold smallB
  rw [List.all_cons]
  congr 2
  unfold upB bn
  rw [List.getD_eq_getElem?_getD, List.getElem?_eq_getElem hl]; rfl
theorem r08Small (s : ByteArray) (w : World) (hs : s.size ≤ 1048576) :
    Calls Tryz.prog 56 #[.string s] w fun e w' => e = .returned (.bool (smallB s.data.toList)) ∧ w = w' := by
  go_enter Tryz.func56, Tryz.ntmps56
  go_wp2
  go_loop [3] (fun i => ∃ k : Nat, k ≤ s.size ∧ i = .int .i64 k ∧ Hid (smallB s.data.toList = smallB (s.data.toList.drop k))) (fun i => s.size - (intOf i).toNat)
  case atStart => exact ⟨0, by omega, rfl, rfl⟩
  case round =>
    obtain ⟨k, hk, rfl, H⟩ := hrel
    by_cases hlt : k < s.size
    · have hb := bn_lt s k
      have H2 : Hid (smallB s.data.toList = (!(decide (65 ≤ bn s k) && decide (bn s k ≤ 90)) && smallB (s.data.toList.drop (k + 1)))) := by show _ = _; rw [H.out, smallB_at s k hlt]
      by_cases h1 : 65 ≤ bn s k
      · by_cases h2 : bn s k ≤ 90
        · go_wp2
          go_ret
          exact ⟨by rw [H2.out, decide_eq_true h1, decide_eq_true h2]; rfl, rfl⟩
        · go_wp2
          go_round
          case rel => exact ⟨k + 1, by omega, by go_num, by show _ = _; rw [H2.out, decide_eq_false h2, Bool.and_false, Bool.not_false, Bool.true_and]⟩
          case measure => simp [intOf]; omega
      · go_wp2
        go_round
        case rel => exact ⟨k + 1, by omega, by go_num, by show _ = _; rw [H2.out, decide_eq_false h1, Bool.false_and, Bool.not_false, Bool.true_and]⟩
        case measure => simp [intOf]; omega
    · have H2 : Hid (smallB s.data.toList = true) := by show _ = _; rw [H.out, List.drop_eq_nil_of_le (by rw [size_toList]; omega)]; rfl
      go_wp2
      go_ret
      exact ⟨by rw [H2.out]; rfl, rfl⟩
theorem Calls.quiet_r8 {P : Program} {f : FuncId} {args : Array Value} {w : World} {d : Nat} {os : Array Obj} {v : Value}
    (h : Calls P f args (Sort.grow (redrawn w d) os) fun e w' => e = .returned v ∧ Sort.grow (redrawn w d) os = w') : Calls P f args (Sort.grow (redrawn w d) os) fun e w'' => e = .returned v ∧ ∃ p : Regrown, w'' = Sort.grow (redrawn w p.d) p.os :=
  h.mono fun _ _ ⟨he, hb⟩ => ⟨he, ⟨d, os⟩, hb.symm⟩
theorem empty_app (a b : ByteArray) : emptyB (a ++ b) = (emptyB a && emptyB b) := by
  unfold emptyB
  rw [Bool.eq_iff_iff]
  simp [ByteArray.toList_eq]
set_option maxRecDepth 20000 in
set_option maxHeartbeats 2000000 in
theorem r08Right (t : Tm) (w : World) (hx : t.x.size ≤ 1048576) (hl : t.l.size ≤ 1048576) (hy : t.y.size ≤ 1048576) :
    Calls Tryz.prog 40 #[.agg #[.int .i64 t.k, .string t.x, .string t.l, .string t.y]] w fun e w' => e = .returned (.bool (rightB t)) ∧ Below w.heap.size w w' := by
  obtain ⟨k, x, l, y⟩ := t
  simp only at hx hl hy ⊢
  have hB0 : Below w.heap.size w (w.alloc (.cells #[.int .i64 k, .string x, .string l, .string y] 24)) := (by repeat (first | exact Below.refl _ _ | assumption | exact (Below.refl _ _).alloc (Nat.le_refl _) _ | refine below_tr ?_ (by assumption) | refine below_alloc ?_ | refine below_tr ?_ (below_regrown _ _ _)))
  have r0 : (w.alloc (.cells #[.int .i64 k, .string x, .string l, .string y] 24)).cell? ⟨w.heap.size, 0, none⟩ = some (.int .i64 k) := by rw [World.cell?, heap_alloc_new]; rfl
  have r1 : (w.alloc (.cells #[.int .i64 k, .string x, .string l, .string y] 24)).cell? ⟨w.heap.size, 1, none⟩ = some (.string x) := by rw [World.cell?, heap_alloc_new]; rfl
  have r2 : (w.alloc (.cells #[.int .i64 k, .string x, .string l, .string y] 24)).cell? ⟨w.heap.size, 2, none⟩ = some (.string l) := by rw [World.cell?, heap_alloc_new]; rfl
  have r3 : (w.alloc (.cells #[.int .i64 k, .string x, .string l, .string y] 24)).cell? ⟨w.heap.size, 3, none⟩ = some (.string y) := by rw [World.cell?, heap_alloc_new]; rfl
  obtain ⟨W, hW⟩ : ∃ W : World, w.alloc (.cells #[.int .i64 k, .string x, .string l, .string y] 24) = W := ⟨_, rfl⟩
  rw [hW] at hB0 r0 r1 r2 r3
  have hVx := fun W' => r08Valid x W' hx
  have hVy := fun W' => r08Valid y W' hy
  have hLx := fun W' => refLabel x W' (by omega)
  have hTl := fun W' => refTag l W' (by omega)
  have hSl := fun W' => r08Small l W' hl
  have htg := tagB_small l
  have hlb : labelB x = (!x.toList.isEmpty && ((label x.data.toList : Int) == x.size)) := rfl
  unfold rightB
  simp only [empty_app]
  rw [htg, hlb]
  unfold emptyB xsdL
  clear htg hlb
  generalize validB x = v at *
  generalize validB y = v2 at *
  generalize label x.data.toList = lb at *
  generalize tag l.data.toList = tg at *
  generalize smallB l.data.toList = sm at *
  have HW := Lib.hid hW
  have HB0 := Lib.hid hB0
  clear hW hB0
  by_cases h1 : k = 1
  · subst h1
    rw [if_pos rfl]
    have hV := hVx W
    clear hVx hVy hLx hTl hSl
    cases he1 : l.toList.isEmpty
    all_goals cases he2 : y.toList.isEmpty
    all_goals
      cases v
      all_goals
        go_enter Tryz.func40, Tryz.ntmps40
        go_wp2_with fail
        simp only [HW.out]
        go_wp2_with fail
        refine hV.mono ?_
        rintro e w2 ⟨rfl, hb2⟩
        replace r2 := cell_on r2 hb2
        replace r3 := cell_on r3 hb2
        go_wp2
        go_ret
        exact ⟨rfl, below_tr HB0.out hb2⟩
  rw [if_neg h1]
  by_cases h2 : k = 2
  · subst h2
    rw [if_pos rfl]
    clear hVx hVy hTl hSl h1
    have R1 := fun d os => cell_on r1 (below_regrown W d os)
    have R2 := fun d os => cell_on r2 (below_regrown W d os)
    have R3 := fun d os => cell_on r3 (below_regrown W d os)
    cases he0 : x.toList.isEmpty
    · cases hq : ((lb : Int) == x.size)
      all_goals cases he1 : l.toList.isEmpty
      all_goals cases he2 : y.toList.isEmpty
      all_goals
        go_enter Tryz.func40, Tryz.ntmps40
        go_wp2_with fail
        simp only [HW.out]
        go_wp2
        refine wp_region_quiet_below (by kernel_rfl) (by kernel_rfl) ?_; (repeat (any_goals (go_big_quiet_step ((go_at_call 54; exact Calls.regrown_of (hLx _)))))); all_goals (refine wpQuiet_nil ?_; intro _ hw9; obtain ⟨⟨d9, os9⟩, hw8⟩ := hw9; subst hw8)
        go_wp2
        go_ret
        exact ⟨by simp, HB0.out.trans ((below_regrown _ _ _).mono HB0.out.size)⟩
    · go_enter Tryz.func40, Tryz.ntmps40
      go_wp2_with fail
      simp only [HW.out]
      go_wp2
      refine wp_region_quiet_below (by kernel_rfl) (by kernel_rfl) ?_; (repeat (any_goals (go_big_quiet_step ((fail))))); all_goals (refine wpQuiet_nil ?_; intro _ hw9; obtain ⟨⟨d9, os9⟩, hw8⟩ := hw9; subst hw8)
      go_wp2
      go_ret
      exact ⟨by simp, HB0.out.trans ((below_regrown _ _ _).mono HB0.out.size)⟩
  rw [if_neg h2]
  by_cases h3 : k = 3
  · subst h3
    rw [if_pos rfl]
    clear hVy hLx h1 h2
    have R1 := fun d os => cell_on r1 (below_regrown W d os)
    have R2 := fun d os => cell_on r2 (below_regrown W d os)
    have R3 := fun d os => cell_on r3 (below_regrown W d os)
    cases v
    · clear hTl hSl
      go_enter Tryz.func40, Tryz.ntmps40
      go_wp2_with fail
      simp only [HW.out]
      go_wp2
      refine wp_region_quiet_below (by kernel_rfl) (by kernel_rfl) ?_; (repeat (any_goals (go_big_quiet_step ((go_at_call 53; exact Calls.regrown_of (hVx _)))))); all_goals (refine wpQuiet_nil ?_; intro _ hw9; obtain ⟨⟨d9, os9⟩, hw8⟩ := hw9; subst hw8)
      go_wp2
      go_ret
      exact ⟨by simp, HB0.out.trans ((below_regrown _ _ _).mono HB0.out.size)⟩
    · cases hq : ((tg : Int) == l.size)
      · clear hSl
        go_enter Tryz.func40, Tryz.ntmps40
        go_wp2_with fail
        simp only [HW.out]
        go_wp2
        refine wp_region_quiet_below (by kernel_rfl) (by kernel_rfl) ?_; (repeat (any_goals (go_big_quiet_step ((first | (go_at_call 53; with_reducible exact Calls.regrown_of (hVx _)) | (go_at_call 55; with_reducible exact Calls.quiet_r8 (hTl _))))))); all_goals (refine wpQuiet_nil ?_; intro _ hw9; obtain ⟨⟨d9, os9⟩, hw8⟩ := hw9; subst hw8)
        go_wp2
        go_ret
        exact ⟨by simp, HB0.out.trans ((below_regrown _ _ _).mono HB0.out.size)⟩
      · cases he2 : y.toList.isEmpty
        all_goals cases sm
        all_goals
          go_enter Tryz.func40, Tryz.ntmps40
          go_wp2_with fail
          simp only [HW.out]
          go_wp2
          refine wp_region_quiet_below (by kernel_rfl) (by kernel_rfl) ?_; (repeat (any_goals (go_big_quiet_step ((first | (go_at_call 53; with_reducible exact Calls.regrown_of (hVx _)) | (go_at_call 55; with_reducible exact Calls.quiet_r8 (hTl _)) | (go_at_call 56; with_reducible exact Calls.quiet_r8 (hSl _))))))); all_goals (refine wpQuiet_nil ?_; intro _ hw9; obtain ⟨⟨d9, os9⟩, hw8⟩ := hw9; subst hw8)
          go_wp2
          go_ret
          exact ⟨by simp, HB0.out.trans ((below_regrown _ _ _).mono HB0.out.size)⟩
  rw [if_neg h3]
  by_cases h4 : k = 4
  · subst h4
    rw [if_pos rfl]
    have hV := hVx W
    clear hVx hLx hTl hSl h1 h2 h3
    cases v
    · clear hVy
      go_enter Tryz.func40, Tryz.ntmps40
      go_wp2_with fail
      simp only [HW.out]
      go_wp2_with (refine hV.mono ?_; rintro e w2 ⟨rfl, hb2⟩)
      go_ret
      exact ⟨by simp, below_tr HB0.out hb2⟩
    · cases he : l.toList.isEmpty
      · clear hVy
        go_enter Tryz.func40, Tryz.ntmps40
        go_wp2_with fail
        simp only [HW.out]
        go_wp2_with fail
        refine hV.mono ?_
        rintro e w2 ⟨rfl, hb2⟩
        replace r2 := cell_on r2 hb2
        replace r3 := cell_on r3 hb2
        go_wp2
        go_ret
        exact ⟨by simp, below_tr HB0.out hb2⟩
      · cases hq : (y.toList == [104, 116, 116, 112, 58, 47, 47, 119, 119, 119, 46, 119, 51, 46, 111, 114, 103, 47, 50, 48, 48, 49, 47, 88, 77, 76, 83, 99, 104, 101, 109, 97, 35, 115, 116, 114, 105, 110, 103])
        all_goals
          have hqn : (y.toList != [104, 116, 116, 112, 58, 47, 47, 119, 119, 119, 46, 119, 51, 46, 111, 114, 103, 47, 50, 48, 48, 49, 47, 88, 77, 76, 83, 99, 104, 101, 109, 97, 35, 115, 116, 114, 105, 110, 103]) = !(y.toList == [104, 116, 116, 112, 58, 47, 47, 119, 119, 119, 46, 119, 51, 46, 111, 114, 103, 47, 50, 48, 48, 49, 47, 88, 77, 76, 83, 99, 104, 101, 109, 97, 35, 115, 116, 114, 105, 110, 103]) := rfl
          rw [hq] at hqn
          go_enter Tryz.func40, Tryz.ntmps40
          go_wp2_with fail
          simp only [HW.out]
          go_wp2_with fail
          refine hV.mono ?_
          rintro e w2 ⟨rfl, hb2⟩
          replace r2 := cell_on r2 hb2
          replace r3 := cell_on r3 hb2
          have hT := hVy w2
          clear hVy hV
          cases v2
          all_goals
            go_wp2_with fail
            refine hT.mono ?_
            rintro e w3 ⟨rfl, hb3⟩
            replace r3 := cell_on r3 hb3
            go_wp2
            go_ret
            exact ⟨by simp, below_tr (below_tr HB0.out hb2) hb3⟩
  · rw [if_neg h4]
    clear hVx hVy hLx hTl hSl
    go_enter Tryz.func40, Tryz.ntmps40
    go_wp2_with fail
    simp only [HW.out]
    go_wp2
    go_ret
    exact ⟨rfl, HB0.out⟩
end Go.Proofs.YthdlepalglgmoaaGreatDoor
namespace Go.Proofs.YthdlepalglgmoaaGreatDoor.Tx
open Go Go.RowKit Um Fm Lx

end Go.Proofs.YthdlepalglgmoaaGreatDoor.Tx
