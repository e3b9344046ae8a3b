/- The answer for check (ossuaryref24): where a text is; the told. The answer for check (ossuaryref24): a text twice; the keys' variables. The answer for query (ossuaryref22): a condition's size. Layer 22's law, walked: a query that is right. Layer 22's law, walked: awake. -/
import Derived.Test.YtefjhehgpkljcaaGreatDoorJSameMath
import Derived.Test.YtefjhehgpkljcaaGreatDoorJLent4
import Derived.Test.YtefjhehgpkljcaaGreatDoorJLaw22g
import Derived.Test.YtefjhehgpkljcaaGreatDoorJUsed
import Derived.Test.YtefjhehgpkljcaaGreatDoorJChk4
import Derived.Test.YtefjhehgpkljcaaGreatDoorJCopy
namespace Go.Proofs.YtefjhehgpkljcaaGreatDoor
open Go Go.RowKit Um Fm Mt
theorem idx_at {l : List ByteArray} {x y : ByteArray} {k : Nat} (h : l[k]? = some y) : Lib.idxFromS (l.drop k) x k = if (y.toList == x.toList) = true then (k : Int) else Lib.idxFromS (l.drop (k + 1)) x (k + 1) := by
  rw [drop_cons_of h, Lib.idxFromS]
  by_cases e : y = x
  · subst e; simp
  · have : (y.toList == x.toList) = false := by
      rw [beq_eq_false_iff_ne]
      intro h
      exact e (beqS_iff.1 (beq_iff_eq.2 h))
    rw [if_neg e, this]; simp
set_option maxRecDepth 10000 in
theorem r24At (l : List ByteArray) (x : ByteArray) (A : Option Addr) (c : Nat) (w : World) (hl : l.length ≤ 1000000) (hr : Rd w A (l.map Value.string)) :
    Calls Tryz.prog 74 #[.slice A l.length c, .string x] w fun e w' => e = .returned (.int .i64 (Lib.idxOfS l x)) ∧ w = w' := by
  go_enter Tryz.func74, Tryz.ntmps74
  go_wp2
  go_loop [5] (fun i => ∃ k : Nat, k ≤ l.length ∧ i = .int .i64 k ∧ Hid (Lib.idxOfS l x = Lib.idxFromS (l.drop k) x k)) (fun i => l.length - (intOf i).toNat)
  case atStart => exact ⟨0, by omega, rfl, rfl⟩
  case round =>
    obtain ⟨k, hk, rfl, H⟩ := hrel
    by_cases hlt : k < l.length
    · obtain ⟨y, hx⟩ : ∃ x, l[k]? = some x := ⟨_, List.getElem?_eq_getElem hlt⟩
      obtain ⟨g, o, rfl, hcx⟩ := hr.at_ (j := k) (u := .string y) (by simp [hx])
      have H2 : Hid (Lib.idxOfS l x = if (y.toList == x.toList) = true then (k : Int) else Lib.idxFromS (l.drop (k + 1)) x (k + 1)) := by
        show _ = _
        rw [H.out, idx_at hx]
      clear hx H hr
      cases hx0 : (y.toList == x.toList)
      · rw [hx0] at H2
        go_wp2
        go_round
        case rel => exact ⟨k+1, by omega, by go_num, by simpa using H2⟩
        case measure => simp [intOf]; omega
      · rw [hx0] at H2
        go_wp2
        go_ret
        exact ⟨by rw [H2.out]; rfl, rfl⟩
    · have H2 : Hid (Lib.idxOfS l x = -1) := by
        show _ = _
        rw [H.out, List.drop_eq_nil_of_le (by omega)]; rfl
      clear H hr
      go_wp2
      go_ret
      exact ⟨by rw [H2.out]; rfl, rfl⟩
set_option maxRecDepth 20000 in
set_option maxHeartbeats 2000000 in
theorem r24Told (n : Nat) (q : Qy n) (a1 a2 a3 a4 : Option Addr) (c1 c2 c3 c4 : Nat) (among : List ByteArray) (A : Option Addr) (c : Nat) (w : World) (h1 : Rd w a1 (q.vars.map Value.string)) (hr : Rd w A (among.map Value.string)) (hv : q.vars.length ≤ 1000000) (hl : among.length ≤ 1000000) :
    Calls Tryz.prog 22 #[.agg #[.bool q.ask, .bool q.dist, .slice a1 q.vars.length c1, .slice a2 q.pats.length c2, .slice a3 q.fils.length c3, .slice a4 q.ord.length c4, .int .i64 q.lim, .int .i64 q.off], .slice A among.length c] w (NumsR (toldL among q.vars) w) := by
  obtain ⟨W, hW⟩ : ∃ W : World, w.alloc (.cells #[.bool q.ask, .bool q.dist, .slice a1 q.vars.length c1, .slice a2 q.pats.length c2, .slice a3 q.fils.length c3, .slice a4 q.ord.length c4, .int .i64 q.lim, .int .i64 q.off] 40) = W := ⟨_, rfl⟩
  have hB0 : Below w.heap.size w W := by rw [← hW]; exact (by repeat (first | exact Below.refl _ _ | assumption | exact (Below.refl _ _).alloc (Nat.le_refl _) _ | refine below_tr ?_ (by assumption) | refine below_alloc ?_ | refine below_tr ?_ (below_regrown _ _ _)))
  have b0 : W.cell? ⟨w.heap.size, 0, none⟩ = some (.bool q.ask) := by rw [← hW, World.cell?, heap_alloc_new]; rfl
  have b1 : W.cell? ⟨w.heap.size, 1, none⟩ = some (.bool q.dist) := by rw [← hW, World.cell?, heap_alloc_new]; rfl
  have b2 : W.cell? ⟨w.heap.size, 2, none⟩ = some (.slice a1 q.vars.length c1) := by rw [← hW, World.cell?, heap_alloc_new]; rfl
  have b3 : W.cell? ⟨w.heap.size, 3, none⟩ = some (.slice a2 q.pats.length c2) := by rw [← hW, World.cell?, heap_alloc_new]; rfl
  have b4 : W.cell? ⟨w.heap.size, 4, none⟩ = some (.slice a3 q.fils.length c3) := by rw [← hW, World.cell?, heap_alloc_new]; rfl
  have b5 : W.cell? ⟨w.heap.size, 5, none⟩ = some (.slice a4 q.ord.length c4) := by rw [← hW, World.cell?, heap_alloc_new]; rfl
  have b6 : W.cell? ⟨w.heap.size, 6, none⟩ = some (.int .i64 q.lim) := by rw [← hW, World.cell?, heap_alloc_new]; rfl
  have b7 : W.cell? ⟨w.heap.size, 7, none⟩ = some (.int .i64 q.off) := by rw [← hW, World.cell?, heap_alloc_new]; rfl
  have k1 := h1.later hB0
  have kr := hr.later hB0
  have HW := Lib.hid hW
  have HB0 := Lib.hid hB0
  have hvn : (q.vars.length : Int) ≤ 1000000 := by omega
  clear hW h1 hr hB0
  go_enter Tryz.func22, Tryz.ntmps22
  go_wp2_with fail
  simp only [HW.out]
  go_wp2
  go_loopw [5, 6] (ToldL among q.vars W) (fun _ i _ => q.vars.length - (intOf i).toNat)
  case atStart => exact ⟨0, _, by omega, rfl, rfl, by simpa [toldL] using World.ownsRow_nil _ _ _ _, Below.refl _ _⟩
  case round =>
    clear b0 b1 b3 b4 b5 b6 b7
    obtain ⟨k, v', hk, rfl, rfl, own, hB⟩ := hrel
    have cq := cell_on b2 hB
    clear b2
    by_cases hlt : k < q.vars.length
    · obtain ⟨s, hs⟩ : ∃ x, q.vars[k]? = some x := ⟨_, List.getElem?_eq_getElem hlt⟩
      obtain ⟨g, o, rfl, cx⟩ := (k1.later hB).at_ (j := k) (u := .string s) (by simp [hs])
      have hI := r24At among s A c wr (by omega) (kr.later hB)
      have Ht : Hid (toldL among (q.vars.take (k + 1)) = toldL among (q.vars.take k) ++ [Lib.idxOfS among s]) := by show _ = _; unfold toldL; rw [take_snoc_of hs, List.map_append]; rfl
      generalize Lib.idxOfS among s = j at *
      have B2 : Below wr.heap.size wr (wr.alloc (.cells #[.int .i64 j] 3)) := (by repeat (first | exact Below.refl _ _ | assumption | exact (Below.refl _ _).alloc (Nat.le_refl _) _ | refine below_tr ?_ (by assumption) | refine below_alloc ?_ | refine below_tr ?_ (below_regrown _ _ _)))
      have own2 := own_below own B2 (Nat.le_refl _)
      have R2 : Rd (wr.alloc (.cells #[.int .i64 j] 3)) (some ⟨wr.heap.size, 0, none⟩) [.int .i64 j] := Rd.of_block (heap_alloc_new wr _) rfl
      have hbs : W.heap.size ≤ wr.heap.size := hB.size
      have B02 := Lib.hid (below_tr hB B2)
      clear hs own hB B2 k1 kr
      go_wp2_with (first
        | (go_at_call 74; refine hI.mono ?_; rintro e w5 ⟨rfl, rfl⟩)
        | (at_builtin; refine wpList_appG rfl rfl Tryz.underlying33 intInfo' rfl (by omega) rfl own2 rfl R2 rfl (by intro u hu; simp at hu; subst hu; rfl) (by omega) (by omega) (by simp; omega) ?_; intro v5 w5 own5 hb5 _))
      go_roundw
      case rel => exact ⟨k + 1, v5, by omega, by go_num, rfl, by rw [Ht.out, List.map_append]; exact own5, B02.out.trans hb5⟩
      case measure => simp [intOf]; omega
    · obtain rfl : k = q.vars.length := by omega
      have Hk2 : Hid (q.vars.take q.vars.length = q.vars) := List.take_length
      obtain ⟨A1, d1, rfl, _, _⟩ := own_slice own
      clear k1 kr
      go_wp2
      go_ret
      refine ⟨_, rfl, ?_, HB0.out.trans (hB.mono HB0.out.size)⟩
      rw [Hk2.out] at own
      have hl : (toldL among q.vars).length = q.vars.length := List.length_map _
      rw [hl]
      exact own_mono own HB0.out.size
end Go.Proofs.YtefjhehgpkljcaaGreatDoor
namespace Go.Proofs.YtefjhehgpkljcaaGreatDoor
open Go Go.RowKit Um Fm Mt
theorem Calls.quiet_r24 {P : Program} {f : FuncId} {args : Array Value} {w : World} {d : Nat} {os : Array Obj} {v : Value}
    (h : Calls P f args (Sort.grow (redrawn w d) os) fun e w' => e = .returned v ∧ Sort.grow (redrawn w d) os = w') : Calls P f args (Sort.grow (redrawn w d) os) fun e w'' => e = .returned v ∧ ∃ p : Regrown, w'' = Sort.grow (redrawn w p.d) p.os :=
  h.mono fun _ _ ⟨he, hb⟩ => ⟨he, ⟨d, os⟩, hb.symm⟩
theorem dup_step {l : List ByteArray} {k : Nat} {s : ByteArray} (h : l[k]? = some s) : dupB (l.take (k + 1)) = (dupB (l.take k) || hasS (l.take k) s) := by
  rw [take_snoc_of h, dupB_snoc]
theorem idx_has (l : List ByteArray) (s : ByteArray) : hasS l s = decide (0 ≤ Lib.idxOfS l s) := by
  rfl
theorem dup_take {l : List ByteArray} (k : Nat) (h : dupB (l.take k) = true) : dupB l = true := by
  cases h2 : dupB l
  · rw [dupB_sub (List.take_sublist k l) h2] at h; cases h
  · rfl
set_option maxRecDepth 10000 in
set_option maxHeartbeats 2000000 in
theorem r24Twice (l : List ByteArray) (A : Option Addr) (c : Nat) (w : World) (hl : l.length ≤ 1000000) (hc : l.length ≤ c) (hr : Rd w A (l.map Value.string)) :
    Calls Tryz.prog 70 #[.slice A l.length c] w fun e w' => e = .returned (.bool (dupB l)) ∧ Below w.heap.size w w' := by
  go_enter Tryz.func70, Tryz.ntmps70
  go_wp2
  go_loopw [3] (fun i wr => ∃ k : Nat, k ≤ l.length ∧ i = .int .i64 k ∧ Below w.heap.size w wr ∧ Hid (dupB (l.take k) = false)) (fun i _ => l.length - (intOf i).toNat)
  case atStart => exact ⟨0, by omega, rfl, Below.refl _ _, rfl⟩
  case round =>
    obtain ⟨k, hk, rfl, hB, H⟩ := hrel
    by_cases hlt : k < l.length
    · obtain ⟨s, hx⟩ : ∃ x, l[k]? = some x := ⟨_, List.getElem?_eq_getElem hlt⟩
      have hrw := hr.later hB
      obtain ⟨g, o, rfl, d0⟩ := hrw.at_ (j := k) (u := .string s) (by simp [hx])
      have c0 := fun d os => cell_on d0 (below_regrown wr d os)
      have hI : ∀ d os, Calls Tryz.prog 74 #[.slice (some ⟨g, o, none⟩) k c, .string s] (Sort.grow (redrawn wr d) os) fun e w' => e = .returned (.int .i64 (Lib.idxOfS (l.take k) s)) ∧ Sort.grow (redrawn wr d) os = w' := fun d os => by
        have h := r24At (l.take k) s (some ⟨g, o, none⟩) c (Sort.grow (redrawn wr d) os) (by rw [List.length_take]; omega) (by rw [List.map_take]; exact (hrw.later (below_regrown wr d os)).take k)
        rwa [List.length_take, Nat.min_eq_left hk] at h
      have H2 : Hid (dupB (l.take (k + 1)) = decide (0 ≤ Lib.idxOfS (l.take k) s)) := by show _ = _; rw [dup_step hx, H.out, idx_has]; rfl
      have hkc : k ≤ c := by omega
      generalize Lib.idxOfS (l.take k) s = j at *
      clear hx hr hrw d0 H
      cases hj : decide (0 ≤ j)
      · rw [hj] at H2
        go_wp2
        refine wp_region_quiet_below (by kernel_rfl) (by kernel_rfl) ?_; (repeat (any_goals (go_big_quiet_step ((go_at_call 74; exact Calls.quiet_r24 (hI _ _)))))); all_goals (refine wpQuiet_nil ?_; intro _ hw9; obtain ⟨⟨d9, os9⟩, hw8⟩ := hw9; subst hw8)
        go_wp2
        go_roundw
        case rel => exact ⟨k+1, by omega, by go_num, (by repeat (first | exact Below.refl _ _ | assumption | exact (Below.refl _ _).alloc (Nat.le_refl _) _ | refine below_tr ?_ (by assumption) | refine below_alloc ?_ | refine below_tr ?_ (below_regrown _ _ _))), H2⟩
        case measure => simp [intOf]; omega
      · rw [hj] at H2
        have H3 : Hid (dupB l = true) := dup_take _ H2.out
        go_wp2
        refine wp_region_quiet_below (by kernel_rfl) (by kernel_rfl) ?_; (repeat (any_goals (go_big_quiet_step ((go_at_call 74; exact Calls.quiet_r24 (hI _ _)))))); all_goals (refine wpQuiet_nil ?_; intro _ hw9; obtain ⟨⟨d9, os9⟩, hw8⟩ := hw9; subst hw8)
        go_wp2
        go_ret
        exact ⟨by rw [H3.out]; rfl, (by repeat (first | exact Below.refl _ _ | assumption | exact (Below.refl _ _).alloc (Nat.le_refl _) _ | refine below_tr ?_ (by assumption) | refine below_alloc ?_ | refine below_tr ?_ (below_regrown _ _ _)))⟩
    · have H3 : Hid (dupB l = false) := by
        have h := H.out
        rw [List.take_of_length_le (by omega)] at h; exact h
      clear H hr
      go_wp2
      go_ret
      exact ⟨by rw [H3.out]; rfl, hB⟩
set_option maxRecDepth 20000 in
set_option maxHeartbeats 2000000 in
theorem r24Keys (n : Nat) (q : Qy n) (a1 a2 a3 a4 : Option Addr) (c1 c2 c3 c4 : Nat) (w : World) (hr : RdKey w a4 q.ord) (hl : q.ord.length ≤ 1000000) :
    Calls Tryz.prog 71 #[.agg #[.bool q.ask, .bool q.dist, .slice a1 q.vars.length c1, .slice a2 q.pats.length c2, .slice a3 q.fils.length c3, .slice a4 q.ord.length c4, .int .i64 q.lim, .int .i64 q.off]] w (NamesR (keysN q.ord) w) := by
  obtain ⟨W, hW⟩ : ∃ W : World, w.alloc (.cells #[.bool q.ask, .bool q.dist, .slice a1 q.vars.length c1, .slice a2 q.pats.length c2, .slice a3 q.fils.length c3, .slice a4 q.ord.length c4, .int .i64 q.lim, .int .i64 q.off] 40) = W := ⟨_, rfl⟩
  have hB0 : Below w.heap.size w W := by rw [← hW]; exact (by repeat (first | exact Below.refl _ _ | assumption | exact (Below.refl _ _).alloc (Nat.le_refl _) _ | refine below_tr ?_ (by assumption) | refine below_alloc ?_ | refine below_tr ?_ (below_regrown _ _ _)))
  have b5 : W.cell? ⟨w.heap.size, 5, none⟩ = some (.slice a4 q.ord.length c4) := by rw [← hW, World.cell?, heap_alloc_new]; rfl
  have k4 : RdKey W a4 q.ord := RdL.mono hr hB0 fun _ _ _ h => h
  have HW := Lib.hid hW
  have HB0 := Lib.hid hB0
  have hl' : (q.ord.length : Int) ≤ 1000000 := by omega
  clear hW hr hB0
  go_enter Tryz.func71, Tryz.ntmps71
  go_wp2_with fail
  simp only [HW.out]
  go_wp2
  go_loopw [3, 4] (KeysL q.ord W) (fun _ i _ => q.ord.length - (intOf i).toNat)
  case atStart => exact ⟨0, _, by omega, rfl, rfl, by simpa using World.ownsRow_nil _ _ _ _, Below.refl _ _⟩
  case round =>
    obtain ⟨k, v', hk, rfl, rfl, own, hB⟩ := hrel
    have cq := cell_on b5 hB
    clear b5
    by_cases hlt : k < q.ord.length
    · obtain ⟨y, hy⟩ : ∃ x, q.ord[k]? = some x := ⟨_, List.getElem?_eq_getElem hlt⟩
      obtain ⟨g, o, cs, rfl, -, rfl, hc⟩ := (RdL.mono k4 hB (fun _ _ _ h => h)).at_ (by omega) hy
      have e0 : wr.cell? ⟨g, o + k * 2, none⟩ = some (.string y.v) := hc 0 _ rfl
      have B2 : Below wr.heap.size wr (wr.alloc (.cells #[.string y.v] 9)) := (by repeat (first | exact Below.refl _ _ | assumption | exact (Below.refl _ _).alloc (Nat.le_refl _) _ | refine below_tr ?_ (by assumption) | refine below_alloc ?_ | refine below_tr ?_ (below_regrown _ _ _)))
      have own2 := own_below own B2 (Nat.le_refl _)
      have R2 : Rd (wr.alloc (.cells #[.string y.v] 9)) (some ⟨wr.heap.size, 0, none⟩) [.string y.v] := Rd.of_block (heap_alloc_new wr _) rfl
      have hbs : W.heap.size ≤ wr.heap.size := hB.size
      have B02 := Lib.hid (below_tr hB B2)
      have Hts := Lib.hid (take_snoc_of hy)
      clear hc hy own hB B2 k4
      go_wp2_with (at_builtin; refine wpList_appG rfl rfl Tryz.underlying24 stringInfo' rfl (by omega) rfl own2 rfl R2 rfl (by intro u hu; simp at hu; subst hu; rfl) (by omega) (by omega) (by simp; omega) ?_; intro v5 w5 own5 hb5 _)
      go_roundw
      case rel => exact ⟨k + 1, v5, by omega, by go_num, rfl, by rw [Hts.out, List.map_append]; exact own5, B02.out.trans hb5⟩
      case measure => simp [intOf]; omega
    · obtain rfl : k = q.ord.length := by omega
      have Hk2 : Hid (q.ord.take q.ord.length = q.ord) := List.take_length
      obtain ⟨A1, d1, rfl, _, _⟩ := own_slice own
      clear k4
      go_wp2
      go_ret
      refine ⟨_, rfl, ?_, HB0.out.trans (hB.mono HB0.out.size)⟩
      rw [Hk2.out] at own
      unfold keysN
      rw [List.length_map, List.map_map]
      exact own_mono own HB0.out.size
end Go.Proofs.YtefjhehgpkljcaaGreatDoor
namespace Go.Proofs.YtefjhehgpkljcaaGreatDoor
open Go Go.RowKit Um Fm Mt
def SizeL (n : Nat) (l : List (ExT n)) (W : World) (v i : Value) (wr : World) : Prop := ∃ k : Nat, k ≤ l.length ∧ i = .int .i64 k ∧ v = .int .i64 (((l.take k).flatMap (preE n)).length + 1 : Nat) ∧ Below W.heap.size W wr
def R22S (n : Nat) : Prop := ∀ (x : ExT n) (cs : List Value) (w : World), RdE n w cs x → szE n x → (preE n x).length ≤ 4611686018427387904 → Calls Tryz.prog 171 #[.agg cs.toArray] w fun e w' => e = .returned (.int .i64 (preE n x).length) ∧ Below w.heap.size w w'
theorem flat_take_le {α β : Type} (f : α → List β) (l : List α) (k : Nat) : ((l.take k).flatMap f).length ≤ (l.flatMap f).length := by
  have h : l.flatMap f = (l.take k).flatMap f ++ (l.drop k).flatMap f := by rw [← List.flatMap_append, List.take_append_drop]
  rw [h, List.length_append]; omega
theorem flat_snoc {α β : Type} (f : α → List β) {l : List α} {k : Nat} {x : α} (h : l[k]? = some x) : ((l.take (k + 1)).flatMap f).length = ((l.take k).flatMap f).length + (f x).length := by
  rw [take_snoc_of h, List.flatMap_append, List.length_append]; simp
set_option maxRecDepth 20000 in
set_option maxHeartbeats 2000000 in
theorem r22Size : ∀ n : Nat, R22S n
  | 0 => fun x _ _ h _ _ => h.elim
  | n + 1 => by
    rintro ⟨k, s, t, ks⟩ cs w ⟨A, c, rfl, hc1, hr⟩ ⟨z1, z2, z3, z4⟩ hN
    have hp : (preE (n + 1) ((k, s, t, ks) : ExT (n + 1))).length = (ks.flatMap (preE n)).length + 1 := by rw [preE, List.length_cons]
    rw [hp] at hN ⊢
    have ih := r22Size n
    obtain ⟨W, hW⟩ : ∃ W : World, w.alloc (.cells #[.int .i64 k, .string s, .int .i64 t.k, .string t.x, .string t.l, .string t.y, .slice A ks.length c] 31) = W := ⟨_, rfl⟩
    have hB0 : Below w.heap.size w W := by rw [← hW]; exact (by repeat (first | exact Below.refl _ _ | assumption | exact (Below.refl _ _).alloc (Nat.le_refl _) _ | refine below_tr ?_ (by assumption) | refine below_alloc ?_ | refine below_tr ?_ (below_regrown _ _ _)))
    have b6 : W.cell? ⟨w.heap.size, 6, none⟩ = some (.slice A ks.length c) := by rw [← hW, World.cell?, heap_alloc_new]; rfl
    have hk := RdEs.later hr hB0
    have HW := Lib.hid hW
    have HB0 := Lib.hid hB0
    clear hW hr hB0 hp
    go_enter Tryz.func171, Tryz.ntmps171
    go_wp2_with fail
    simp only [HW.out]
    go_wp2
    go_loopw [3, 4] (SizeL n ks W) (fun _ i _ => ks.length - (intOf i).toNat)
    case atStart => exact ⟨0, by omega, rfl, rfl, Below.refl _ _⟩
    case round =>
      obtain ⟨j, hj, rfl, rfl, hB⟩ := hrel
      have cq := cell_on b6 hB
      clear b6
      by_cases hlt : j < ks.length
      · obtain ⟨x, hx⟩ : ∃ x, ks[j]? = some x := ⟨_, List.getElem?_eq_getElem hlt⟩
        have hle := flat_take_le (preE n) ks (j + 1)
        have hsn := flat_snoc (preE n) hx
        obtain ⟨g, o, k1, s1, t1, A1, m1, e1, rfl, hR, c0, c1, c2, c3, c4, c5, c6⟩ := (RdEs.later hk hB).atv hx
        have hcall := ih x _ wr hR (z4 x (List.mem_of_getElem? hx)) (by omega)
        have Hsn := Lib.hid hsn
        have hb1 : ((((ks.take j).flatMap (preE n)).length + 1 : Nat) : Int) + (preE n x).length ≤ 4611686018427387904 := by omega
        have hb0 : (0 : Int) ≤ ((((ks.take j).flatMap (preE n)).length + 1 : Nat) : Int) := by omega
        have hb2 : (0 : Int) ≤ ((preE n x).length : Int) := by omega
        generalize hq : ((((ks.take j).flatMap (preE n)).length + 1 : Nat) : Int) = q at *
        have Hq := Lib.hid hq
        clear hx hR hk ih z4 hle hsn hN hq
        generalize hu : ((preE n x).length : Int) = u at *
        have Hu := Lib.hid hu
        clear hu
        go_wp2_with (go_at_call 171; refine hcall.mono ?_; rintro e w2 ⟨rfl, hb⟩)
        go_roundw
        case rel => exact ⟨j + 1, by omega, by go_num, by rw [Hsn.out]; have h1 := Hq.out; have h2 := Hu.out; congr 1; omega, below_tr hB hb⟩
        case measure => simp [intOf]; omega
      · obtain rfl : j = ks.length := by omega
        have Ht : Hid ((((ks.take ks.length).flatMap (preE n)).length + 1 : Nat) = (ks.flatMap (preE n)).length + 1) := by show _ = _; rw [List.take_length]
        go_wp2
        go_ret
        refine ⟨?_, HB0.out.trans (hB.mono HB0.out.size)⟩
        have h := Ht.out
        simp at h ⊢
end Go.Proofs.YtefjhehgpkljcaaGreatDoor
namespace Go.Proofs.YtefjhehgpkljcaaGreatDoor
open Go Go.RowKit Um Fm Mt

def sx : ByteArray := ⟨#[120]⟩
def sy : ByteArray := ⟨#[121]⟩
def sz : ByteArray := ⟨#[122]⟩
def tIri (s : ByteArray) : Tm := ⟨1, s, ⟨#[]⟩, ⟨#[]⟩⟩
def goodP : List Pat := [⟨⟨sx, zTm⟩, ⟨⟨#[]⟩, tIri ⟨#[112]⟩⟩, ⟨sy, zTm⟩⟩, ⟨⟨sy, zTm⟩, ⟨sz, zTm⟩, ⟨sx, zTm⟩⟩]
def goodF1 : ExT 1 := (1, sx, zTm, [])
def goodF2 : ExT 1 := (2, ⟨#[]⟩, tIri ⟨#[117]⟩, [])
def goodF3 : ExT 2 := (6, ⟨#[]⟩, zTm, [goodF1, goodF2])
def goodF : ExT 3 := (3, ⟨#[]⟩, zTm, [goodF3])
def goodQ : Qy 3 := ⟨false, false, [sx], goodP, [goodF], [⟨sy, true⟩], 5, 0⟩
def GoodR (w : World) (e : Ending) (w' : World) : Prop := ∃ a1 a2 a3 a4 : Option Addr, e = .returned (.agg #[.bool false, .bool false, .slice a1 1 1, .slice a2 2 2, .slice a3 1 1, .slice a4 1 1, .int .i64 5, .int .i64 0]) ∧
  Rd w' a1 [.string sx] ∧ RdPat w' a2 goodP ∧ RdEs 3 w' a3 [goodF] ∧ RdKey w' a4 [⟨sy, true⟩] ∧ Below w.heap.size w w'
end Go.Proofs.YtefjhehgpkljcaaGreatDoor
namespace Go.Proofs.YtefjhehgpkljcaaGreatDoor
open Go Go.RowKit Um Fm Mt

theorem goodQ_right : rightQ goodQ = true := by kernel_rfl
theorem goodQ_vars : varsN goodP = [sx, sy, sz] := by kernel_rfl
theorem goodQ_used : usedN 3 [goodF] = [sx] := by kernel_rfl
theorem goodQ_size : (preE 3 goodF).length = 4 := by kernel_rfl
theorem szT_small (k : Int) (x : ByteArray) (h : x.size ≤ 1000) : szT ⟨k, x, ⟨#[]⟩, ⟨#[]⟩⟩ := ⟨by show x.size ≤ _; omega, by show (⟨#[]⟩ : ByteArray).size ≤ _; decide, by show (⟨#[]⟩ : ByteArray).size ≤ _; decide⟩
theorem goodF_szX : szX 3 goodF := by
  refine ⟨by decide, szT_small _ _ (by decide), by decide, fun x hx => ?_⟩
  obtain rfl : x = goodF3 := by simpa using hx
  refine ⟨by decide, szT_small _ _ (by decide), by decide, fun x hx => ?_⟩
  have : x = goodF1 ∨ x = goodF2 := by simpa using hx
  rcases this with rfl | rfl
  · exact ⟨by decide, szT_small _ _ (by decide), by decide, fun x hx => by cases hx⟩
  · exact ⟨by decide, szT_small _ _ (by decide), by decide, fun x hx => by cases hx⟩
theorem goodF_szE : szE 3 goodF := by
  refine ⟨by decide, by decide, by decide, fun x hx => ?_⟩
  obtain rfl : x = goodF3 := by simpa using hx
  refine ⟨by decide, by decide, by decide, fun x hx => ?_⟩
  have : x = goodF1 ∨ x = goodF2 := by simpa using hx
  rcases this with rfl | rfl
  · exact ⟨by decide, by decide, by decide, fun x hx => by cases hx⟩
  · exact ⟨by decide, by decide, by decide, fun x hx => by cases hx⟩
theorem goodQ_sz : szQ goodQ := by
  refine ⟨by decide, by decide, by decide, by decide, ?_, ?_, ?_, ?_⟩
  · intro x hx
    obtain rfl : x = sx := by simpa [goodQ] using hx
    decide
  · intro x hx
    have : x = ⟨⟨sx, zTm⟩, ⟨⟨#[]⟩, tIri ⟨#[112]⟩⟩, ⟨sy, zTm⟩⟩ ∨ x = ⟨⟨sy, zTm⟩, ⟨sz, zTm⟩, ⟨sx, zTm⟩⟩ := by simpa [goodQ, goodP] using hx
    rcases this with rfl | rfl
    · exact ⟨⟨by decide, szT_small _ _ (by decide)⟩, ⟨by decide, szT_small _ _ (by decide)⟩, ⟨by decide, szT_small _ _ (by decide)⟩⟩
    · exact ⟨⟨by decide, szT_small _ _ (by decide)⟩, ⟨by decide, szT_small _ _ (by decide)⟩, ⟨by decide, szT_small _ _ (by decide)⟩⟩
  · intro x hx
    obtain rfl : x = goodF := by simpa [goodQ] using hx
    exact goodF_szX
  · intro x hx
    obtain rfl : x = ⟨sy, true⟩ := by simpa [goodQ] using hx
    decide
end Go.Proofs.YtefjhehgpkljcaaGreatDoor
