/- The answer for lex (ossuaryref09): hex, escape. Printed by gen/r9b.py. The program's package lex, walked: inner. The answer for utf (ossuaryref07): Raw. The answer for lex (ossuaryref09): inner. The answer for lex (ossuaryref09): token. Printed by gen/r9d.py. A region that draws its order, whose last operation (a store) stands behind all others by its edges: that one may write to whatever block. -/
import Derived.Test.YthdlepalglgmoaaGreatDoorJUtfRef3
import Derived.Deep.CutRange
import Derived.Test.YthdlepalglgmoaaGreatDoorJUtfNext
import Derived.Test.YthdlepalglgmoaaGreatDoorJMem
namespace Go.Proofs.YthdlepalglgmoaaGreatDoor
open Go Go.RowKit Um Lx

end Go.Proofs.YthdlepalglgmoaaGreatDoor
namespace Go.Proofs.YthdlepalglgmoaaGreatDoor
open Go Go.RowKit Um Lx

end Go.Proofs.YthdlepalglgmoaaGreatDoor
namespace Go.Proofs.YthdlepalglgmoaaGreatDoor
open Go Go.RowKit Um

theorem badS_bn : ∀ k, k < 9 → ((bn badS k : Nat) : Int) = badL.getD k 0 := by decide

theorem badL_raw : ∀ k, k < 9 → rawB (badL.getD k 0) = false := by decide

theorem refRaw (n : Int) (w : World) :
    Calls Tryz.prog 89 #[.int .i64 n] w fun e w' => e = .returned (.bool (rawB n)) ∧ w = w' := by
  have his := fun W => refIs n W
  go_enter Tryz.func89, Tryz.ntmps89
  go_wp2
  obtain ⟨S, hS⟩ : ∃ S, S = badS := ⟨_, rfl⟩
  have HS := Lib.hid hS
  change Code.wp _ _ _ ⟨#[_, _, _, .string badS, _, _, _, _, _, _, _, _, _, _, _, _, _, _, _, _, _, _, _], _⟩ _
  rw [← hS]
  clear hS
  have hsz : S.size = 9 := by rw [HS.out]; rfl
  have hs1 : S.size ≤ 9 := by omega
  have hs2 : 9 ≤ S.size := by omega
  clear hsz
  go_loop [4] (fun i => ∃ k : Nat, k ≤ 9 ∧ i = .int .i64 k ∧ Hid (∀ j, j < k → n ≠ bn S j)) (fun i => 9 - (intOf i).toNat)
  case atStart => exact ⟨0, by omega, rfl, fun j h => by omega⟩
  case round =>
    obtain ⟨k, hk, rfl, H⟩ := hrel
    by_cases hlt : k < 9
    · by_cases he : n = bn S k
      · have hb : rawB n = false := by
          have e2 := he
          rw [HS.out, badS_bn k hlt] at e2
          rw [e2]; exact badL_raw k hlt
        have Hb := Lib.hid hb
        have he1 : (n == (bn S k : Int)) = true := by simpa using he
        clear hb he
        go_wp2
        go_ret
        exact ⟨by rw [Hb.out]; rfl, rfl⟩
      · have he2 : (n == (bn S k : Int)) = false := by simpa using he
        go_wp2
        go_round
        case rel =>
          exact ⟨k+1, by omega, by go_num, fun j hj => by
            rcases Nat.lt_or_ge j k with h | h
            · exact H.out j h
            · have : j = k := by omega
              subst this; exact he⟩
        case measure => simp [intOf]; omega
    · have hk9 : 9 ≤ k := by omega
      have hn : badL.contains n = false := by
        have h9 : ∀ j, j < 9 → n ≠ badL.getD j 0 := fun j hj => by
          have := H.out j (by omega)
          rwa [HS.out, badS_bn j hj] at this
        have h0 := h9 0 (by omega); have h1 := h9 1 (by omega); have h2 := h9 2 (by omega)
        have h3 := h9 3 (by omega); have h4 := h9 4 (by omega); have h5 := h9 5 (by omega)
        have h6 := h9 6 (by omega); have h7 := h9 7 (by omega); have h8 := h9 8 (by omega)
        simp only [badL, List.getD_cons_zero, List.getD_cons_succ] at h0 h1 h2 h3 h4 h5 h6 h7 h8
        simp [badL, h0, h1, h2, h3, h4, h5, h6, h7, h8]
      have hr : rawB n = (isB n && decide (32 < n)) := by unfold rawB; rw [hn]; simp
      have Hr := Lib.hid hr
      clear hr hn H
      generalize isB n = b at his Hr
      cases b
      · go_wp2_with (go_at_call 120; refine (his _).mono ?_; rintro e w1 ⟨rfl, rfl⟩)
        go_ret
        exact ⟨by rw [Hr.out]; rfl, rfl⟩
      · go_wp2_with (go_at_call 120; refine (his _).mono ?_; rintro e w1 ⟨rfl, rfl⟩)
        go_ret
        exact ⟨by rw [Hr.out]; simp, rfl⟩
end Go.Proofs.YthdlepalglgmoaaGreatDoor
namespace Go.Proofs.YthdlepalglgmoaaGreatDoor
open Go Go.RowKit Um Lx

end Go.Proofs.YthdlepalglgmoaaGreatDoor
namespace Go.Proofs.YthdlepalglgmoaaGreatDoor
open Go Go.RowKit Um Lx

end Go.Proofs.YthdlepalglgmoaaGreatDoor
namespace Go.Proofs.YthdlepalglgmoaaGreatDoor.Rl
open Go Go.Sort Go.RowKit Rg Rh Rf

section
variable {P : Program} {ops : Array Oper}

/-- Whatever order is drawn from here on; operation L may turn older blocks. -/
def AnyL (P : Program) (ops : Array Oper) (B L : Nat) (Q : Act → World → Prop) : Nat → Array Bool → Act → World → Prop
  | 0, listed, a, w => Region.ready .any ops listed = [] ∧ Q a w
  | fuel + 1, listed, a, w => (Region.ready .any ops listed = [] → Q a w) ∧
      ∀ i ∈ Region.ready .any ops listed, wpOp P ops Bot i (fun a' W' => (i = L ∨ Below B w W') ∧ AnyL P ops B L Q fuel (listed.setIfInBounds i true) a' W') a w
theorem AnyL.sound {B L : Nat} {Q : Act → World → Prop} {Q' : Exit → Act → World → Prop} (hQ : ∀ a w, Q a w → Q' .normal a w) : ∀ (fuel : Nat) (listed : Array Bool) (a : Act) (w : World),
    AnyL P ops B L Q fuel listed a w → wpAny P .any ops Q' fuel listed a w
  | 0, _, _, _, h => ⟨h.1, hQ _ _ h.2⟩
  | fuel + 1, _, a, w, h => by
    obtain ⟨h0, h1⟩ := h
    exact ⟨fun e => hQ _ _ (h0 e), fun i hi => wpOp_bot (wpOp_mono (fun a' W' h2 => AnyL.sound hQ fuel _ a' W' h2.2) (h1 i hi))⟩

/-- L stands behind all others. -/
def lastB (ops : Array Oper) (L : Nat) : Bool := match ops[L]? with
  | none => false
  | some o => (List.range ops.size).all fun k => k == L || o.after.any fun e => Region.binds .any e && e.on == k
theorem last_spec {L : Nat} (h : lastB ops L = true) {listed : Array Bool} (hL : L ∈ Region.ready .any ops listed) {i : Nat} (hi : i ∈ Region.ready .any ops listed) : i = L := by
  obtain ⟨_, o, ho, hall⟩ := mem_ready.1 hL
  obtain ⟨h0, oi, hoi, _⟩ := mem_ready.1 hi
  unfold lastB at h
  rw [ho] at h
  simp only at h
  have hlt : i < ops.size := (Array.getElem?_eq_some_iff.1 hoi).1
  have := List.all_eq_true.1 h i (by simpa using hlt)
  rw [Bool.or_eq_true, beq_iff_eq] at this
  rcases this with e | e
  · exact e
  · obtain ⟨x, hx, hb⟩ := Array.any_eq_true'.1 e
    rw [Bool.and_eq_true, beq_iff_eq] at hb
    have h1 := hall x hx hb.1
    rw [hb.2] at h1
    rcases Nat.lt_or_ge i listed.size with h' | h'
    · simp [h'] at h0 h1; rw [h0] at h1; cases h1
    · simp [Array.getElem?_eq_none h'] at h1

theorem AnyL.first {B L : Nat} (hlast : lastB ops L = true) {Q : Act → World → Prop} {i : Nat} {oi : Oper} {v : Value} (hi : ops[i]? = some oi) (hsel : ∀ (j : Nat) (o : Oper) cs b, ops[j]? = some o → o.op ≠ .select cs b) :
    ∀ (fuel : Nat) (listed : Array Bool) (a : Act) (w : World),
      (∀ j oj, ops[j]? = some oj → j ≠ i → listed.getD j true = false → (∀ e ∈ oj.after, Region.binds .any e = true → e.on ≠ i) → oi.apart ops oj = true) →
      i ∈ Region.ready .any ops listed → YB P ops B oi v a w →
      AnyL P ops B L Q fuel (listed.setIfInBounds i true) (a.put oi.dst v) w → AnyL P ops B L Q (fuel + 1) listed a w := by
  intro fuel
  induction fuel with
  | zero =>
    intro listed a w _ hr hy H
    refine ⟨fun h => (by rw [h] at hr; cases hr), fun j hj => ?_⟩
    by_cases hji : j = i
    · subst hji; exact hy.wpOp hi ⟨.inr (Below.refl _ _), H⟩
    · have := ready_mono hj hji
      rw [H.1] at this
      cases this
  | succ fuel ih =>
    intro listed a w hfree hr hy H
    refine ⟨fun h => (by rw [h] at hr; cases hr), fun j hj => ?_⟩
    by_cases hji : j = i
    · subst hji; exact hy.wpOp hi ⟨.inr (Below.refl _ _), H⟩
    · have hjL : j ≠ L := fun e => hji (by subst e; exact (last_spec hlast hj hr).symm)
      have h1 := H.2 j (ready_mono hj hji)
      obtain ⟨hjun, oj, hoj, hall⟩ := mem_ready.1 hj
      have hnot : ∀ e ∈ oj.after, Region.binds .any e = true → e.on ≠ i := fun e he hb heq => by
        have h1 := hall e he hb
        have h0 := (mem_ready.1 hr).1
        rw [heq] at h1
        rcases Nat.lt_or_ge i listed.size with h' | h'
        · simp [h'] at h0 h1; rw [h0] at h1; cases h1
        · simp [Array.getElem?_eq_none h'] at h1
      have h2 := wpOp_putB hoj (hfree j oj hoj hji hjun hnot) (fun cs b => hsel i oi cs b hi) (fun cs b => hsel j oj cs b hoj) hy h1
      have hfree' : ∀ k ok, ops[k]? = some ok → k ≠ i → (listed.setIfInBounds j true).getD k true = false →
          (∀ e ∈ ok.after, Region.binds .any e = true → e.on ≠ i) → oi.apart ops ok = true := fun k ok hk hki hun hno => by
        refine hfree k ok hk hki ?_ hno
        by_cases hjk : j = k
        · subst hjk; exact hjun
        · rw [getD_set_ne true hjk] at hun; exact hun
      refine wpOp_mono (fun a' W' h3 => ?_) h2
      obtain ⟨hy', hb1, h4⟩ := h3
      have hb1' := hb1.resolve_left hjL
      refine ⟨hb1, ih (listed.setIfInBounds j true) a' W' hfree' (ready_mono hr (Ne.symm hji)) (hy'.later hb1') ?_⟩
      rw [Array.setIfInBounds_comm _ _ hji]
      exact h4

end
end Go.Proofs.YthdlepalglgmoaaGreatDoor.Rl
