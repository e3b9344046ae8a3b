/- The program's package query, walked: part. -/
import Derived.Test.YtafaanegkoolgaaGreatDoorJQPart
namespace Go.Proofs.YtafaanegkoolgaaGreatDoor
open Go Go.RowKit Go.Maps Go.ChangeMaps Go.Shelf Um Fm

set_option maxRecDepth 20000 in
set_option maxHeartbeats 4000000 in
theorem qPartK (k : Int) (s : ByteArray) (t : Tm) (A : Option Addr) (m c r : Nat) (inner : Bool) (w : World) (hC : Ctx w) (hs : s.size ≤ 281474976710656) (ht : szT t) (hm : m ≤ 281474976710656) (hM : MapOf w .i64 r rulesL)
    (hI : ∀ W, Below w.heap.size w W → Calls Tryz.prog 127 #[.slice A m c, .func (.func 138) #[] #[]] W fun e w' => e = .returned (.bool inner) ∧ Below W.heap.size W w') :
    Calls Tryz.prog 67 #[.map (some r), .agg #[.int .i64 k, .string s, .int .i64 t.k, .string t.x, .string t.l, .string t.y, .slice A m c]] w fun e w' => e = .returned (.bool (partK k s t m inner)) ∧ Below w.heap.size w w' := by
  have hm' : (m : Int) ≤ 281474976710656 := by omega
  obtain ⟨res, hres⟩ : ∃ r, partK k s t m inner = r := ⟨_, rfl⟩
  rw [hres]
  have Hres := Lib.hid hres
  clear hres
  have heq : ∀ W : World, (binOp .eql 36 (.agg #[.int .i64 t.k, .string t.x, .string t.l, .string t.y]) (.agg #[.int .i64 0, .string ⟨#[]⟩, .string ⟨#[]⟩, .string ⟨#[]⟩])).run Tryz.prog W = .ok (.bool (zeroB t)) W := fun W => by
    have := run_eqTm t zTm W
    rw [sameTm_zero] at this
    exact this
  have hB0 : Below w.heap.size w (w.alloc (.cells #[.int .i64 k, .string s, .int .i64 t.k, .string t.x, .string t.l, .string t.y, .slice A m c] 38)) := (by repeat (first | exact Below.refl _ _ | assumption | exact (Below.refl _ _).alloc (Nat.le_refl _) _ | refine below_tr ?_ (by assumption) | refine below_alloc ?_ | refine below_tr ?_ (below_regrown _ _ _)))
  have hL := qLeaf k s t A m c (w.alloc (.cells #[.int .i64 k, .string s, .int .i64 t.k, .string t.x, .string t.l, .string t.y, .slice A m c] 38))
  have hN := fun W (_ : Below w.heap.size w W) => qName s W hs
  have hT := fun W hb => qTold t W (hC.step hb) ht
  have hlk : ∀ W, Below w.heap.size w W → (Instr.lookup 90 (.map (some r)) (.int .i64 k) true).run Tryz.prog W = .ok (ruleVO (ruleOf k)) W := fun W hb => by
    have h := run_lookup_fn2 (P := Tryz.prog) Tryz.underlying90 Tryz.underlying33 (z := ruleV 0 0 false) (w := W) (by kernel_rfl) (hM.later hb) k
    rw [rulesL_find] at h
    exact h
  have Heq := Lib.hid heq
  have Hlk := Lib.hid hlk
  have HN := Lib.hid hN
  have HT := Lib.hid hT
  have HI := Lib.hid hI
  clear hlk hN hT hI hM hC hs ht heq
  generalize hbare : zeroB t = bare at *
  have Hbare := Lib.hid hbare
  clear hbare
  have heq := Heq.out
  by_cases hlf : leafK k = true
  · rw [hlf] at hL
    by_cases h1 : k = 1
    · subst h1
      have hv : partK 1 s t m inner = (m == 0 && (nameB s && bare)) := by rw [← Hbare.out]; simp [partK, leafK]
      have Hv := Lib.hid hv
      clear hlf hv
      go_enter Tryz.func67, Tryz.ntmps67
      go_wp2_with fail
      refine hL.mono ?_
      rintro e w2 ⟨rfl, hb2⟩
      obtain ⟨hc, hf⟩ := bcell hb2
      have hb02 := below_tr hB0 hb2
      have hNm := HN.out w2 hb02
      generalize nameB s = q2 at *
      go_wp2_with fail
      refine hNm.mono ?_
      rintro e w3 ⟨rfl, hb3⟩
      have hb03 := Lib.hid (below_tr hb02 hb3)
      have hb23 := below_tr hb2 hb3
      clear hc hf hb2 hb3 hL hNm
      obtain ⟨hc, hf⟩ := bcell hb23
      by_cases h0 : (m : Int) = 0
      · have h0' : (m == 0) = true := by simp; omega
        have Hw : Hid (res = (q2 && bare)) := by show _ = _; rw [← Hres.out, Hv.out, h0']; rfl
        clear h0'
        cases q2 <;> cases bare
        all_goals
          go_wp2
          go_ret
          exact ⟨by rw [Hw.out]; rfl, hb03.out⟩
      · have h0' : (m == 0) = false := by simp; omega
        have Hw : Hid (res = false) := by show _ = _; rw [← Hres.out, Hv.out, h0']; rfl
        clear h0'
        cases q2 <;> cases bare
        all_goals
          go_wp2
          go_ret
          exact ⟨by rw [Hw.out]; rfl, hb03.out⟩
    · have h2 : k = 2 := by simp [leafK] at hlf; omega
      subst h2
      have hv : partK 2 s t m inner = (m == 0 && (s.toList.isEmpty && toldB t)) := by simp [partK, leafK]
      have Hv := Lib.hid hv
      clear hlf hv h1
      go_enter Tryz.func67, Tryz.ntmps67
      go_wp2_with fail
      refine hL.mono ?_
      rintro e w2 ⟨rfl, hb2⟩
      obtain ⟨hc, hf⟩ := bcell hb2
      have hb02 := below_tr hB0 hb2
      have hTd := HT.out w2 hb02
      generalize toldB t = q2 at *
      by_cases h0 : (m : Int) = 0
      · have h0' : (m == 0) = true := by simp; omega
        cases he : s.toList.isEmpty
        · have Hw : Hid (res = false) := by show _ = _; rw [← Hres.out, Hv.out, he]; simp
          clear h0'
          go_wp2
          go_ret
          exact ⟨by rw [Hw.out]; rfl, hb02⟩
        · have Hw : Hid (res = q2) := by show _ = _; rw [← Hres.out, Hv.out, he, h0']; rfl
          clear h0'
          go_wp2_with (go_at_call 137; refine hTd.mono ?_; rintro e w3 ⟨rfl, hb3⟩)
          go_ret
          exact ⟨by rw [Hw.out]; rfl, below_tr hb02 hb3⟩
      · have h0' : (m == 0) = false := by simp; omega
        have Hw : Hid (res = false) := by show _ = _; rw [← Hres.out, Hv.out, h0']; rfl
        clear h0'
        go_wp2
        go_ret
        exact ⟨by rw [Hw.out]; rfl, hb02⟩
  · have hlf2 : leafK k = false := by simpa using hlf
    rw [hlf2] at hL
    have k1 : (k == 1) = false := by simp [leafK] at hlf2; simpa using hlf2.1
    have k2 : (k == 2) = false := by simp [leafK] at hlf2; simpa using hlf2.2
    have Hlf := Lib.hid hlf2
    clear hlf hlf2
    go_enter Tryz.func67, Tryz.ntmps67
    go_wp2_with fail
    refine hL.mono ?_
    rintro e w2 ⟨rfl, hb2⟩
    obtain ⟨hc, hf⟩ := bcell hb2
    have hb02 := below_tr hB0 hb2
    have hlk := Hlk.out w2 hb02
    cases hr : ruleOf k with
    | none =>
      have Hw : Hid (res = false) := by show _ = _; rw [← Hres.out, partK, Hlf.out, hr]; rfl
      rw [hr] at hlk
      simp only [ruleVO, ruleV] at hlk
      clear hr
      go_wp2
      go_ret
      exact ⟨by rw [Hw.out]; rfl, (by repeat (first | exact Below.refl _ _ | assumption | exact (Below.refl _ _).alloc (Nat.le_refl _) _ | refine below_tr ?_ (by assumption) | refine below_alloc ?_ | refine below_tr ?_ (below_regrown _ _ _)))⟩
    | some abq =>
      obtain ⟨a, b, q⟩ := abq
      have Hw : Hid (res = (s.toList.isEmpty && bare && decide (a ≤ m) && decide ((m : Int) ≤ b) && !(q && inner))) := by show _ = _; rw [← Hres.out, partK, Hlf.out, hr, Hbare.out]; rfl
      rw [hr] at hlk
      simp only [ruleVO, ruleV] at hlk
      clear hr
      have hz2 : w.heap.size < w2.heap.size := by have := hb2.size; simp at this; omega
      have hb2a : Below w2.heap.size w2 (w2.alloc (.cells #[.int .i64 a, .int .i64 b, .bool q] 147)) := (by repeat (first | exact Below.refl _ _ | assumption | exact (Below.refl _ _).alloc (Nat.le_refl _) _ | refine below_tr ?_ (by assumption) | refine below_alloc ?_ | refine below_tr ?_ (below_regrown _ _ _)))
      have hIn := HI.out _ (below_tr hb02 hb2a)
      have HB := Lib.hid (below_tr hb02 hb2a)
      clear hb2a
      cases he : s.toList.isEmpty
      · go_wp2
        go_ret
        exact ⟨by rw [Hw.out, he]; rfl, HB.out⟩
      cases bare
      · go_wp2
        go_ret
        exact ⟨by rw [Hw.out]; simp, HB.out⟩
      by_cases ha : a ≤ (m : Int)
      case neg =>
        go_wp2
        go_ret
        exact ⟨by rw [Hw.out, decide_eq_false (show ¬ a ≤ (m : Int) by omega)]; simp, HB.out⟩
      by_cases hb : (m : Int) ≤ b
      case neg =>
        go_wp2
        go_ret
        exact ⟨by rw [Hw.out, decide_eq_false (show ¬ (m : Int) ≤ b by omega)]; simp, HB.out⟩
      have Hw2 : Hid (res = !(q && inner)) := by show _ = _; rw [Hw.out, he, decide_eq_true ha, decide_eq_true hb]; simp
      cases q
      · go_wp2
        go_ret
        exact ⟨by rw [Hw2.out]; rfl, HB.out⟩
      cases inner
      all_goals
        go_wp2_with (go_at_call 127; refine hIn.mono ?_; rintro e w3 ⟨rfl, hb3⟩)
        go_ret
        exact ⟨by rw [Hw2.out]; rfl, below_tr HB.out hb3⟩

/-- Texts of a condition are short enough. -/
def szX : (n : Nat) → ExT n → Prop
  | 0, _ => True
  | n + 1, (_, s, t, kids) => s.size ≤ 281474976710656 ∧ szT t ∧ kids.length ≤ 1353245080300 ∧ ∀ x ∈ kids, szX n x
theorem enters_part1 : ∀ args W, (callFunc 138 args).run Tryz.prog W = .ok (.enter 138 args) W := enters_of Tryz.func138 (by kernel_rfl) rfl
theorem qPart (n : Nat) (x : ExT n) (cs : List Value) (r : Nat) (w : World) (hC : Ctx w) (hr : RdE n w cs x) (hz : szX n x) (hM : MapOf w .i64 r rulesL) :
    Calls Tryz.prog 67 #[.map (some r), .agg cs.toArray] w fun e w' => e = .returned (.bool (partB n x)) ∧ Below w.heap.size w w' := by
  match n, x, hr, hz with
  | n + 1, (k, s, t, kids), ⟨A, c, he, hle, hk⟩, ⟨hs, ht, hl, hkz⟩ =>
    subst he
    refine qPartK k s t A kids.length c r (kids.any fun y => !leafB n y) w hC hs ht (by omega) hM fun W hW => ?_
    exact hasExpr 138 #[] enters_part1 n (fun y => !leafB n y) kids A c W hl (RdEs.later hk hW) fun x hx cs W' hW' hr => qPart1 n x cs W' hr
end Go.Proofs.YtafaanegkoolgaaGreatDoor
