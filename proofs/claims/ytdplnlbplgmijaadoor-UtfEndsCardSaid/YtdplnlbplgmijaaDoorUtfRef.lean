/- The reference's functions of layer 7, walked. -/
import Derived.Test.YtdplnlbplgmijaaDoorBase
import Derived.Test.YtdplnlbplgmijaaDoorUtfMath
import Derived.Test.YtdplnlbplgmijaaDoorRegion
namespace Go.Proofs.YtdplnlbplgmijaaDoor
open Go Go.RowKit Um

theorem refIs (n : Int) (w : World) :
    Calls Tryd.prog 13 #[.int .i64 n] w fun e w' => e = .returned (.bool (isB n)) ∧ w = w' := by
  go_enter Tryd.func13, Tryd.ntmps13
  go_wp2
  all_goals
    go_ret
    refine ⟨?_, rfl⟩
    simp [isB, *]
  all_goals omega

theorem refIn (n : Int) (l : List Int) (A : Option Addr) (c : Nat) (w : World) (hl : l.length ≤ 1000000) (hc : Rd w A (l.map (Value.int .i64))) :
    Calls Tryd.prog 42 #[.int .i64 n, .slice A l.length c] w fun e w' => e = .returned (.bool (inB n l)) ∧ w = w' := by
  go_enter Tryd.func42, Tryd.ntmps42
  go_wp2
  go_loop [5] (fun i => ∃ k : Nat, k ≤ l.length + 1 ∧ i = .int .i64 k ∧ Hid (inB n (l.drop k) = inB n l)) (fun i => l.length + 2 - (intOf i).toNat)
  case atStart => exact ⟨0, by omega, rfl, rfl⟩
  case round =>
    obtain ⟨k, hk, rfl, H⟩ := hrel
    by_cases hlt : k + 1 < l.length
    · obtain ⟨x, hx⟩ : ∃ x, l[k]? = some x := ⟨_, List.getElem?_eq_getElem (by omega)⟩
      obtain ⟨y, hy⟩ : ∃ x, l[k+1]? = some x := ⟨_, List.getElem?_eq_getElem (by omega)⟩
      have hd := inB_drop n x y l k hx hy
      rw [H.out] at hd
      have Hd := Lib.hid hd
      clear hd H
      obtain ⟨g, o, rfl, hcc⟩ := hc.resolve_left (by intro h; simp at h; subst h; simp at hx)
      have h0 := hcc k (.int .i64 x) (by simp [hx])
      have h1 := hcc (k+1) (.int .i64 y) (by simp [hy])
      clear hx hy hc hcc
      go_wp2
      · go_ret
        exact ⟨by rw [Hd.out]; simp [*], rfl⟩
      · go_round
        case rel => exact ⟨k+2, by omega, by go_num, by show _ = _; rw [Hd.out]; simp; omega⟩
        case measure => simp [intOf]; omega
      · go_round
        case rel => exact ⟨k+2, by omega, by go_num, by show _ = _; rw [Hd.out]; simp; omega⟩
        case measure => simp [intOf]; omega
    · have he := inB_end n l k hlt
      rw [H.out] at he
      have Hd := Lib.hid he
      clear he H
      go_wp2
      go_ret
      exact ⟨by rw [Hd.out]; rfl, rfl⟩

theorem refFirst (n : Int) (w : World) :
    Calls Tryd.prog 41 #[.int .i64 n] w fun e w' => e = .returned (.bool (firstB n)) ∧ Below w.heap.size w w' := by
  have hin := fun W hW => refIn n firstL (some ⟨w.heap.size, 0, none⟩) 28 W (by decide) hW
  go_enter Tryd.func41, Tryd.ntmps41
  go_wp2_with (go_at_call 42; refine (hin _ ?_).mono ?_; exact Rd.of_block (heap_alloc_new w _) rfl; rintro e w' ⟨rfl, rfl⟩)
  go_ret
  exact ⟨rfl, (Below.refl _ _).alloc (Nat.le_refl _) _⟩

theorem refLetter (n : Int) (w : World) :
    Calls Tryd.prog 43 #[.int .i64 n] w fun e w' => e = .returned (.bool (letterB n)) ∧ Below w.heap.size w w' := by
  have hf := refFirst n w
  have hin := fun (W : World) (g : Nat) hW => refIn n letterL (some ⟨g, 0, none⟩) 14 W (by decide) hW
  unfold letterB
  generalize firstB n = b at hf
  go_enter Tryd.func43, Tryd.ntmps43
  cases b
  · go_wp2_with (first
      | (go_at_call 41; refine hf.mono ?_; rintro e w1 ⟨rfl, hb⟩)
      | (go_at_call 42; refine (hin _ _ ?_).mono ?_; exact Rd.of_block (heap_alloc_new w1 _) rfl; rintro e w' ⟨rfl, rfl⟩))
    go_ret
    exact ⟨by simp, hb.alloc hb.size _⟩
  · go_wp2_with (first
      | (go_at_call 41; refine hf.mono ?_; rintro e w1 ⟨rfl, hb⟩))
    go_ret
    exact ⟨by simp, hb⟩

def badS : ByteArray := ⟨#[60, 62, 34, 123, 125, 124, 94, 96, 92]⟩
theorem badS_bn : ∀ k, k < 9 → ((bn badS k : Nat) : Int) = badL.getD k 0 := by decide

theorem badL_raw : ∀ k, k < 9 → rawB (badL.getD k 0) = false := by decide

theorem refRaw (n : Int) (w : World) :
    Calls Tryd.prog 15 #[.int .i64 n] w fun e w' => e = .returned (.bool (rawB n)) ∧ w = w' := by
  have his := fun W => refIs n W
  go_enter Tryd.func15, Tryd.ntmps15
  go_wp2
  obtain ⟨S, hS⟩ : ∃ S, S = badS := ⟨_, rfl⟩
  have HS := Lib.hid hS
  change Code.wp _ _ _ ⟨#[_, _, _, .string badS, _, _, _, _, _, _, _, _, _, _, _, _, _, _, _, _, _, _, _], _⟩ _
  rw [← hS]
  clear hS
  have hsz : S.size = 9 := by rw [HS.out]; rfl
  have hs1 : S.size ≤ 9 := by omega
  have hs2 : 9 ≤ S.size := by omega
  clear hsz
  go_loop [4] (fun i => ∃ k : Nat, k ≤ 9 ∧ i = .int .i64 k ∧ Hid (∀ j, j < k → n ≠ bn S j)) (fun i => 9 - (intOf i).toNat)
  case atStart => exact ⟨0, by omega, rfl, fun j h => by omega⟩
  case round =>
    obtain ⟨k, hk, rfl, H⟩ := hrel
    by_cases hlt : k < 9
    · by_cases he : n = bn S k
      · have hb : rawB n = false := by
          have e2 := he
          rw [HS.out, badS_bn k hlt] at e2
          rw [e2]; exact badL_raw k hlt
        have Hb := Lib.hid hb
        have he1 : (n == (bn S k : Int)) = true := by simpa using he
        clear hb he
        go_wp2
        go_ret
        exact ⟨by rw [Hb.out]; rfl, rfl⟩
      · have he2 : (n == (bn S k : Int)) = false := by simpa using he
        go_wp2
        go_round
        case rel =>
          exact ⟨k+1, by omega, by go_num, fun j hj => by
            rcases Nat.lt_or_ge j k with h | h
            · exact H.out j h
            · have : j = k := by omega
              subst this; exact he⟩
        case measure => simp [intOf]; omega
    · have hk9 : 9 ≤ k := by omega
      have hn : badL.contains n = false := by
        have h9 : ∀ j, j < 9 → n ≠ badL.getD j 0 := fun j hj => by
          have := H.out j (by omega)
          rwa [HS.out, badS_bn j hj] at this
        have h0 := h9 0 (by omega); have h1 := h9 1 (by omega); have h2 := h9 2 (by omega)
        have h3 := h9 3 (by omega); have h4 := h9 4 (by omega); have h5 := h9 5 (by omega)
        have h6 := h9 6 (by omega); have h7 := h9 7 (by omega); have h8 := h9 8 (by omega)
        simp only [badL, List.getD_cons_zero, List.getD_cons_succ] at h0 h1 h2 h3 h4 h5 h6 h7 h8
        simp [badL, h0, h1, h2, h3, h4, h5, h6, h7, h8]
      have hr : rawB n = (isB n && decide (32 < n)) := by unfold rawB; rw [hn]; simp
      have Hr := Lib.hid hr
      clear hr hn H
      generalize isB n = b at his Hr
      cases b
      · go_wp2_with (go_at_call 13; refine (his _).mono ?_; rintro e w1 ⟨rfl, rfl⟩)
        go_ret
        exact ⟨by rw [Hr.out]; rfl, rfl⟩
      · go_wp2_with (go_at_call 13; refine (his _).mono ?_; rintro e w1 ⟨rfl, rfl⟩)
        go_ret
        exact ⟨by rw [Hr.out]; simp, rfl⟩

/-- The bytes of a sign, in a block of their own. -/
theorem refBytes (n : Int) (w : World) (hn : isB n = true) :
    Calls Tryd.prog 28 #[.int .i64 n] w fun e w' => e = .returned (.slice (some ⟨w.heap.size, 0, none⟩) (Lib.runeCells n).length (Lib.runeCells n).length) ∧
      w' = w.alloc (.cells (Lib.runeCells n).toArray 5) := by
  rw [isB_iff] at hn
  obtain ⟨⟨h0, h9⟩, hs⟩ := hn
  by_cases c1 : n ≤ 127
  · have e := Lib.encodeRuneZ_one h0 c1
    unfold Lib.runeCells
    rw [e]
    clear e hs
    go_enter Tryd.func28, Tryd.ntmps28
    go_wp2
    go_ret
    exact ⟨rfl, rfl⟩
  · by_cases c2 : n ≤ 2047
    · have e := Lib.encodeRuneZ_two (by omega : 128 ≤ n) c2
      unfold Lib.runeCells
      rw [e]
      clear e hs
      go_enter Tryd.func28, Tryd.ntmps28
      go_wp2
      go_ret
      exact ⟨rfl, rfl⟩
    · by_cases c3 : n ≤ 65535
      · have e := Lib.encodeRuneZ_three (r := n) (by omega)
        unfold Lib.runeCells
        rw [e]
        clear e hs
        go_enter Tryd.func28, Tryd.ntmps28
        go_wp2
        go_ret
        exact ⟨rfl, rfl⟩
      · have e := Lib.encodeRuneZ_four (r := n) (by omega) (by omega)
        unfold Lib.runeCells
        rw [e]
        clear e hs
        go_enter Tryd.func28, Tryd.ntmps28
        go_wp2
        go_ret
        exact ⟨rfl, rfl⟩
def encS (n : Int) : ByteArray := ⟨(Lib.encodeRune n).toArray⟩
theorem encS_toList (n : Int) : (encS n).toList = Lib.encodeRune n := by unfold encS; rw [ByteArray.toList_mk]

theorem runeCells_nums (n : Int) : Lib.runeCells n = (Lib.encodeRuneZ n).map (Value.int .u8) := rfl

theorem refBytesStr (n : Int) (w : World) (hn : isB n = true) :
    Calls Tryd.prog 28 #[.int .i64 n] w fun e w' => ∃ g, e = .returned (.slice (some ⟨g, 0, none⟩) (Lib.runeCells n).length (Lib.runeCells n).length) ∧
      Below w.heap.size w w' ∧ (∀ W, Below w'.heap.size w' W → (convert 38 9 (.slice (some ⟨g, 0, none⟩) (Lib.runeCells n).length (Lib.runeCells n).length)).run Tryd.prog W = .ok (.string (encS n)) W) := by
  refine (refBytes n w hn).mono ?_
  rintro e w' ⟨rfl, rfl⟩
  refine ⟨_, rfl, (Below.refl _ _).alloc (Nat.le_refl _) _, ?_⟩
  intro W hW
  have := run_convert_bytes_arg (P := Tryd.prog) W 38 5 Tryd.underlying38 Tryd.underlying5 w.heap.size 0
    (Lib.runeCells n).length (Lib.runeCells n).length (Lib.encodeRuneZ n) (by simp [Lib.runeCells]) ?_ 9 Tryd.underlying9
  · rw [this]
    congr 2
  · intro i hi
    have hb : (w.alloc (.cells (Lib.runeCells n).toArray 5)).heap[w.heap.size]? = some (.cells (Lib.runeCells n).toArray 5) := heap_alloc_new w _
    rw [← hW.block w.heap.size (by simp)] at hb
    simp only [World.cell?, hb, Nat.zero_add]
    simp [Lib.runeCells] at hi ⊢
    simp [hi]

/-- The bytes that stand from a place on. -/
abbrev from_ (s : ByteArray) (k : Nat) : List UInt8 := s.data.toList.drop k

theorem cand_bn (s : ByteArray) (k : Nat) :
    cand (from_ s k) 1 = bn s k ∧ cand (from_ s k) 2 = 64 * (bn s k - 192) + bn s (k+1) - 128 ∧
    cand (from_ s k) 3 = 64 * (64 * (bn s k - 224) + bn s (k+1) - 128) + bn s (k+2) - 128 ∧
    cand (from_ s k) 4 = 64 * (64 * (64 * (bn s k - 240) + bn s (k+1) - 128) + bn s (k+2) - 128) + bn s (k+3) - 128 := by
  simp only [cand, from_, bn_drop, Nat.add_zero, and_self]

theorem from_length (s : ByteArray) (k : Nat) : (from_ s k).length = s.size - k := by simp [from_]

/-- A candidate is right just if nx says so. -/
theorem cand_yes (l : List UInt8) (k : Nat) (_h1 : 1 ≤ k) (hk : k ≤ l.length) (h : isB (cand l k) = true ∧ l.take k = Lib.encodeRune (cand l k)) : nx l = ((cand l k).toNat, k) :=
  nx_of_enc _ l h.1 k h.2 hk
theorem cand_no (l : List UInt8) (k : Nat) (h1 : 1 ≤ k) (h : ¬ (isB (cand l k) = true ∧ l.take k = Lib.encodeRune (cand l k))) : (nx l).2 ≠ k := by
  intro e
  apply h
  have := nx_enc l (by omega)
  rw [e] at this
  rw [this.2.2.2.1]
  exact ⟨this.1, this.2.2.1⟩

end Go.Proofs.YtdplnlbplgmijaaDoor
