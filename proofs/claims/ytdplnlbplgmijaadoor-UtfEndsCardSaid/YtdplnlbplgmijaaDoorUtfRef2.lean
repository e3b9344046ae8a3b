/- The reference's Text, Signs. -/
import Derived.Test.YtdplnlbplgmijaaDoorUtfNext
namespace Go.Proofs.YtdplnlbplgmijaaDoor
open Go Go.RowKit Um

theorem byteInfo : (Tryd.prog.info? 5).map (fun i => (i.zero, i.size, i.bytes)) = some (some (.int .u8 0), 1, 1) := by kernel_rfl
theorem intInfo : (Tryd.prog.info? 3).map (fun i => (i.zero, i.size, i.bytes)) = some (some (.int .i64 0), 1, 8) := by kernel_rfl

theorem refBytesRd (n : Int) (w : World) (hn : isB n = true) :
    Calls Tryd.prog 28 #[.int .i64 n] w fun e w' => ∃ g, e = .returned (.slice (some ⟨g, 0, none⟩) (Lib.encodeRuneZ n).length (Lib.encodeRuneZ n).length) ∧
      Below w.heap.size w w' ∧ Rd w' (some ⟨g, 0, none⟩) ((Lib.encodeRuneZ n).map (Value.int .u8)) := by
  refine (refBytes n w hn).mono ?_
  rintro e w' ⟨rfl, rfl⟩
  refine ⟨_, by simp [Lib.runeCells], (Below.refl _ _).alloc (Nat.le_refl _) _, Rd.of_block (heap_alloc_new w _) (by simp [Lib.runeCells])⟩

/-- What Text hands back. -/
def textR (l : List Int) : Value := if l.all isB then .tuple #[.string (textS l), .int .i64 0] else .tuple #[.string ⟨#[]⟩, .int .i64 11]
theorem textR_yes (l : List Int) (h : ∀ (j : Nat) (x : Int), l[j]? = some x → isB x = true) : textR l = .tuple #[.string (textS l), .int .i64 0] := by
  unfold textR
  rw [if_pos]
  rw [List.all_eq_true]
  intro x hx
  obtain ⟨j, hj⟩ := List.getElem?_of_mem hx
  exact h j x hj
theorem textR_no (l : List Int) (k : Nat) (x : Int) (h : l[k]? = some x) (hx : isB x = false) : textR l = .tuple #[.string ⟨#[]⟩, .int .i64 11] := by
  unfold textR
  rw [if_neg]
  rw [List.all_eq_true]
  intro hh
  have := hh x (List.mem_of_getElem? h)
  rw [hx] at this; cases this

theorem bytes_one (l : List Int) : ∀ u ∈ l.map (Value.int .u8), u.oneCell' = true := ints_oneCell _ _

set_option maxHeartbeats 1000000 in
theorem refText (l : List Int) (A : Option Addr) (c : Nat) (w : World) (hl : l.length ≤ 1000000) (hr : Rd w A (l.map (Value.int .i64))) :
    Calls Tryd.prog 11 #[.slice A l.length c] w fun e w' => e = .returned (textR l) ∧ Below w.heap.size w w' := by
  go_enter Tryd.func11, Tryd.ntmps11
  go_wp2
  go_loopw [4, 5] (fun v i wr => ∃ k n : Nat, k ≤ l.length ∧ i = .int .i64 k ∧ wr.ownsRow w.heap.size 5 1 v n ((encL (l.take k)).map (Value.int .u8)) ∧ Below w.heap.size w wr ∧ Hid (∀ j x, j < k → l[j]? = some x → isB x = true)) (fun _ i _ => l.length - (intOf i).toNat)
  case atStart => exact ⟨0, 0, by omega, rfl, by simpa [encL] using World.ownsRow_nil _ _ _ _, Below.refl _ _, fun j x h => by omega⟩
  case round =>
    obtain ⟨k, n, hk, rfl, hown, hB, H⟩ := hrel
    have hn1 : n ≤ 4 * l.length := by
      have h1 := hown.1
      have h2 := encL_length (l.take k)
      simp at h1 h2
      omega
    by_cases hlt : k < l.length
    · obtain ⟨x, hx⟩ : ∃ x, l[k]? = some x := ⟨_, List.getElem?_eq_getElem hlt⟩
      have hrr := hr.below hB (Nat.le_refl _)
      obtain ⟨g, o, rfl, h0⟩ := hrr.at_ (j := k) (u := .int .i64 x) (by simp [hx])
      have his := fun W => refIs x W
      by_cases hi : isB x = true
      · have hby := fun W => refBytesRd x W hi
        rw [hi] at his
        have hs := encL_take_succ l k x hx
        have Hs := Lib.hid hs
        have Hx := Lib.hid hx
        have hel := (Lib.encodeRuneZ_length x).2
        clear hx hs hr hrr
        go_wp2_with (first
          | (go_at_call 13; refine (his _).mono ?_; rintro e w1 ⟨rfl, rfl⟩)
          | (go_at_call 28; refine (hby _).mono ?_; rintro e w1 ⟨g1, rfl, hb1, hrd⟩; have hown1 := own_below hown hb1 (Nat.le_refl _); have hB1 := hB.trans (hb1.mono hB.size))
          | (at_builtin; refine wpList_app rfl rfl Tryd.underlying38 byteInfo rfl (by omega) rfl hown1 rfl hrd (by simp) (bytes_one _) (by omega) (by omega) hB1.size ?_; intro v2 w2 hown2 hb2))
        go_roundw
        case rel =>
          refine ⟨k+1, n + (Lib.encodeRuneZ x).length, by omega, by go_num, ?_, hB1.trans hb2, fun j y hj hy => ?_⟩
          · rw [Hs.out, List.map_append]; exact hown2
          · rcases Nat.lt_or_ge j k with h | h
            · exact H.out j y h hy
            · have : j = k := by omega
              subst this
              rw [Hx.out] at hy
              injection hy with hy; subst hy; exact hi
        case measure => simp [intOf]; omega
      · have hi : isB x = false := by simpa using hi
        rw [hi] at his
        have hno := Lib.hid (textR_no l k x hx hi)
        clear hx hr hrr
        go_wp2_with (first
          | (go_at_call 13; refine (his _).mono ?_; rintro e w1 ⟨rfl, rfl⟩))
        go_ret2
        exact ⟨by rw [hno.out]; rfl, hB⟩
    · have hkl : k = l.length := by omega
      have hyes := Lib.hid (textR_yes l (fun j x hj => H.out j x (by have := (List.getElem?_eq_some_iff.1 hj).1; omega) hj))
      have hv : ∃ A' c', u4 = .slice A' n c' := by
        rcases hown.2 with ⟨hv, hn⟩ | ⟨g', cap, cur, hv, _⟩
        · subst hn; exact ⟨none, 0, hv⟩
        · exact ⟨_, cap, hv⟩
      obtain ⟨A', c', rfl⟩ := hv
      have hcv := run_conv_bytes (P := Tryd.prog) (c := c') 38 9 5 Tryd.underlying38 Tryd.underlying5 Tryd.underlying9 (Rd.of_own hown) (by simpa using hown.1)
      rw [hkl, List.take_length] at hcv
      have hts : strOfNums (encL l) = textS l := rfl
      rw [hts] at hcv
      clear hts
      have Hkl := Lib.hid hkl
      clear hkl
      go_wp2
      go_ret2
      exact ⟨by rw [hyes.out]; rfl, hB⟩
theorem own_form {w : World} {base : Nat} {e : TypeId} {size n : Nat} {v : Value} {xs : List Value} (h : w.ownsRow base e size v n xs) : ∃ A c, v = .slice A n c := by
  rcases h.2 with ⟨hv, hn⟩ | ⟨g', cap, cur, hv, _⟩
  · subst hn; exact ⟨none, 0, hv⟩
  · exact ⟨_, cap, hv⟩

theorem nx_step (s : ByteArray) (k : Nat) (h : (nx (from_ s k)).2 ≠ 0) : k + (nx (from_ s k)).2 ≤ s.size ∧ (nx (from_ s k)).2 ≤ 4 ∧ (nx (from_ s k)).1 ≤ 1114111 := by
  have h1 := nx_enc (from_ s k) h
  rw [from_length] at h1
  have h2 := h1.1
  rw [isB_iff] at h2
  omega

set_option maxHeartbeats 1000000 in
theorem refSigns (s : ByteArray) (w : World) (hs : s.size ≤ 1000000) :
    Calls Tryd.prog 20 #[.string s] w fun e w' => ∃ v n, e = .returned (.tuple #[v, .int .i64 (sigR s.data.toList).2.1, .int .i64 (sigR s.data.toList).2.2]) ∧
      w'.ownsRow w.heap.size 3 1 v n ((sigR s.data.toList).1.map (Value.int .i64)) ∧ Below w.heap.size w w' := by
  go_enter Tryd.func20, Tryd.ntmps20
  go_wp2
  go_loopw [5, 6] (fun v i wr => ∃ k n : Nat, ∃ acc : List Int, k ≤ s.size ∧ n ≤ k ∧ i = .int .i64 k ∧ wr.ownsRow w.heap.size 3 1 v n (acc.map (Value.int .i64)) ∧ Below w.heap.size w wr ∧ Hid (sgRest s.data.toList k acc)) (fun _ i _ => s.size - (intOf i).toNat)
  case atStart => exact ⟨0, 0, [], by omega, by omega, rfl, by simpa using World.ownsRow_nil _ _ _ _, Below.refl _ _, sgRest_start _⟩
  case round =>
    obtain ⟨k, n, acc, hk, hnk, rfl, hown, hB, H⟩ := hrel
    have hsz : s.data.toList.length = s.size := size_toList s
    by_cases hlt : k < s.size
    · have hnx := fun W => refNext s k W hlt (by omega)
      by_cases h0 : (nx (from_ s k)).2 = 0
      · have hres := Lib.hid (sgRest_bad H.out (by rw [hsz]; exact hlt) h0)
        rw [h0] at hnx
        clear hsz
        generalize (nx (from_ s k)).1 = x at hnx
        go_wp2_with (go_at_call 40; refine (hnx _).mono ?_; rintro e w1 ⟨rfl, hb1⟩)
        go_ret3
        refine ⟨_, 0, by rw [hres.out]; rfl, ?_, hB.trans (hb1.mono hB.size)⟩
        rw [hres.out]
        simpa using World.ownsRow_nil _ _ _ _
      · have hres := Lib.hid (sgRest_go H.out (by rw [hsz]; exact hlt) h0)
        obtain ⟨h1, h2, h3⟩ := nx_step s k h0
        clear hsz
        generalize (nx (from_ s k)).1 = x at hnx h3 hres
        generalize (nx (from_ s k)).2 = d at hnx h0 h1 h2 hres
        have hd : (d : Int) ≠ 0 := by omega
        have hd1 : ((d : Int) == 0) = false := by simpa using hd
        go_wp2_with (first
          | (go_at_call 40; refine (hnx _).mono ?_; rintro e w1 ⟨rfl, hb1⟩; have hown1 := own_below hown hb1 (Nat.le_refl _); have hB1 := hB.trans (hb1.mono hB.size))
          | (at_builtin; refine wpList_app rfl rfl Tryd.underlying22 intInfo rfl (by omega) rfl (hown1.alloc _) rfl (Rd.of_block (heap_alloc_new w1 _) rfl) rfl (ints_oneCell _ [(x : Int)]) (by omega) (by omega) (by have := hB1.size; simp; omega) ?_; intro v2 w2 hown2 hb2))
        go_roundw
        case rel =>
          refine ⟨k+d, n+1, acc ++ [(x : Int)], by omega, by omega, by go_num, by simpa using hown2, (hB1.alloc hB1.size _).trans hb2, hres.out⟩
        case measure => simp [intOf]; omega
    · have hkl : k = s.size := by omega
      have hres := Lib.hid (sgRest_end H.out (by rw [hsz]; omega))
      clear hkl hsz
      go_wp2
      go_ret3
      refine ⟨_, n, by rw [hres.out]; rfl, ?_, hB⟩
      rw [hres.out]
      exact hown

theorem refAlpha (c : Int) (w : World) (h0 : 0 ≤ c) (h1 : c < 256) :
    Calls Tryd.prog 44 #[.int .u8 c] w fun e w' => e = .returned (.bool (alphaB c)) ∧ w = w' := by
  go_enter Tryd.func44, Tryd.ntmps44
  go_wp2
  all_goals
    go_ret
    refine ⟨?_, rfl⟩
    simp [alphaB, inB, *]
  all_goals omega

theorem refDigit (c : Int) (w : World) (h0 : 0 ≤ c) (h1 : c < 256) :
    Calls Tryd.prog 45 #[.int .u8 c] w fun e w' => e = .returned (.bool (digitB c)) ∧ w = w' := by
  go_enter Tryd.func45, Tryd.ntmps45
  go_wp2
  all_goals
    go_ret
    refine ⟨?_, rfl⟩
    simp [digitB, *]
  all_goals omega
end Go.Proofs.YtdplnlbplgmijaaDoor
