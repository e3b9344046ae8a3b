/- The reference's Text, Signs. -/
import Derived.Test.YtheeklkcaapkbaaGreatDoorJUtfNext
namespace Go.Proofs.YtheeklkcaapkbaaGreatDoor
open Go Go.RowKit Um

theorem byteInfo : (Tryz.prog.info? 5).map (fun i => (i.zero, i.size, i.bytes)) = some (some (.int .u8 0), 1, 1) := by kernel_rfl
theorem intInfo : (Tryz.prog.info? 3).map (fun i => (i.zero, i.size, i.bytes)) = some (some (.int .i64 0), 1, 8) := by kernel_rfl

theorem refBytesRd (n : Int) (w : World) (hn : isB n = true) :
    Calls Tryz.prog 100 #[.int .i64 n] w fun e w' => ∃ g, e = .returned (.slice (some ⟨g, 0, none⟩) (Lib.encodeRuneZ n).length (Lib.encodeRuneZ n).length) ∧
      Below w.heap.size w w' ∧ Rd w' (some ⟨g, 0, none⟩) ((Lib.encodeRuneZ n).map (Value.int .u8)) := by
  refine (refBytes n w hn).mono ?_
  rintro e w' ⟨rfl, rfl⟩
  refine ⟨_, by simp [Lib.runeCells], (Below.refl _ _).alloc (Nat.le_refl _) _, Rd.of_block (heap_alloc_new w _) (by simp [Lib.runeCells])⟩

/-- What Text hands back. -/
def textR (l : List Int) : Value := if l.all isB then .tuple #[.string (textS l), .int .i64 0] else .tuple #[.string ⟨#[]⟩, .int .i64 11]
theorem textR_yes (l : List Int) (h : ∀ (j : Nat) (x : Int), l[j]? = some x → isB x = true) : textR l = .tuple #[.string (textS l), .int .i64 0] := by
  unfold textR
  rw [if_pos]
  rw [List.all_eq_true]
  intro x hx
  obtain ⟨j, hj⟩ := List.getElem?_of_mem hx
  exact h j x hj
theorem textR_no (l : List Int) (k : Nat) (x : Int) (h : l[k]? = some x) (hx : isB x = false) : textR l = .tuple #[.string ⟨#[]⟩, .int .i64 11] := by
  unfold textR
  rw [if_neg]
  rw [List.all_eq_true]
  intro hh
  have := hh x (List.mem_of_getElem? h)
  rw [hx] at this; cases this

theorem bytes_one (l : List Int) : ∀ u ∈ l.map (Value.int .u8), u.oneCell' = true := ints_oneCell _ _

set_option maxHeartbeats 1000000 in
theorem refSigns (s : ByteArray) (w : World) (hs : s.size ≤ 2000000) :
    Calls Tryz.prog 61 #[.string s] w fun e w' => ∃ v n, e = .returned (.tuple #[v, .int .i64 (sigR s.data.toList).2.1, .int .i64 (sigR s.data.toList).2.2]) ∧
      w'.ownsRow w.heap.size 3 1 v n ((sigR s.data.toList).1.map (Value.int .i64)) ∧ Below w.heap.size w w' := by
  go_enter Tryz.func61, Tryz.ntmps61
  go_wp2
  go_loopw [5, 6] (fun v i wr => ∃ k n : Nat, ∃ acc : List Int, k ≤ s.size ∧ n ≤ k ∧ i = .int .i64 k ∧ wr.ownsRow w.heap.size 3 1 v n (acc.map (Value.int .i64)) ∧ Below w.heap.size w wr ∧ Hid (sgRest s.data.toList k acc)) (fun _ i _ => s.size - (intOf i).toNat)
  case atStart => exact ⟨0, 0, [], by omega, by omega, rfl, by simpa using World.ownsRow_nil _ _ _ _, Below.refl _ _, sgRest_start _⟩
  case round =>
    obtain ⟨k, n, acc, hk, hnk, rfl, hown, hB, H⟩ := hrel
    have hsz : s.data.toList.length = s.size := size_toList s
    by_cases hlt : k < s.size
    · have hnx := fun W => refNext s k W hlt (by omega)
      by_cases h0 : (nx (from_ s k)).2 = 0
      · have hres := Lib.hid (sgRest_bad H.out (by rw [hsz]; exact hlt) h0)
        rw [h0] at hnx
        clear hsz
        generalize (nx (from_ s k)).1 = x at hnx
        go_wp2_with (go_at_call 62; refine (hnx _).mono ?_; rintro e w1 ⟨rfl, hb1⟩)
        go_ret3
        refine ⟨_, 0, by rw [hres.out]; rfl, ?_, hB.trans (hb1.mono hB.size)⟩
        rw [hres.out]
        simpa using World.ownsRow_nil _ _ _ _
      · have hres := Lib.hid (sgRest_go H.out (by rw [hsz]; exact hlt) h0)
        obtain ⟨h1, h2, h3⟩ := nx_step s k h0
        clear hsz
        generalize (nx (from_ s k)).1 = x at hnx h3 hres
        generalize (nx (from_ s k)).2 = d at hnx h0 h1 h2 hres
        have hd : (d : Int) ≠ 0 := by omega
        have hd1 : ((d : Int) == 0) = false := by simpa using hd
        go_wp2_with (first
          | (go_at_call 62; refine (hnx _).mono ?_; rintro e w1 ⟨rfl, hb1⟩; have hown1 := own_below hown hb1 (Nat.le_refl _); have hB1 := hB.trans (hb1.mono hB.size))
          | (at_builtin; refine wpList_app rfl rfl Tryz.underlying69 intInfo rfl (by omega) rfl (hown1.alloc _) rfl (Rd.of_block (heap_alloc_new w1 _) rfl) rfl (ints_oneCell _ [(x : Int)]) (by omega) (by omega) (by have := hB1.size; simp; omega) ?_; intro v2 w2 hown2 hb2))
        go_roundw
        case rel =>
          refine ⟨k+d, n+1, acc ++ [(x : Int)], by omega, by omega, by go_num, by simpa using hown2, (hB1.alloc hB1.size _).trans hb2, hres.out⟩
        case measure => simp [intOf]; omega
    · have hkl : k = s.size := by omega
      have hres := Lib.hid (sgRest_end H.out (by rw [hsz]; omega))
      clear hkl hsz
      go_wp2
      go_ret3
      refine ⟨_, n, by rw [hres.out]; rfl, ?_, hB⟩
      rw [hres.out]
      exact hown

theorem refAlpha (c : Int) (w : World) (h0 : 0 ≤ c) (h1 : c < 256) :
    Calls Tryz.prog 66 #[.int .u8 c] w fun e w' => e = .returned (.bool (alphaB c)) ∧ w = w' := by
  go_enter Tryz.func66, Tryz.ntmps66
  go_wp2
  all_goals
    go_ret
    refine ⟨?_, rfl⟩
    simp [alphaB, inB, *]
  all_goals omega

theorem refDigit (c : Int) (w : World) (h0 : 0 ≤ c) (h1 : c < 256) :
    Calls Tryz.prog 67 #[.int .u8 c] w fun e w' => e = .returned (.bool (digitB c)) ∧ w = w' := by
  go_enter Tryz.func67, Tryz.ntmps67
  go_wp2
  all_goals
    go_ret
    refine ⟨?_, rfl⟩
    simp [digitB, *]
  all_goals omega
end Go.Proofs.YtheeklkcaapkbaaGreatDoor
