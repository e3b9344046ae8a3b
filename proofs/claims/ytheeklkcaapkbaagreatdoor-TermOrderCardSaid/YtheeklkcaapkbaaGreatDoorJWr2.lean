/- The program's term.writer, walked: pieces. -/
import Derived.Test.YtheeklkcaapkbaaGreatDoorJWrt
import Derived.Test.YtheeklkcaapkbaaGreatDoorJTx2
import Derived.Test.YtheeklkcaapkbaaGreatDoorJUtfProg5
namespace Go.Proofs.YtheeklkcaapkbaaGreatDoor
open Go Go.RowKit Um Fm Tx

theorem wTy : WTy 62 2 := ⟨by kernel_rfl, by decide⟩
/-- A writer in block b, with the bytes acc. -/
abbrev WI (B b : Nat) (acc : List UInt8) (w : World) : Prop := WIs 62 [] B b (Lib.byteCells acc) w
theorem wWrite (B b : Nat) (acc : List UInt8) (s : ByteArray) (w : World) (h : WI B b acc w) (ha : acc.length ≤ 1000000000) (hs : s.size ≤ 1000000000) (hBw : B ≤ w.heap.size) :
    Calls Tryz.prog 75 #[.pointer (some ⟨b, 0, none⟩), .string s] w fun e w' => (∃ u, e = .returned u) ∧ WI B b (acc ++ s.data.toList) w' ∧ Below B w w' ∧ OK8 b w w' := by
  refine (wString wTy B b _ s w h (by rw [Lib.byteCells_length]; omega) hBw).mono ?_
  rintro e w' ⟨rfl, h1, h2, h3⟩
  rw [Lib.strCells_eq, ← Lib.byteCells_append] at h1
  exact ⟨⟨_, rfl⟩, .inr h1, h2, h3⟩
theorem wWriteRune (B b : Nat) (acc : List UInt8) (r : Nat) (hr : r ≤ 1114111) (w : World) (h : WI B b acc w) (ha : acc.length ≤ 1000000000) (hBw : B ≤ w.heap.size) :
    Calls Tryz.prog 77 #[.pointer (some ⟨b, 0, none⟩), .int .i32 r] w fun e w' => (∃ u, e = .returned u) ∧ WI B b (acc ++ Lib.encodeRune r) w' ∧ Below B w w' ∧ OK8 b w w' := by
  refine (wRune wTy B b _ r (by omega) (by omega) w h (by rw [Lib.byteCells_length]; omega) hBw).mono ?_
  rintro e w' ⟨rfl, h1, h2, h3⟩
  rw [← Lib.byteCells_encodeRune, ← Lib.byteCells_append] at h1
  exact ⟨⟨_, rfl⟩, .inr h1, h2, h3⟩
theorem flat_le (l : List ByteArray) (k m : Nat) (hz : ∀ s ∈ l, s.size ≤ m) (hk : k ≤ l.length) : ((l.take k).flatMap fun s => s.data.toList).length ≤ k * m := by
  induction k with
  | zero => simp
  | succ k ih =>
    have hlt : k < l.length := by omega
    rw [List.take_add_one, List.getElem?_eq_getElem hlt, Option.toList_some, List.flatMap_append, List.length_append]
    have h1 := ih (by omega)
    have h2 := hz l[k] (List.getElem_mem hlt)
    have h3 : ((([l[k]] : List ByteArray).flatMap fun s => s.data.toList)).length = l[k].size := by
      rw [List.flatMap_cons, List.flatMap_nil, List.append_nil, size_toList]
    rw [h3, Nat.succ_mul]; omega
set_option maxHeartbeats 1000000 in
set_option maxRecDepth 20000 in
/-- '(*term.writer).pieces'. -/
theorem wPieces (B b g : Nat) (acc : List UInt8) (l : List ByteArray) (c : Nat) (w : World) (h : WI B b acc w) (hA : w.heap[g]? = some (.cells (l.map Value.string).toArray 9 (0, 0))) (hg : g ≠ b)
    (hl : l.length ≤ 4) (hlen : acc.length ≤ 100000000) (hz : ∀ s ∈ l, s.size ≤ 100000000) (hBw : B ≤ w.heap.size) :
    Calls Tryz.prog 49 #[.pointer (some ⟨b, 0, none⟩), .slice (some ⟨g, 0, none⟩) l.length c] w fun e w' =>
      e = .returned (.pointer (some ⟨b, 0, none⟩)) ∧ WI B b (acc ++ l.flatMap fun s => s.data.toList) w' ∧ Below B w w' ∧ OK8 b w w' := by
  go_enter Tryz.func49, Tryz.ntmps49
  go_wp2
  go_loopw [9] (fun i wr => ∃ k : Nat, k ≤ l.length ∧ i = .int .i64 k ∧ Hid (WI B b (acc ++ (l.take k).flatMap fun s => s.data.toList) wr) ∧ Hid (OK8 b w wr) ∧ Below B w wr) (fun i _ => l.length - (intOf i).toNat)
  case atStart => exact ⟨0, by omega, rfl, by show WI B b _ w; simpa using h, Lib.OthersKept.refl _ _ _, Below.refl _ _⟩
  case round =>
    obtain ⟨k, hk, rfl, HW, HO, hB⟩ := hrel
    by_cases hlt : k < l.length
    · obtain ⟨y, hx⟩ : ∃ x, l[k]? = some x := ⟨_, List.getElem?_eq_getElem hlt⟩
      have hblk := HO.out g _ hA (by simpa using hg) (by intro c fz e; cases e)
      have hcx : wr.cell? ⟨g, k, none⟩ = some (.string y) := by rw [Lib.cell_of_heap hblk]; simp [hx]
      have hy := hz y (List.mem_of_getElem? hx)
      have hfl := flat_le l k 100000000 hz (by omega)
      have hww := wWrite B b _ y wr HW.out (by rw [List.length_append]; omega) (by omega) (Nat.le_trans hBw hB.size)
      have e2 : (l.take (k + 1)).flatMap (fun s => s.data.toList) = (l.take k).flatMap (fun s => s.data.toList) ++ y.data.toList := by
        rw [List.take_add_one, hx, Option.toList_some, List.flatMap_append]; simp
      rw [List.append_assoc, ← e2] at hww
      clear HW hx hblk e2 hfl h hz
      go_wp2_with (go_at_call 75; refine hww.mono ?_; rintro e w2 ⟨⟨u, rfl⟩, h1, h2, h3⟩)
      go_roundw
      case rel => exact ⟨k+1, by omega, by go_num, h1, HO.out.trans h3, hB.trans h2⟩
      case measure => simp [intOf]; omega
    · have e2 : (l.take k).flatMap (fun s => s.data.toList) = l.flatMap (fun s => s.data.toList) := by rw [List.take_of_length_le (by omega)]
      rw [e2] at HW
      clear e2 h hz
      go_wp2
      go_ret
      exact ⟨rfl, HW.out, hB, HO.out⟩
end Go.Proofs.YtheeklkcaapkbaaGreatDoor
