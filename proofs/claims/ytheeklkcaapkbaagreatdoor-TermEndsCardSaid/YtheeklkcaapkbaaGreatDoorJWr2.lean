/- A text written as an IRI, sign by sign. The program's term.writer, walked: pieces. -/
import Derived.Test.YtheeklkcaapkbaaGreatDoorJTxMath
import Derived.Lib.MapLaws
import Derived.Test.YtheeklkcaapkbaaGreatDoorJWrt
import Derived.Test.YtheeklkcaapkbaaGreatDoorJUtfProg5
namespace Go.Proofs.YtheeklkcaapkbaaGreatDoor.Tx
open Go Go.RowKit Um Fm Lx

theorem esc_high {c : UInt8} (h : 128 ≤ c.toNat) : escC c = false := by
  unfold escC
  rw [decide_eq_false (by omega)]; rfl
theorem iriL_app (a b : List UInt8) : iriL (a ++ b) = iriL a ++ iriL b := List.flatMap_append
theorem iriL_high : ∀ l : List UInt8, (∀ b ∈ l, 128 ≤ b.toNat) → iriL l = l
  | [], _ => rfl
  | c :: t, h => by
    have e : iriL (c :: t) = iriC c ++ iriL t := by unfold iriL; rw [List.flatMap_cons]
    have e2 : iriC c = [c] := by unfold iriC; rw [esc_high (h c (by simp))]; rfl
    rw [e, e2, iriL_high t (fun b hb => h b (by simp [hb]))]; rfl
theorem enc_high {r : Int} (h : 128 ≤ r) : ∀ b ∈ Lib.encodeRune r, 128 ≤ b.toNat := by
  intro b hb
  unfold Lib.encodeRune at hb
  obtain ⟨x, hx, rfl⟩ := List.mem_map.1 hb
  have h1 := Lib.encodeRuneZ_byte r x hx
  have h2 : 128 ≤ x := by
    unfold Lib.encodeRuneZ at hx
    repeat' split at hx
    all_goals simp at hx; omega
  have h3 : x.toNat.toUInt8.toNat = x.toNat := by
    show (UInt8.ofNat x.toNat).toNat = _
    rw [UInt8.toNat_ofNat']; omega
  omega
/-- What stands next in a text, as it is written in an IRI. -/
def iriR (r : Nat) : List UInt8 := if rawB (r : Int) then Lib.encodeRune (r : Int) else [92, 117, 48, 48, hxD (r / 16), hxD (r % 16)]
theorem iri_step {l : List UInt8} (hne : l ≠ []) (hv : Lib.validD l = true) :
    iriL l = iriR (Lib.decodeL l).1 ++ iriL (l.drop (Lib.decodeL l).2) ∧ (rawB ((Lib.decodeL l).1 : Int) = false → (Lib.decodeL l).1 < 128) ∧ Lib.validD (l.drop (Lib.decodeL l).2) = true ∧ 1 ≤ (Lib.decodeL l).2 ∧ (Lib.decodeL l).2 ≤ l.length ∧ (iriR (Lib.decodeL l).1).length ≤ 6 * (Lib.decodeL l).2 := by
  rw [Lib.validD_step l hne] at hv
  have hl : 0 < l.length := List.length_pos_iff.2 hne
  split at hv
  · cases hv
  rename_i hb
  have hw := Lib.decodeL_width l
  have hle := Lib.decodeL_le l hne
  have hnx : nx l = Lib.decodeL l := by
    rw [Lib.decodeL_N] at hb ⊢
    unfold nx
    rw [if_neg (by omega), if_neg (fun e => hb (by rw [e]; exact ⟨rfl, rfl⟩))]
  obtain ⟨hB, -, henc, -, -⟩ := nx_enc l (by rw [hnx]; omega)
  rw [hnx] at hB henc
  generalize hd : Lib.decodeL l = d at *
  obtain ⟨r, n⟩ := d
  simp only at *
  have hsplit : l = l.take n ++ l.drop n := (List.take_append_drop n l).symm
  have hlen4 : (Lib.encodeRune (r : Int)).length ≤ 4 := by unfold Lib.encodeRune; rw [List.length_map]; exact (Lib.encodeRuneZ_length _).2
  have hel : (Lib.encodeRune (r : Int)).length = n := by rw [← henc, List.length_take]; omega
  rcases Nat.lt_or_ge r 128 with hr | hr
  · have e1 : Lib.encodeRune (r : Int) = [UInt8.ofNat r] := by
      unfold Lib.encodeRune
      rw [Lib.encodeRuneZ_one (by omega) (by omega)]
      simp
    have hn1 : n = 1 := by rw [e1] at hel; simpa using hel.symm
    have hc : (UInt8.ofNat r).toNat = r := by rw [UInt8.toNat_ofNat']; omega
    refine ⟨?_, fun _ => hr, hv, hw, hle, ?_⟩
    · conv => lhs; rw [hsplit, henc, e1]
      rw [iriL_app]
      congr 1
      unfold iriR iriL
      rw [List.flatMap_cons, List.flatMap_nil, List.append_nil]
      unfold iriC escC
      rw [hc, decide_eq_true hr, Bool.true_and]
      cases rawB (r : Int)
      · rfl
      · rw [if_neg (by simp), if_pos rfl, e1]
    · unfold iriR; split
      · omega
      · simp; omega
  · have hraw : rawB (r : Int) = true := by
      unfold rawB
      rw [hB, decide_eq_true (by omega : (32 : Int) < r)]
      have : badL.contains (r : Int) = false := by
        unfold badL
        simp; omega
      rw [this]; rfl
    refine ⟨?_, fun h => (by rw [hraw] at h; cases h), hv, hw, hle, ?_⟩
    · conv => lhs; rw [hsplit, henc]
      rw [iriL_app]
      congr 1
      unfold iriR
      rw [hraw, if_pos rfl]
      exact iriL_high _ (enc_high (by omega))
    · unfold iriR; rw [hraw, if_pos rfl]; omega
theorem iriL_nil : iriL [] = [] := rfl
theorem iriL_len : ∀ l : List UInt8, (iriL l).length ≤ 6 * l.length
  | [] => by simp [iriL]
  | c :: t => by
    have e : iriL (c :: t) = iriC c ++ iriL t := by unfold iriL; rw [List.flatMap_cons]
    have h1 : (iriC c).length ≤ 6 := by unfold iriC; split <;> simp
    have := iriL_len t
    rw [e, List.length_append, List.length_cons]; omega
theorem litL_len : ∀ l : List UInt8, (litL l).length ≤ 2 * l.length
  | [] => by simp [litL]
  | c :: t => by
    have e : litL (c :: t) = litC c ++ litL t := by unfold litL; rw [List.flatMap_cons]
    have h1 : (litC c).length ≤ 2 := by unfold litC; repeat' split
                                        all_goals simp
    have := litL_len t
    rw [e, List.length_append, List.length_cons]; omega
end Go.Proofs.YtheeklkcaapkbaaGreatDoor.Tx
namespace Go.Proofs.YtheeklkcaapkbaaGreatDoor
open Go Go.RowKit Um Fm Tx

theorem wTy : WTy 62 2 := ⟨by kernel_rfl, by decide⟩
/-- A writer in block b, with the bytes acc. -/
abbrev WI (B b : Nat) (acc : List UInt8) (w : World) : Prop := WIs 62 [] B b (Lib.byteCells acc) w
theorem wWrite (B b : Nat) (acc : List UInt8) (s : ByteArray) (w : World) (h : WI B b acc w) (ha : acc.length ≤ 1000000000) (hs : s.size ≤ 1000000000) (hBw : B ≤ w.heap.size) :
    Calls Tryz.prog 75 #[.pointer (some ⟨b, 0, none⟩), .string s] w fun e w' => (∃ u, e = .returned u) ∧ WI B b (acc ++ s.data.toList) w' ∧ Below B w w' ∧ OK8 b w w' := by
  refine (wString wTy B b _ s w h (by rw [Lib.byteCells_length]; omega) hBw).mono ?_
  rintro e w' ⟨rfl, h1, h2, h3⟩
  rw [Lib.strCells_eq, ← Lib.byteCells_append] at h1
  exact ⟨⟨_, rfl⟩, .inr h1, h2, h3⟩
theorem wWriteRune (B b : Nat) (acc : List UInt8) (r : Nat) (hr : r ≤ 1114111) (w : World) (h : WI B b acc w) (ha : acc.length ≤ 1000000000) (hBw : B ≤ w.heap.size) :
    Calls Tryz.prog 77 #[.pointer (some ⟨b, 0, none⟩), .int .i32 r] w fun e w' => (∃ u, e = .returned u) ∧ WI B b (acc ++ Lib.encodeRune r) w' ∧ Below B w w' ∧ OK8 b w w' := by
  refine (wRune wTy B b _ r (by omega) (by omega) w h (by rw [Lib.byteCells_length]; omega) hBw).mono ?_
  rintro e w' ⟨rfl, h1, h2, h3⟩
  rw [← Lib.byteCells_encodeRune, ← Lib.byteCells_append] at h1
  exact ⟨⟨_, rfl⟩, .inr h1, h2, h3⟩
theorem flat_le (l : List ByteArray) (k m : Nat) (hz : ∀ s ∈ l, s.size ≤ m) (hk : k ≤ l.length) : ((l.take k).flatMap fun s => s.data.toList).length ≤ k * m := by
  induction k with
  | zero => simp
  | succ k ih =>
    have hlt : k < l.length := by omega
    rw [List.take_add_one, List.getElem?_eq_getElem hlt, Option.toList_some, List.flatMap_append, List.length_append]
    have h1 := ih (by omega)
    have h2 := hz l[k] (List.getElem_mem hlt)
    have h3 : ((([l[k]] : List ByteArray).flatMap fun s => s.data.toList)).length = l[k].size := by
      rw [List.flatMap_cons, List.flatMap_nil, List.append_nil, size_toList]
    rw [h3, Nat.succ_mul]; omega
set_option maxHeartbeats 1000000 in
set_option maxRecDepth 20000 in
/-- '(*term.writer).pieces'. -/
theorem wPieces (B b g : Nat) (acc : List UInt8) (l : List ByteArray) (c : Nat) (w : World) (h : WI B b acc w) (hA : w.heap[g]? = some (.cells (l.map Value.string).toArray 9 (0, 0))) (hg : g ≠ b)
    (hl : l.length ≤ 4) (hlen : acc.length ≤ 100000000) (hz : ∀ s ∈ l, s.size ≤ 100000000) (hBw : B ≤ w.heap.size) :
    Calls Tryz.prog 49 #[.pointer (some ⟨b, 0, none⟩), .slice (some ⟨g, 0, none⟩) l.length c] w fun e w' =>
      e = .returned (.pointer (some ⟨b, 0, none⟩)) ∧ WI B b (acc ++ l.flatMap fun s => s.data.toList) w' ∧ Below B w w' ∧ OK8 b w w' := by
  go_enter Tryz.func49, Tryz.ntmps49
  go_wp2
  go_loopw [9] (fun i wr => ∃ k : Nat, k ≤ l.length ∧ i = .int .i64 k ∧ Hid (WI B b (acc ++ (l.take k).flatMap fun s => s.data.toList) wr) ∧ Hid (OK8 b w wr) ∧ Below B w wr) (fun i _ => l.length - (intOf i).toNat)
  case atStart => exact ⟨0, by omega, rfl, by show WI B b _ w; simpa using h, Lib.OthersKept.refl _ _ _, Below.refl _ _⟩
  case round =>
    obtain ⟨k, hk, rfl, HW, HO, hB⟩ := hrel
    by_cases hlt : k < l.length
    · obtain ⟨y, hx⟩ : ∃ x, l[k]? = some x := ⟨_, List.getElem?_eq_getElem hlt⟩
      have hblk := HO.out g _ hA (by simpa using hg) (by intro c fz e; cases e)
      have hcx : wr.cell? ⟨g, k, none⟩ = some (.string y) := by rw [Lib.cell_of_heap hblk]; simp [hx]
      have hy := hz y (List.mem_of_getElem? hx)
      have hfl := flat_le l k 100000000 hz (by omega)
      have hww := wWrite B b _ y wr HW.out (by rw [List.length_append]; omega) (by omega) (Nat.le_trans hBw hB.size)
      have e2 : (l.take (k + 1)).flatMap (fun s => s.data.toList) = (l.take k).flatMap (fun s => s.data.toList) ++ y.data.toList := by
        rw [List.take_add_one, hx, Option.toList_some, List.flatMap_append]; simp
      rw [List.append_assoc, ← e2] at hww
      clear HW hx hblk e2 hfl h hz
      go_wp2_with (go_at_call 75; refine hww.mono ?_; rintro e w2 ⟨⟨u, rfl⟩, h1, h2, h3⟩)
      go_roundw
      case rel => exact ⟨k+1, by omega, by go_num, h1, HO.out.trans h3, hB.trans h2⟩
      case measure => simp [intOf]; omega
    · have e2 : (l.take k).flatMap (fun s => s.data.toList) = l.flatMap (fun s => s.data.toList) := by rw [List.take_of_length_le (by omega)]
      rw [e2] at HW
      clear e2 h hz
      go_wp2
      go_ret
      exact ⟨rfl, HW.out, hB, HO.out⟩
end Go.Proofs.YtheeklkcaapkbaaGreatDoor
