/- The program's package query, walked: walker.slots, Vars. -/
import Derived.Test.YtafaanegkoolgaaGreatDoorJVarsMath
import Derived.Test.YtafaanegkoolgaaGreatDoorJQEvery
import Derived.BigRegion
namespace Go.Proofs.YtafaanegkoolgaaGreatDoor
open Go Go.RowKit Um Fm Mt

abbrev RdSl (w : World) (A : Option Addr) (l : List Sl) : Prop := RdL 5 (fun cs s => cs = slC s) w A l
theorem RdL.keeps {α : Type} {sz : Nat} {R : List Value → α → Prop} {base b : Nat} {w w' : World} {v v' : Value} (h : MetKeeps base b w v w' v') {A : Option Addr} {l : List α} (hr : RdL sz R w A l) (hA : ∀ a, A = some a → a.block ≠ b ∧ some a.block ≠ v.ownBlock) : RdL sz R w' A l := by
  obtain ⟨xs, h1, h2⟩ := hr
  exact ⟨xs, h.rd h1 hA, h2⟩
theorem occS_snoc {ss : List Sl} {k : Nat} {x : Sl} (h : ss[k]? = some x) : occS (ss.take (k + 1)) = occS (ss.take k) ++ occS [x] := by
  rw [take_snoc_of h]; unfold occS; rw [List.map_append, List.filter_append]
theorem occS_one_no {x : Sl} (h : x.v.toList.isEmpty = true) : occS [x] = [] := occ_empty [] h
theorem occS_one {x : Sl} (h : x.v.toList.isEmpty = false) : occS [x] = [x.v] := occ_named [] h
def SlotsL (base b : Nat) (v : Value) (l : List ByteArray) (ss : List Sl) (w : World) (i : Value) (wr : World) : Prop := ∃ (k : Nat) (v' : Value), k ≤ ss.length ∧ i = .int .i64 k ∧ MetAt base b wr v' (metsN l (occS (ss.take k))) ∧ MetKeeps base b w v wr v'
set_option maxRecDepth 10000 in
set_option maxHeartbeats 1000000 in
theorem qSlots (base b : Nat) (v : Value) (l : List ByteArray) (ss : List Sl) (A : Option Addr) (c : Nat) (w : World) (hm : MetAt base b w v l) (hr : RdSl w A ss) (hA : ∀ a, A = some a → a.block ≠ b ∧ some a.block ≠ v.ownBlock)
    (hbase : base ≤ w.heap.size) (hl : l.length + ss.length ≤ 1000000) :
    Calls Tryz.prog 115 #[.pointer (some ⟨b, 0, none⟩), .slice A ss.length c] w (MeetR base b v (metsN l (occS ss)) w) := by
  have hnl : (ss.length : Int) ≤ 1000000 := by omega
  go_enter Tryz.func115, Tryz.ntmps115
  go_wp2
  go_loopw [8] (SlotsL base b v l ss w) (fun i _ => ss.length - (intOf i).toNat)
  case atStart => exact ⟨0, v, by omega, rfl, hm, MetKeeps.refl _ _ _ _⟩
  case round =>
    obtain ⟨k, v', hk, rfl, hM, hK⟩ := hrel
    by_cases hlt : k < ss.length
    · obtain ⟨x, hs⟩ : ∃ x, ss[k]? = some x := ⟨_, List.getElem?_eq_getElem hlt⟩
      obtain ⟨g, o, cs, rfl, -, rfl, hx⟩ := (RdL.keeps hK hr hA).at_ (by omega) hs
      have c0 : wr.cell? ⟨g, o + k * 5, none⟩ = some (.string x.v) := hx 0 _ rfl
      have c1 : wr.cell? ⟨g, o + k * 5 + 1, none⟩ = some (.int .i64 x.t.k) := hx 1 _ rfl
      have c2 : wr.cell? ⟨g, o + k * 5 + 2, none⟩ = some (.string x.t.x) := hx 2 _ rfl
      have c3 : wr.cell? ⟨g, o + k * 5 + 3, none⟩ = some (.string x.t.l) := hx 3 _ rfl
      have c4 : wr.cell? ⟨g, o + k * 5 + 4, none⟩ = some (.string x.t.y) := hx 4 _ rfl
      have hbs : base ≤ wr.heap.size := Nat.le_trans hbase hK.size
      have hB1 : Below wr.heap.size wr (wr.alloc (.cells #[.string x.v, .int .i64 x.t.k, .string x.t.x, .string x.t.l, .string x.t.y] 49)) := (by repeat (first | exact Below.refl _ _ | assumption | exact (Below.refl _ _).alloc (Nat.le_refl _) _ | refine below_tr ?_ (by assumption) | refine below_alloc ?_ | refine below_tr ?_ (below_regrown _ _ _)))
      have hM1 := hM.later hB1
      have hK1 := hK.trans (MetKeeps.of_below v' hB1 hbs)
      have hsn := occS_snoc hs
      cases he : x.v.toList.isEmpty
      · have hB2 : Below wr.heap.size wr ((wr.alloc (.cells #[.string x.v, .int .i64 x.t.k, .string x.t.x, .string x.t.l, .string x.t.y] 49)).alloc (.cells #[.string x.v] 9)).drew := Below.drew (by repeat (first | exact Below.refl _ _ | assumption | exact (Below.refl _ _).alloc (Nat.le_refl _) _ | refine below_tr ?_ (by assumption) | refine below_alloc ?_ | refine below_tr ?_ (below_regrown _ _ _)))
        have hM2 := hM.later hB2
        have hK2 := hK.trans (MetKeeps.of_below v' hB2 hbs)
        have hml : (metsN l (occS (ss.take k))).length ≤ l.length + ss.length := by
          have h1 := metsN_len (occS (ss.take k)) l
          have h2 := occS_len (ss.take k)
          rw [List.length_take] at h2; omega
        have hq := qMeet base b v' (metsN l (occS (ss.take k))) [x.v] (some ⟨wr.heap.size + 1, 0, none⟩) 1 _ hM2 (Rd.of_block (heap_two_2 wr _ _) rfl) (fun a ha => by
          injection ha with ha; subst ha
          refine ⟨?_, fun e => ?_⟩
          · have := cell_lt hM.cell; simp at this ⊢; omega
          · have := (hM.own.lt _ e.symm).2; simp only at this; omega) (by simp; omega) (by simp; have := metsN_len (occS (ss.take k)) l; have h2 := occS_len (ss.take k); rw [List.length_take] at h2; omega)
        have Hn : Hid (metsN l (occS (ss.take (k + 1))) = metsN (metsN l (occS (ss.take k))) [x.v]) := by
          show _ = _
          rw [hsn, occS_one he, metsN_app]
        have HK := Lib.hid hK2
        clear hs hr hA hM hK hM1 hK1 hM2 hK2 hsn hx hm hml hB1 hB2
        go_wp2_with fail
        go_region_with (go_at_call 116; refine hq.mono ?_; rintro e w2 ⟨⟨u, rfl⟩, v2, hM2, hK2⟩)
        go_wp2
        go_roundw
        case rel => exact ⟨k + 1, v2, by omega, by go_num, by rw [Hn.out]; exact hM2, HK.out.trans hK2⟩
        case measure => simp [intOf]; omega
      · have Hn : Hid (metsN l (occS (ss.take (k + 1))) = metsN l (occS (ss.take k))) := by
          show _ = _
          rw [hsn, occS_one_no he, List.append_nil]
        have HK := Lib.hid hK1
        have HM := Lib.hid hM1
        clear hs hr hA hM hK hM1 hK1 hsn hx hm hB1
        go_wp2
        go_roundw
        case rel => exact ⟨k + 1, v', by omega, by go_num, by rw [Hn.out]; exact HM.out, HK.out⟩
        case measure => simp [intOf]; omega
    · have hk2 : ss.take k = ss := List.take_of_length_le (by omega)
      rw [hk2] at hM
      go_wp2
      go_end0
      exact ⟨⟨_, rfl⟩, v', hM, hK⟩
/-- A row of names of the call's own comes back. -/
def NamesR (names : List ByteArray) (w : World) (e : Ending) (w' : World) : Prop := ∃ v, e = .returned v ∧ w'.ownsRow w.heap.size 9 1 v names.length (names.map Value.string) ∧ Below w.heap.size w w'
def VarsL (l : List Pat) (w : World) (i : Value) (wr : World) : Prop := ∃ (k : Nat) (v' : Value), k ≤ l.length ∧ i = .int .i64 k ∧ MetAt w.heap.size w.heap.size wr v' (metsN [] ((l.take k).flatMap occP)) ∧ Below w.heap.size w wr ∧ w.heap.size < wr.heap.size
set_option maxRecDepth 10000 in
set_option maxHeartbeats 2000000 in
theorem qVars (l : List Pat) (A : Option Addr) (c : Nat) (w : World) (hr : RdPat w A l) (hl : l.length ≤ 300000) :
    Calls Tryz.prog 40 #[.slice A l.length c] w (NamesR (varsN l) w) := by
  have hnl : (l.length : Int) ≤ 300000 := by omega
  have hB0 : Below w.heap.size w (w.alloc (.cells #[.slice none 0 0] 134)) := (by repeat (first | exact Below.refl _ _ | assumption | exact (Below.refl _ _).alloc (Nat.le_refl _) _ | refine below_tr ?_ (by assumption) | refine below_alloc ?_ | refine below_tr ?_ (below_regrown _ _ _)))
  have hM0 : MetAt w.heap.size w.heap.size (w.alloc (.cells #[.slice none 0 0] 134)) (.slice none 0 0) [] :=
    ⟨by rw [World.cell?, heap_alloc_new]; rfl, by unfold World.frozen?; rw [heap_alloc_new]; rfl, World.ownsRow_nil _ _ _ _, Nat.le_refl _, by simp [Value.ownBlock]⟩
  have hz0 : w.heap.size < (w.alloc (.cells #[.slice none 0 0] 134)).heap.size := by simp
  go_enter Tryz.func40, Tryz.ntmps40
  go_wp2
  go_loopw [8] (VarsL l w) (fun i _ => l.length - (intOf i).toNat)
  case atStart => exact ⟨0, _, by omega, rfl, hM0, hB0, hz0⟩
  case round =>
    clear hM0 hB0 hz0
    obtain ⟨k, v', hk, rfl, hM, hB, hz⟩ := hrel
    by_cases hlt : k < l.length
    · obtain ⟨x, hs⟩ : ∃ x, l[k]? = some x := ⟨_, List.getElem?_eq_getElem hlt⟩
      obtain ⟨g, o, cs, rfl, -, rfl, hx⟩ := (RdL.mono hr hB (fun _ _ _ h => h)).at_ (by omega) hs
      have c0 : wr.cell? ⟨g, o + k * 15, none⟩ = some (.string x.s.v) := hx 0 _ rfl
      have c1 : wr.cell? ⟨g, o + k * 15 + 1, none⟩ = some (.int .i64 x.s.t.k) := hx 1 _ rfl
      have c2 : wr.cell? ⟨g, o + k * 15 + 2, none⟩ = some (.string x.s.t.x) := hx 2 _ rfl
      have c3 : wr.cell? ⟨g, o + k * 15 + 3, none⟩ = some (.string x.s.t.l) := hx 3 _ rfl
      have c4 : wr.cell? ⟨g, o + k * 15 + 4, none⟩ = some (.string x.s.t.y) := hx 4 _ rfl
      have c5 : wr.cell? ⟨g, o + k * 15 + 5, none⟩ = some (.string x.p.v) := hx 5 _ rfl
      have c6 : wr.cell? ⟨g, o + k * 15 + 6, none⟩ = some (.int .i64 x.p.t.k) := hx 6 _ rfl
      have c7 : wr.cell? ⟨g, o + k * 15 + 7, none⟩ = some (.string x.p.t.x) := hx 7 _ rfl
      have c8 : wr.cell? ⟨g, o + k * 15 + 8, none⟩ = some (.string x.p.t.l) := hx 8 _ rfl
      have c9 : wr.cell? ⟨g, o + k * 15 + 9, none⟩ = some (.string x.p.t.y) := hx 9 _ rfl
      have c10 : wr.cell? ⟨g, o + k * 15 + 10, none⟩ = some (.string x.o.v) := hx 10 _ rfl
      have c11 : wr.cell? ⟨g, o + k * 15 + 11, none⟩ = some (.int .i64 x.o.t.k) := hx 11 _ rfl
      have c12 : wr.cell? ⟨g, o + k * 15 + 12, none⟩ = some (.string x.o.t.x) := hx 12 _ rfl
      have c13 : wr.cell? ⟨g, o + k * 15 + 13, none⟩ = some (.string x.o.t.l) := hx 13 _ rfl
      have c14 : wr.cell? ⟨g, o + k * 15 + 14, none⟩ = some (.string x.o.t.y) := hx 14 _ rfl
      have hB2 : Below wr.heap.size wr ((wr.alloc (.cells (cPat x).toArray 51)).alloc (.cells (cPat x).toArray 49)) := (by repeat (first | exact Below.refl _ _ | assumption | exact (Below.refl _ _).alloc (Nat.le_refl _) _ | refine below_tr ?_ (by assumption) | refine below_alloc ?_ | refine below_tr ?_ (below_regrown _ _ _)))
      have hM2 := hM.later hB2
      have hml : (metsN [] ((l.take k).flatMap occP)).length ≤ 900000 := by
        have h1 := metsN_len ((l.take k).flatMap occP) []
        have h2 := occ_len (l.take k)
        rw [List.length_take] at h2
        rw [List.length_nil] at h1; omega
      have hrs : RdSl ((wr.alloc (.cells (cPat x).toArray 51)).alloc (.cells (cPat x).toArray 49)) (some ⟨wr.heap.size + 1, 0, none⟩) [x.s, x.p, x.o] :=
        ⟨[x.s, x.p, x.o].flatMap slC, Rd.of_block (heap_two_2 wr _ _) rfl, All.of_flat _ fun _ _ => rfl⟩
      have hq := qSlots w.heap.size w.heap.size v' (metsN [] ((l.take k).flatMap occP)) [x.s, x.p, x.o] (some ⟨wr.heap.size + 1, 0, none⟩) 3 _ hM2 hrs (fun a ha => by
          injection ha with ha; subst ha
          refine ⟨?_, fun e => ?_⟩
          · simp; omega
          · have := (hM.own.lt _ e.symm).2; simp only at this; omega) (by simp; omega) (by simp; omega)
      have Hn : Hid (metsN [] ((l.take (k + 1)).flatMap occP) = metsN (metsN [] ((l.take k).flatMap occP)) (occS [x.s, x.p, x.o])) := by
        show _ = _
        rw [flat_take hs, metsN_app]; rfl
      have HB := Lib.hid (below_tr hB hB2)
      simp only [cPat] at hq HB
      clear hs hr hM hM2 hx hml hB2 hrs hB
      go_wp2_with (go_at_call 115; refine hq.mono ?_; rintro e w2 ⟨⟨u, rfl⟩, v2, hM2, hK2⟩)
      go_roundw
      case rel => exact ⟨k + 1, v2, by omega, by go_num, by rw [Hn.out]; exact hM2, HB.out.trans hK2.below, by have := hK2.size; simp at this; omega⟩
      case measure => simp [intOf]; omega
    · have hk2 : l.take k = l := List.take_of_length_le (by omega)
      rw [hk2] at hM
      obtain ⟨A1, c1, rfl, hc1, hr1, hv1⟩ := hM.open_
      have hown := hM.own
      go_wp2
      go_ret
      exact ⟨_, rfl, hown, hB⟩
end Go.Proofs.YtafaanegkoolgaaGreatDoor
