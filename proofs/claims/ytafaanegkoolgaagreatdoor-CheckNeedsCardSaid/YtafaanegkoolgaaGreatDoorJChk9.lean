/- The program's package check, walked: Told. -/
import Derived.Test.YtafaanegkoolgaaGreatDoorJChk8
namespace Go.Proofs.YtafaanegkoolgaaGreatDoor
open Go Go.RowKit Um Fm Mt

theorem intInfo' : (Tryz.prog.info? 3).map (fun i => (i.zero, i.size, i.bytes)) = some (some (.int .i64 0), 1, 8) := by kernel_rfl
/-- Where what is told stands. -/
def toldL (among vars : List ByteArray) : List Int := vars.map fun s => Lib.idxOfS among s
def NumsR (l : List Int) (w : World) (e : Ending) (w' : World) : Prop := ∃ v, e = .returned v ∧ w'.ownsRow w.heap.size 3 1 v l.length (l.map (Value.int .i64)) ∧ Below w.heap.size w w'
def ToldL (among vars : List ByteArray) (w : World) (v i : Value) (wr : World) : Prop := ∃ (k : Nat) (v' : Value), k ≤ vars.length ∧ i = .int .i64 k ∧ v = v' ∧ wr.ownsRow w.heap.size 3 1 v' k ((toldL among (vars.take k)).map (Value.int .i64)) ∧ Below w.heap.size w wr
set_option maxRecDepth 20000 in
set_option maxHeartbeats 2000000 in
theorem cTold (n : Nat) (q : Qy n) (a1 a2 a3 a4 : Option Addr) (c1 c2 c3 c4 : Nat) (among : List ByteArray) (A : Option Addr) (c : Nat) (w : World) (h1 : Rd w a1 (q.vars.map Value.string)) (hr : Rd w A (among.map Value.string)) (hv : q.vars.length ≤ 1000000) (hl : among.length ≤ 1000000) :
    Calls Tryz.prog 29 #[.agg #[.bool q.ask, .bool q.dist, .slice a1 q.vars.length c1, .slice a2 q.pats.length c2, .slice a3 q.fils.length c3, .slice a4 q.ord.length c4, .int .i64 q.lim, .int .i64 q.off], .slice A among.length c] w (NumsR (toldL among q.vars) w) := by
  obtain ⟨W, hW⟩ : ∃ W : World, w.alloc (.cells #[.bool q.ask, .bool q.dist, .slice a1 q.vars.length c1, .slice a2 q.pats.length c2, .slice a3 q.fils.length c3, .slice a4 q.ord.length c4, .int .i64 q.lim, .int .i64 q.off] 27) = W := ⟨_, rfl⟩
  have hB0 : Below w.heap.size w W := by rw [← hW]; exact (by repeat (first | exact Below.refl _ _ | assumption | exact (Below.refl _ _).alloc (Nat.le_refl _) _ | refine below_tr ?_ (by assumption) | refine below_alloc ?_ | refine below_tr ?_ (below_regrown _ _ _)))
  have b0 : W.cell? ⟨w.heap.size, 0, none⟩ = some (.bool q.ask) := by rw [← hW, World.cell?, heap_alloc_new]; rfl
  have b1 : W.cell? ⟨w.heap.size, 1, none⟩ = some (.bool q.dist) := by rw [← hW, World.cell?, heap_alloc_new]; rfl
  have b2 : W.cell? ⟨w.heap.size, 2, none⟩ = some (.slice a1 q.vars.length c1) := by rw [← hW, World.cell?, heap_alloc_new]; rfl
  have b3 : W.cell? ⟨w.heap.size, 3, none⟩ = some (.slice a2 q.pats.length c2) := by rw [← hW, World.cell?, heap_alloc_new]; rfl
  have b4 : W.cell? ⟨w.heap.size, 4, none⟩ = some (.slice a3 q.fils.length c3) := by rw [← hW, World.cell?, heap_alloc_new]; rfl
  have b5 : W.cell? ⟨w.heap.size, 5, none⟩ = some (.slice a4 q.ord.length c4) := by rw [← hW, World.cell?, heap_alloc_new]; rfl
  have b6 : W.cell? ⟨w.heap.size, 6, none⟩ = some (.int .i64 q.lim) := by rw [← hW, World.cell?, heap_alloc_new]; rfl
  have b7 : W.cell? ⟨w.heap.size, 7, none⟩ = some (.int .i64 q.off) := by rw [← hW, World.cell?, heap_alloc_new]; rfl
  have k1 := h1.later hB0
  have kr := hr.later hB0
  have HW := Lib.hid hW
  have HB0 := Lib.hid hB0
  have hvn : (q.vars.length : Int) ≤ 1000000 := by omega
  clear hW h1 hr hB0
  go_enter Tryz.func29, Tryz.ntmps29
  go_wp2_with fail
  simp only [HW.out]
  go_wp2
  go_loopw [4, 10] (ToldL among q.vars W) (fun _ i _ => q.vars.length - (intOf i).toNat)
  case atStart => exact ⟨0, _, by omega, rfl, rfl, by simpa [toldL] using World.ownsRow_nil _ _ _ _, Below.refl _ _⟩
  case round =>
    clear b0 b1 b2 b3 b4 b5 b6 b7
    obtain ⟨k, v', hk, rfl, rfl, own, hB⟩ := hrel
    by_cases hlt : k < q.vars.length
    · obtain ⟨s, hs⟩ : ∃ x, q.vars[k]? = some x := ⟨_, List.getElem?_eq_getElem hlt⟩
      obtain ⟨g, o, rfl, cx⟩ := (k1.later hB).at_ (j := k) (u := .string s) (by simp [hs])
      have hI := idxTxt among s A c wr (by omega) (kr.later hB)
      have Ht : Hid (toldL among (q.vars.take (k + 1)) = toldL among (q.vars.take k) ++ [Lib.idxOfS among s]) := by show _ = _; unfold toldL; rw [take_snoc_of hs, List.map_append]; rfl
      generalize Lib.idxOfS among s = j at *
      have B2 : Below wr.heap.size wr (wr.alloc (.cells #[.int .i64 j] 3)) := (by repeat (first | exact Below.refl _ _ | assumption | exact (Below.refl _ _).alloc (Nat.le_refl _) _ | refine below_tr ?_ (by assumption) | refine below_alloc ?_ | refine below_tr ?_ (below_regrown _ _ _)))
      have own2 := own_below own B2 (Nat.le_refl _)
      have R2 : Rd (wr.alloc (.cells #[.int .i64 j] 3)) (some ⟨wr.heap.size, 0, none⟩) [.int .i64 j] := Rd.of_block (heap_alloc_new wr _) rfl
      have hbs : W.heap.size ≤ wr.heap.size := hB.size
      have B02 := Lib.hid (below_tr hB B2)
      clear hs own hB B2 k1 kr
      go_wp2_with (first
        | (go_at_call 106; refine hI.mono ?_; rintro e w5 ⟨rfl, rfl⟩)
        | (at_builtin; refine wpList_appG rfl rfl Tryz.underlying45 intInfo' rfl (by omega) rfl own2 rfl R2 rfl (by intro u hu; simp at hu; subst hu; rfl) (by omega) (by omega) (by simp; omega) ?_; intro v5 w5 own5 hb5 _))
      go_roundw
      case rel => exact ⟨k + 1, v5, by omega, by go_num, rfl, by rw [Ht.out, List.map_append]; exact own5, B02.out.trans hb5⟩
      case measure => simp [intOf]; omega
    · obtain rfl : k = q.vars.length := by omega
      have Hk2 : Hid (q.vars.take q.vars.length = q.vars) := List.take_length
      obtain ⟨A1, d1, rfl, _, _⟩ := own_slice own
      clear k1 kr
      go_wp2
      go_ret
      refine ⟨_, rfl, ?_, HB0.out.trans (hB.mono HB0.out.size)⟩
      rw [Hk2.out] at own
      have hl : (toldL among q.vars).length = q.vars.length := List.length_map _
      rw [hl]
      exact own_mono own HB0.out.size
end Go.Proofs.YtafaanegkoolgaaGreatDoor
