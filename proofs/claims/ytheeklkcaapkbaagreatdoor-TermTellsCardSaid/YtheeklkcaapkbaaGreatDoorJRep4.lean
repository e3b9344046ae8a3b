/- (*strings.Replacer).Replace over the pairs of term.escapes. -/
import Derived.Test.YtheeklkcaapkbaaGreatDoorJRep2
import Derived.Test.YtheeklkcaapkbaaGreatDoorJRep3
namespace Go.Proofs.YtheeklkcaapkbaaGreatDoor
open Go Go.RowKit Um Fm Tx

/-- A store into a block of another type leaves the table. -/
theorem Bsr.other {B b k m : Nat} {w : World} (h : Bsr B b k m w) {g : Nat} {cs' : Array Value} {T : TypeId} {fz : Nat × Nat} (hg : w.heap[g]? = some (Obj.cells cs' T fz)) (h1 : T ≠ 168) (h2 : T ≠ 5) (h3 : T ≠ 9) (i : Nat) (u : Value) :
    Bsr B b k m (w.setCell ⟨g, i, none⟩ u) := by
  obtain ⟨hge, cs, q1, q2, q3, v, q4, q5⟩ := h
  have keep : ∀ {g' : Nat} {cur : Array Value} {T' : TypeId} {fz' : Nat × Nat}, w.heap[g']? = some (.cells cur T' fz') → T' ≠ T → (w.setCell ⟨g, i, none⟩ u).heap[g']? = some (.cells cur T' fz') := fun {g'} _ _ _ hh hT => by
    rw [Below.heap_setCell _ _ _ _ (show g' ≠ g from fun e => ?_)]
    · exact hh
    · subst e; rw [hg] at hh; injection hh with hh; injection hh with _ hh; exact hT hh.symm
  refine ⟨hge, cs, keep q1 (Ne.symm h1), q2, fun j hj => ?_, v, q4, q5.1, q5.2.imp id ?_⟩
  · obtain ⟨x, hx, hr⟩ := q3 j hj
    exact ⟨x, hx, hr.keep fun g' cur fz' hh => keep hh (Ne.symm h2)⟩
  · rintro ⟨g', cap, cur, rfl, hB, hh, r⟩
    exact ⟨g', cap, cur, rfl, hB, keep hh (Ne.symm h3), r⟩
/-- What stands behind the first build, the lock still held. -/
def RepQ (B b : Nat) (w W : World) : Prop := ∃ b2, W.heap[b]? = some (Obj.cells #[.int .u32 0, .int .i32 1, .int .u32 0, .iface 169 (.pointer (some ⟨b2, 0, none⟩)), .slice none 0 0] 106 (0, 0)) ∧ Bsr B b2 4 4 W ∧ Below B w W
set_option maxHeartbeats 1000000 in
set_option maxRecDepth 100000 in
theorem buildOnce (B b : Nat) (v : Value) (w : World) (hB : B ≤ b) (hb : w.heap[b]? = some (Obj.cells #[.int .u32 0, .int .i32 1, .int .u32 0, .nilIface, v] 106 (0, 0))) (own : w.ownsRow B 9 1 v 8 (escL.map Value.string)) :
    Calls Tryz.prog 82 #[.pointer (some ⟨b, 0, none⟩)] w fun e w' => e = .returned (.tuple #[]) ∧ RepQ B b w w' := by
  have hBw : B ≤ w.heap.size := Nat.le_trans hB (Nat.le_of_lt (Array.getElem?_eq_some_iff.1 hb).1)
  obtain ⟨g, c, rfl, hA⟩ : ∃ g c, v = .slice (some ⟨g, 0, none⟩) 8 c ∧ ∀ j x, escL[j]? = some x → w.cell? ⟨g, j, none⟩ = some (.string x) := by
    obtain ⟨A, c, rfl, _, hr⟩ := own_slice own
    rcases own.2 with ⟨h, _⟩ | ⟨g, cap, cur, h, _⟩
    · injection h with _ h; cases h
    · injection h with h1 _ _
      subst h1
      refine ⟨g, c, rfl, fun j x hx => ?_⟩
      obtain ⟨g', o', he, hcx⟩ := hr.at_ (j := j) (u := .string x) (by rw [List.getElem?_map, hx]; rfl)
      injection he with he; injection he with he1 he2 _
      subst he1; subst he2
      rw [Nat.zero_add] at hcx
      exact hcx
  have h4 : w.cell? ⟨b, 4, none⟩ = some (.slice (some ⟨g, 0, none⟩) 8 c) := by rw [Lib.cell_of_heap hb]; rfl
  have hbd := repBuild b g c w h4 hA
  have Hb := Lib.hid hb
  clear own hA hb
  go_enter Tryz.func82, Tryz.ntmps82
  go_wp2_with (go_at_call 115; refine hbd.mono ?_)
  rintro e w2 ⟨b2, rfl, hb2, hS⟩
  have hh := (hb2.block _ (Array.getElem?_eq_some_iff.1 Hb.out).1).trans Hb.out
  have d3 : w2.cell? ⟨b, 3, none⟩ = some .nilIface := by rw [Lib.cell_of_heap hh]; rfl
  have d4 : w2.cell? ⟨b, 4, none⟩ = some (.slice (some ⟨g, 0, none⟩) 8 c) := by rw [Lib.cell_of_heap hh]; rfl
  have f3 := Lib.frozen_of_heap hh 3
  have f4 := Lib.frozen_of_heap hh 4
  have hS3 := hS.other hh (by decide) (by decide) (by decide) 3 (.iface 169 (.pointer (some ⟨b2, 0, none⟩)))
  have hh3 : (w2.setCell ⟨b, 3, none⟩ (.iface 169 (.pointer (some ⟨b2, 0, none⟩)))).heap[b]? = some (Obj.cells #[.int .u32 0, .int .i32 1, .int .u32 0, .iface 169 (.pointer (some ⟨b2, 0, none⟩)), .slice (some ⟨g, 0, none⟩) 8 c] 106 (0, 0)) := by
    simp [World.setCell, Array.getElem?_modify, hh]
  have hS4 := hS3.other hh3 (by decide) (by decide) (by decide) 4 (.slice none 0 0)
  have hh4 : ((w2.setCell ⟨b, 3, none⟩ (.iface 169 (.pointer (some ⟨b2, 0, none⟩)))).setCell ⟨b, 4, none⟩ (.slice none 0 0)).heap[b]? = some (Obj.cells #[.int .u32 0, .int .i32 1, .int .u32 0, .iface 169 (.pointer (some ⟨b2, 0, none⟩)), .slice none 0 0] 106 (0, 0)) := by
    simp [World.setCell, Array.getElem?_modify, hh]
  have HS := Lib.hid hS4
  have HH := Lib.hid hh4
  have HB := Lib.hid (((hb2.mono hBw).setCell (p := ⟨b, 3, none⟩) hB (.iface 169 (.pointer (some ⟨b2, 0, none⟩)))).setCell (p := ⟨b, 4, none⟩) hB (.slice none 0 0))
  clear hS hS3 hS4 hh hh3 hh4 hb2
  go_wp2
  go_end0
  refine ⟨rfl, b2, HH.out, ?_, HB.out⟩
  obtain ⟨q1, q2⟩ := HS.out
  obtain ⟨cs, r1, r2, r3, u, r4, r5⟩ := q2
  exact ⟨Nat.le_trans hBw q1, cs, r1, r2, r3, u, r4, own_down r5 hBw⟩
set_option maxHeartbeats 1000000 in
set_option maxRecDepth 100000 in
theorem replacerReplace (B b : Nat) (s : ByteArray) (w : World) (h : RepAt B b w) (hs : s.size ≤ 1000000) :
    Calls Tryz.prog 52 #[.pointer (some ⟨b, 0, none⟩), .string s] w fun e w' => e = .returned (.string (mkS (litL s.data.toList))) ∧ Below B w w' := by
  obtain ⟨hB, v, hb, own⟩ := h
  have hBw : B ≤ w.heap.size := Nat.le_trans hB (Nat.le_of_lt (Array.getElem?_eq_some_iff.1 hb).1)
  have hne := own_block_ne own hb (by decide)
  have h0 : w.cell? ⟨b, 0, none⟩ = some (.int .u32 0) := by rw [Lib.cell_of_heap hb]; rfl
  have h1 : w.cell? ⟨b, 0 + 1, none⟩ = some (.int .i32 0) := by rw [Lib.cell_of_heap hb]; rfl
  have hb1 : (w.setCell ⟨b, 0 + 1, none⟩ (.int .i32 1)).heap[b]? = some (Obj.cells #[.int .u32 0, .int .i32 1, .int .u32 0, .nilIface, v] 106 (0, 0)) := by
    simp [World.setCell, Array.getElem?_modify, hb]
  have own1 : (w.setCell ⟨b, 0 + 1, none⟩ (.int .i32 1)).ownsRow B 9 1 v 8 (escL.map Value.string) := by
    refine ⟨own.1, own.2.imp id ?_⟩
    rintro ⟨g, cap, cur, rfl, hBg, hh, r⟩
    refine ⟨g, cap, cur, rfl, hBg, ?_, r⟩
    rw [Below.heap_setCell _ _ _ _ (show g ≠ b from fun e => hne (by simp [Value.ownBlock, e]))]
    exact hh
  have hf := buildOnce B b v _ hB hb1 own1
  have efn : ∀ args W, (callFunc 82 args).run Tryz.prog W = .ok (.enter 82 args) W := enters_of Tryz.func82 (by kernel_rfl) rfl
  have hdo := onDo b 0 82 (.pointer (some ⟨b, 0, none⟩)) w efn h0 h1 (Lib.frozen_of_heap hb 0) (Lib.frozen_of_heap hb 1)
    (Q := fun W => RepQ B b (w.setCell ⟨b, 0 + 1, none⟩ (.int .i32 1)) W)
    (fun W hW => by
      obtain ⟨b2, hh, _⟩ := hW
      exact ⟨by rw [Lib.cell_of_heap hh]; rfl, by rw [Lib.cell_of_heap hh]; rfl, Lib.frozen_of_heap hh 0, Lib.frozen_of_heap hh 1⟩) hf
  have HB0 := Lib.hid ((Below.refl B w).setCell (p := ⟨b, 0 + 1, none⟩) hB (.int .i32 1))
  clear hf own own1 hb hb1 h0 h1 hne
  go_enter Tryz.func52, Tryz.ntmps52
  go_wp2_with (go_at_call 81; refine hdo.mono ?_)
  rintro e w2 ⟨rfl, W2, ⟨b2, hh, hS, hb2⟩, rfl⟩
  have hS3 := (hS.step (Below.refl _ W2).drew).other (w := W2.drew) (g := b) hh (by decide) (by decide) (by decide) 0 (.int .u32 1)
  have hh3 : (W2.drew.setCell ⟨b, 0, none⟩ (.int .u32 1)).heap[b]? = some (Obj.cells #[.int .u32 1, .int .i32 1, .int .u32 0, .iface 169 (.pointer (some ⟨b2, 0, none⟩)), .slice none 0 0] 106 (0, 0)) := by
    have hh' : W2.drew.heap[b]? = _ := hh
    simp [World.setCell, Array.getElem?_modify, hh']
  have hS4 := hS3.other hh3 (by decide) (by decide) (by decide) 1 (.int .i32 0)
  have hh4 : (onDone b 0 W2).heap[b]? = some (Obj.cells #[.int .u32 1, .int .i32 0, .int .u32 0, .iface 169 (.pointer (some ⟨b2, 0, none⟩)), .slice none 0 0] 106 (0, 0)) := by
    have hh' : W2.drew.heap[b]? = _ := hh
    unfold onDone
    simp [World.setCell, Array.getElem?_modify, hh']
  have hb4 : Below B w (onDone b 0 W2) := ((((HB0.out.trans hb2).drew).setCell (p := ⟨b, 0, none⟩) hB _).setCell (p := ⟨b, 0 + 1, none⟩) hB _)
  have hS5 : Bsr B b2 4 4 (onDone b 0 W2) := hS4
  have hrr := repReplace B b2 s _ hS5 hs
  have d3 : (onDone b 0 W2).cell? ⟨b, 3, none⟩ = some (.iface 169 (.pointer (some ⟨b2, 0, none⟩))) := by rw [Lib.cell_of_heap hh4]; rfl
  have HB4 := Lib.hid hb4
  clear hS hS3 hS4 hS5 hh3 hh4 hh hb2 hb4 hdo
  generalize onDone b 0 W2 = W5 at *
  go_wp2_with (go_at_call 220; refine hrr.mono ?_; rintro e w6 ⟨rfl, hb6⟩)
  go_ret
  exact ⟨rfl, HB4.out.trans (hb6.mono (Nat.le_trans hBw HB4.out.size))⟩
end Go.Proofs.YtheeklkcaapkbaaGreatDoor
