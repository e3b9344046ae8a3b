/- term.escapes, strings.NewReplacer over its four pairs. -/
import Derived.Test.YtheeklkcaapkbaaGreatDoorJOnce
import Derived.Test.YtheeklkcaapkbaaGreatDoorJTx3
namespace Go.Proofs.YtheeklkcaapkbaaGreatDoor
open Go Go.RowKit Um Fm Tx

theorem strInfo8 : (Tryz.prog.info? 9).map (fun i => (i.zero, i.size, i.bytes)) = some (some (.string ⟨#[]⟩), 1, 16) := by kernel_rfl
abbrev escL : List ByteArray := [⟨#[92]⟩, ⟨#[92, 92]⟩, ⟨#[34]⟩, ⟨#[92, 34]⟩, ⟨#[10]⟩, ⟨#[92, 110]⟩, ⟨#[13]⟩, ⟨#[92, 114]⟩]
/-- A replacer of these pairs, not yet built, in block b. -/
def RepAt (B b : Nat) (w : World) : Prop := B ≤ b ∧ ∃ (v : Value), w.heap[b]? = some (.cells #[.int .u32 0, .int .i32 0, .int .u32 0, .nilIface, v] 106 (0, 0)) ∧ w.ownsRow B 9 1 v 8 (escL.map Value.string)
theorem own_down {w : World} {B B' : Nat} {e : TypeId} {s : Nat} {v : Value} {n : Nat} {xs : List Value} (h : w.ownsRow B e s v n xs) (hb : B' ≤ B) : w.ownsRow B' e s v n xs :=
  ⟨h.1, h.2.imp id fun ⟨g, cap, cur, hv, hB, r⟩ => ⟨g, cap, cur, hv, Nat.le_trans hb hB, r⟩⟩
set_option maxRecDepth 100000 in
theorem newReplacer (g : Nat) (w : World) (hA : Rd w (some ⟨g, 0, none⟩) (escL.map Value.string)) :
    Calls Tryz.prog 80 #[.slice (some ⟨g, 0, none⟩) 8 8] w fun e w' => ∃ b, e = .returned (.pointer (some ⟨b, 0, none⟩)) ∧ RepAt w.heap.size b w' ∧ Below w.heap.size w w' := by
  have hown : w.ownsRow w.heap.size 9 1 (.slice none 0 0) 0 [] := World.ownsRow_nil _ _ _ _
  have H1 : ∀ u ∈ escL.map Value.string, u.oneCell' = true := by
    intro u hu; obtain ⟨x, _, rfl⟩ := List.mem_map.1 hu; rfl
  go_enter Tryz.func80, Tryz.ntmps80
  go_wp2_with (at_builtin; refine wpList_app (m := 8) rfl rfl Tryz.underlying49 strInfo8 rfl (by omega) rfl hown rfl hA rfl H1 (by omega) (by omega) (by omega) ?_; intro v1 w1 own1 hb1; obtain ⟨A1, c1, rfl, _, _⟩ := own_slice own1)
  go_ret
  rw [Nat.zero_add, List.nil_append] at own1
  exact ⟨_, rfl, ⟨hb1.size, _, heap_alloc_new w1 _, own1.alloc _⟩, hb1.alloc hb1.size _⟩
set_option maxRecDepth 100000 in
theorem termEscapes (w : World) : Calls Tryz.prog 51 #[] w fun e w' => ∃ b, e = .returned (.pointer (some ⟨b, 0, none⟩)) ∧ RepAt w.heap.size b w' ∧ Below w.heap.size w w' := by
  have hb : Below w.heap.size w (w.alloc (.cells (escL.map Value.string).toArray 9)) := (by repeat (first | exact Below.refl _ _ | assumption | exact (Below.refl _ _).alloc (Nat.le_refl _) _ | refine below_tr ?_ (by assumption) | refine below_alloc ?_ | refine below_tr ?_ (below_regrown _ _ _)))
  have h := newReplacer w.heap.size _ (Rd.of_block (heap_alloc_new w (.cells (escL.map Value.string).toArray 9)) rfl)
  have HB := Lib.hid hb
  go_enter Tryz.func51, Tryz.ntmps51
  go_wp2_with (go_at_call 80; refine h.mono ?_; rintro e w2 ⟨b, rfl, ⟨k1, v, k2, k3⟩, k4⟩)
  go_ret
  have hs := HB.out.size
  exact ⟨b, rfl, ⟨by omega, v, k2, own_down k3 (by omega)⟩, below_tr HB.out k4⟩
end Go.Proofs.YtheeklkcaapkbaaGreatDoor
