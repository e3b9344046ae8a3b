/- The table of signs that are written otherwise, in memory. -/
import Derived.Test.YtheeklkcaapkbaaGreatDoorJRep1
import Derived.Test.YtheeklkcaapkbaaGreatDoorJAppG
import Derived.Lib.ConvBytes
namespace Go.Proofs.YtheeklkcaapkbaaGreatDoor
open Go Go.RowKit Um Fm Tx

/-- A sign's bytes: none, or a block of bytes. -/
def RpV (l : List UInt8) (v : Value) (w : World) : Prop :=
  if l = [] then v = .slice none 0 0 else ∃ g c cur fz, v = .slice (some ⟨g, 0, none⟩) 2 c ∧ w.heap[g]? = some (Obj.cells cur 5 fz) ∧ l.length = 2 ∧ ∀ (j : Nat) (x : UInt8), l[j]? = some x → cur[j]? = some (Value.int .u8 (x.toNat : Int))
abbrev rpS (m : Nat) : List Value := (List.range m).map fun i => Value.string ⟨#[rpN i]⟩
/-- The table in block b: k signs are laid, m are named. -/
structure Bsr (B b k m : Nat) (w : World) : Prop where
  ge : B ≤ b
  blk : ∃ cs : Array Value, w.heap[b]? = some (Obj.cells cs 168 (0, 0)) ∧ cs.size = 257 ∧ (∀ j, j < 256 → ∃ v, cs[j]? = some v ∧ RpV (rpT k j) v w) ∧ ∃ v, cs[256]? = some v ∧ w.ownsRow B 9 1 v m (rpS m)
theorem own_block_ne {w : World} {B : Nat} {e : TypeId} {s : Nat} {v : Value} {n : Nat} {xs : List Value} (h : w.ownsRow B e s v n xs) {b : Nat} {cs : Array Value} {T : TypeId} {fz : Nat × Nat}
    (hb : w.heap[b]? = some (Obj.cells cs T fz)) (hT : T ≠ e) : v.ownBlock ≠ some b := by
  intro e1
  rcases h.2 with ⟨rfl, _⟩ | ⟨g, cap, cur, rfl, _, hg, _⟩
  · simp [Value.ownBlock] at e1
  · simp [Value.ownBlock] at e1
    subst e1
    rw [hb] at hg
    injection hg with hg; injection hg with _ hg
    exact hT hg
theorem RpV.keep {l : List UInt8} {v : Value} {w w' : World} (h : RpV l v w) (hk : ∀ (g : Nat) (cur : Array Value) (fz : Nat × Nat), w.heap[g]? = some (Obj.cells cur 5 fz) → w'.heap[g]? = some (Obj.cells cur 5 fz)) : RpV l v w' := by
  unfold RpV at *
  split
  · rename_i hl; rw [if_pos hl] at h; exact h
  · rename_i hl; rw [if_neg hl] at h
    obtain ⟨g, c, cur, fz, h1, h2, h3⟩ := h
    exact ⟨g, c, cur, fz, h1, hk g cur fz h2, h3⟩
theorem Bsr.step {B b k m : Nat} {w w' : World} (h : Bsr B b k m w) (hb : Below w.heap.size w w') : Bsr B b k m w' := by
  obtain ⟨hge, cs, h1, h2, h3, v, h4, h5⟩ := h
  have keep : ∀ {g : Nat} {o : Obj}, w.heap[g]? = some o → w'.heap[g]? = some o := fun hg => by rw [hb.block _ (Array.getElem?_eq_some_iff.1 hg).1]; exact hg
  refine ⟨hge, cs, keep h1, h2, fun j hj => ?_, v, h4, own_below h5 hb (Nat.le_refl _)⟩
  obtain ⟨u, hu, hr⟩ := h3 j hj
  exact ⟨u, hu, hr.keep fun g cur fz hg => keep hg⟩
/-- One sign more is named. -/
theorem Bsr.named {B b k m : Nat} {w w' : World} {v v' : Value} {cs : Array Value} (hge : B ≤ b) (h1 : w.heap[b]? = some (Obj.cells cs 168 (0, 0))) (h2 : cs.size = 257) (h3 : ∀ j, j < 256 → ∃ v, cs[j]? = some v ∧ RpV (rpT k j) v w)
    (own : w.ownsRow B 9 1 v m (rpS m)) (own' : w'.ownsRow B 9 1 v' (m + 1) (rpS (m + 1))) (hg : w.grownBy w' v.ownBlock) :
    Bsr B b k (m + 1) (w'.setCell ⟨b, 256, none⟩ v') := by
  have keep : ∀ {g : Nat} {cur : Array Value} {T : TypeId} {fz : Nat × Nat}, w.heap[g]? = some (.cells cur T fz) → T ≠ 9 → w'.heap[g]? = some (.cells cur T fz) := fun hh hT => by
    rw [hg.block _ (Array.getElem?_eq_some_iff.1 hh).1 (fun e => own_block_ne own hh hT e.symm)]; exact hh
  have hb' := keep h1 (by decide)
  refine ⟨hge, cs.setIfInBounds 256 v', ?_, by simpa using h2, fun j hj => ?_, v', by simp [h2], ?_⟩
  · simp [World.setCell, Array.getElem?_modify, hb']
  · obtain ⟨u, hu, hr⟩ := h3 j hj
    refine ⟨u, ?_, hr.keep fun g cur fz hh => ?_⟩
    · rw [Array.getElem?_setIfInBounds, if_neg (by omega)]; exact hu
    · have h0 := keep hh (by decide)
      rw [Below.heap_setCell _ _ _ _ (show g ≠ b from fun e => ?_)]
      · exact h0
      · subst e; rw [h1] at hh; injection hh with hh; injection hh with _ hh; revert hh; decide
  · have hne := own_block_ne own' hb' (by decide)
    refine ⟨own'.1, own'.2.imp id ?_⟩
    rintro ⟨g, cap, cur, rfl, hB, hh, r⟩
    refine ⟨g, cap, cur, rfl, hB, ?_, r⟩
    rw [Below.heap_setCell _ _ _ _ (show g ≠ b from fun e => hne (by simp [Value.ownBlock, e]))]
    exact hh
/-- One sign more is laid. -/
theorem Bsr.laid {B b k m : Nat} {w : World} (h : Bsr B b k m w) (hk : k < 4) {g c : Nat} {cur : Array Value} {fz : Nat × Nat} (hg : w.heap[g]? = some (Obj.cells cur 5 fz))
    (hx : ∀ (j : Nat) (x : UInt8), (rpX (rpN k).toNat)[j]? = some x → cur[j]? = some (Value.int .u8 (x.toNat : Int))) : Bsr B b (k + 1) m (w.setCell ⟨b, (rpN k).toNat, none⟩ (.slice (some ⟨g, 0, none⟩) 2 c)) := by
  obtain ⟨hge, cs, h1, h2, h3, v, h4, h5⟩ := h
  have hn : (rpN k).toNat < 256 := UInt8.toNat_lt _
  have hl : (rpX (rpN k).toNat).length = 2 := by
    match k, hk with
    | 0, _ => rfl
    | 1, _ => rfl
    | 2, _ => rfl
    | 3, _ => rfl
  have keep : ∀ {g : Nat} {cur : Array Value} {T : TypeId} {fz : Nat × Nat} {b' : Nat} {u : Value}, w.heap[g]? = some (.cells cur T fz) → T ≠ 168 → (w.setCell ⟨b, b', none⟩ u).heap[g]? = some (.cells cur T fz) := fun {g} _ _ _ _ _ hh hT => by
    rw [Below.heap_setCell _ _ _ _ (show g ≠ b from fun e => ?_)]
    · exact hh
    · subst e; rw [h1] at hh; injection hh with hh; injection hh with _ hh; exact hT hh.symm
  refine ⟨hge, cs.setIfInBounds (rpN k).toNat (.slice (some ⟨g, 0, none⟩) 2 c), ?_, by simpa using h2, fun j hj => ?_, v, ?_, ?_⟩
  · simp [World.setCell, Array.getElem?_modify, h1]
  · rw [rpT_succ k j hk]
    by_cases e : j = (rpN k).toNat
    · subst e
      rw [if_pos rfl]
      refine ⟨.slice (some ⟨g, 0, none⟩) 2 c, by rw [Array.getElem?_setIfInBounds, if_pos rfl, if_pos (by omega)], ?_⟩
      unfold RpV
      rw [if_neg (fun e => by rw [e] at hl; cases hl)]
      exact ⟨g, c, cur, fz, rfl, keep hg (by decide), hl, hx⟩
    · rw [if_neg e]
      obtain ⟨u, hu, hr⟩ := h3 j hj
      refine ⟨u, ?_, hr.keep fun g cur fz hh => keep hh (by decide)⟩
      rw [Array.getElem?_setIfInBounds, if_neg (Ne.symm e)]; exact hu
  · rw [Array.getElem?_setIfInBounds, if_neg (by omega)]; exact h4
  · refine ⟨h5.1, h5.2.imp id ?_⟩
    rintro ⟨g', cap, cur', rfl, hB, hh, r⟩
    exact ⟨g', cap, cur', rfl, hB, keep hh (by decide), r⟩
theorem Bsr.low {B b k m : Nat} {w : World} (h : Bsr B b k m w) {j : Nat} (hj : j < 256) : ∃ v, w.cell? ⟨b, j, none⟩ = some v ∧ RpV (rpT k j) v w := by
  obtain ⟨_, cs, h1, _, h3, _⟩ := h
  obtain ⟨v, hv, hr⟩ := h3 j hj
  exact ⟨v, by rw [Lib.cell_of_heap h1]; exact hv, hr⟩
theorem Bsr.row {B b k m : Nat} {w : World} (h : Bsr B b k m w) : ∃ v, w.cell? ⟨b, 256, none⟩ = some v ∧ w.ownsRow B 9 1 v m (rpS m) := by
  obtain ⟨_, cs, h1, _, _, v, hv, ho⟩ := h
  exact ⟨v, by rw [Lib.cell_of_heap h1]; exact hv, ho⟩
theorem Bsr.fz {B b k m : Nat} {w : World} (h : Bsr B b k m w) (j : Nat) : w.frozen? ⟨b, j, none⟩ = false := by
  obtain ⟨_, cs, h1, _⟩ := h
  exact Lib.frozen_of_heap h1 j
theorem rpS_succ (m : Nat) : rpS (m + 1) = rpS m ++ [.string ⟨#[rpN m]⟩] := by simp [rpS, List.range_succ]
end Go.Proofs.YtheeklkcaapkbaaGreatDoor
