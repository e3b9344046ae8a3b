/- Lines, plain: tokens read one by one, with a place at which one can't go on; the two readers of an object, of a triple, tell the same. The answer for lines (ossuaryref10): the reader of tokens. The answer for lines: fail. The answer for lines: take. The answer for lines: node. The answer for lines: object, end. Slices without their first. The program's package lines: a reader's tokens in memory; is, place. The program's package lines: must, named. The program's package lines: object. The program's package lines: triple. Words of lines: blanks behind a line, and another line behind them. Layer 9's laws, walked: awake, tells, same, blank; LexTells. Layer 9's laws, walked: tells, LexTells. Layer 9's laws, walked: blank, LexParts. -/
import Derived.Test.YthdlepalglgmoaaGreatDoorJTxRd
import Derived.Test.YthdlepalglgmoaaGreatDoorJR8g
import Derived.Great.Walk
import Derived.Test.YthdlepalglgmoaaGreatDoorJMem
import Derived.Test.YthdlepalglgmoaaGreatDoorJTms
import Derived.Test.YthdlepalglgmoaaGreatDoorJTx6
import Derived.Test.YthdlepalglgmoaaGreatDoorJUtfNext
namespace Go.Proofs.YthdlepalglgmoaaGreatDoor
open Go Go.RowKit Um Fm Lx Tx

end Go.Proofs.YthdlepalglgmoaaGreatDoor
namespace Go.Proofs.YthdlepalglgmoaaGreatDoor
open Go Go.RowKit Um Fm Lx Tx
end Go.Proofs.YthdlepalglgmoaaGreatDoor
namespace Go.Proofs.YthdlepalglgmoaaGreatDoor
open Go Go.RowKit Um Fm Lx Tx
end Go.Proofs.YthdlepalglgmoaaGreatDoor
namespace Go.Proofs.YthdlepalglgmoaaGreatDoor
open Go Go.RowKit Um Fm Lx Tx
end Go.Proofs.YthdlepalglgmoaaGreatDoor
namespace Go.Proofs.YthdlepalglgmoaaGreatDoor
open Go Go.RowKit Um Fm Lx Tx
theorem zT.grown {w V V' : World} {b : Nat} (h : zT w V) (hg : V.grownBy V' (some b)) (hb : b < w.heap.size) : zT w V' := by
  have hlt : w.heap.size < V.heap.size := (Array.getElem?_eq_some_iff.1 h).1
  show V'.heap[w.heap.size]? = _
  rw [hg.block _ hlt (by intro e; cases e; omega)]
  exact h
end Go.Proofs.YthdlepalglgmoaaGreatDoor
namespace Go.Proofs.YthdlepalglgmoaaGreatDoor
open Go Go.RowKit Um Fm Lx Tx
end Go.Proofs.YthdlepalglgmoaaGreatDoor
namespace Go.Proofs.YthdlepalglgmoaaGreatDoor
open Go Go.RowKit
end Go.Proofs.YthdlepalglgmoaaGreatDoor
namespace Go.Proofs.YthdlepalglgmoaaGreatDoor
open Go Go.RowKit Um Fm Lx Tx

end Go.Proofs.YthdlepalglgmoaaGreatDoor
namespace Go.Proofs.YthdlepalglgmoaaGreatDoor
open Go Go.RowKit Um Fm Lx Tx
end Go.Proofs.YthdlepalglgmoaaGreatDoor
namespace Go.Proofs.YthdlepalglgmoaaGreatDoor
open Go Go.RowKit Um Fm Lx Tx
end Go.Proofs.YthdlepalglgmoaaGreatDoor
namespace Go.Proofs.YthdlepalglgmoaaGreatDoor
open Go Go.RowKit Um Fm Lx Tx
/-- A block of cells. -/
def bkT (z : Nat) (T : TypeId) (cs : Array Value) (V : World) : Prop := V.heap[z]? = some (.cells cs T (0, 0))
theorem bkT.lt {z : Nat} {T : TypeId} {cs : Array Value} {V : World} (h : bkT z T cs V) : z < V.heap.size := (Array.getElem?_eq_some_iff.1 h).1
theorem bkT.grown {z b : Nat} {T : TypeId} {cs : Array Value} {V V' : World} (h : bkT z T cs V) (hg : V.grownBy V' (some b)) (hb : b ≠ z) : bkT z T cs V' := by
  have hlt := h.lt
  show V'.heap[z]? = _
  rw [hg.block _ hlt (by intro e; cases e; exact hb rfl)]
  exact h
theorem bkT.step {z : Nat} {T : TypeId} {cs : Array Value} {V V' : World} (h : bkT z T cs V) (hb : Below V.heap.size V V') : bkT z T cs V' := below_blk hb h
theorem bkT.set {z : Nat} {T : TypeId} {cs : Array Value} {V : World} (h : bkT z T cs V) (i : Nat) (v : Value) : bkT z T (cs.setIfInBounds i v) (V.setCell ⟨z, i, none⟩ v) := by
  unfold bkT at *
  simp [World.setCell, Array.getElem?_modify, h]
theorem bkT.cell {z : Nat} {T : TypeId} {cs : Array Value} {V : World} (h : bkT z T cs V) (i : Nat) {u : Value} (hu : cs[i]? = some u) : V.cell? ⟨z, i, none⟩ = some u := by rw [Lib.cell_of_heap h]; exact hu
theorem bkT.fz {z : Nat} {T : TypeId} {cs : Array Value} {V : World} (h : bkT z T cs V) (i : Nat) : V.frozen? ⟨z, i, none⟩ = false := Lib.frozen_of_heap h i
def zCs : Array Value := #[.int .i64 0, .string ⟨#[]⟩, .string ⟨#[]⟩, .string ⟨#[]⟩, .int .i64 0, .string ⟨#[]⟩, .string ⟨#[]⟩, .string ⟨#[]⟩, .int .i64 0, .string ⟨#[]⟩, .string ⟨#[]⟩, .string ⟨#[]⟩]
end Go.Proofs.YthdlepalglgmoaaGreatDoor
namespace Go.Proofs.YthdlepalglgmoaaGreatDoor
namespace Lx
open Go Go.Lib Um
theorem lnL_gap (r : List UInt8) : ∀ (g : List UInt8) (p : Nat), (∀ i, i < g.length → blankC (g.getD i 0).toNat) → lnL (g ++ r) p = lnL r (p + g.length)
  | [], p, _ => rfl
  | c :: g, p, h => by
    rw [List.cons_append, lnL_blank p (by simp) (by have := h 0 (by simp); simpa [c0] using this)]
    rw [List.drop_one, List.tail_cons, lnL_gap r g (p + 1) (fun i hi => by have := h (i + 1) (by simp; omega); simpa using this), List.length_cons]
    congr 1
    omega
theorem gap_head {g r : List UInt8} (h0 : g.length ≠ 0) (h : ∀ i, i < g.length → blankC (g.getD i 0).toNat) : (g ++ r).length ≠ 0 ∧ blankC (c0 (g ++ r)) := by
  refine ⟨by rw [List.length_append]; omega, ?_⟩
  rw [c0_app h0]
  exact h 0 (by omega)
theorem lnL_point (p : Nat) : lnL [46] p = .ok [⟨6, ⟨#[]⟩, p⟩] := by
  rw [lnL_tok p (show tkL [46] = some (6, ⟨#[]⟩, 1) by rfl)]
  rw [lnL_stop _ (.inl rfl)]; rfl
theorem vld_ascii' (l : List UInt8) (h : l.all (fun c => decide (c.toNat < 128)) = true) : vld l := vld_ascii l fun i hi => by
  have := List.all_eq_true.1 h (l.getD i 0) (by rw [List.getD_eq_getElem?_getD, List.getElem?_eq_getElem hi]; exact List.getElem_mem hi)
  simpa using this
/-- A line, blanks, and what stands behind. -/
structure Behind (a g : List UInt8) (ts : List LTok) : Prop where
  none : lineL (a ++ g ++ [35, 32, 46, 32, 60]) = (ts, 0, 0)
  dots : lineL (a ++ g ++ [46]) = (ts, 0, 0) ∨ (lineL (a ++ g ++ [46]) = (ts ++ [⟨6, ⟨#[]⟩, a.length + g.length⟩], 0, 0) ∧
    ∀ b, lineL (a ++ g ++ b) = if (lineL b).2.2 = 0 then (ts ++ (lineL b).1.map (shT (a.length + g.length)), 0, 0) else ([], a.length + g.length + (lineL b).2.1, (lineL b).2.2))
theorem behind {a g : List UInt8} {ts : List LTok} (hv : vld a) (h : lnL a 0 = .ok ts) (h0 : g.length ≠ 0) (hg : ∀ i, i < g.length → blankC (g.getD i 0).toNat) : Behind a g ts := by
  have hvg : vld g := blanks_vld hg
  have ok : ∀ {l : List UInt8} {us : List LTok}, vld l → lnL l 0 = .ok us → lineL l = (us, 0, 0) := fun {l us} h1 h2 => by
    unfold lineL
    rw [show (sgn l).2.2 = true from h1, h2]; rfl
  have v1 : vld (a ++ (g ++ [35, 32, 46, 32, 60])) := vld_app hv (vld_app hvg (vld_ascii' _ (by decide)))
  have v2 : vld (a ++ (g ++ [46])) := vld_app hv (vld_app hvg (vld_ascii' _ (by decide)))
  rcases lnL_app a 0 ts hv h with h1 | h1
  · refine ⟨?_, .inl ?_⟩
    · rw [List.append_assoc]; exact ok v1 (h1 _ (gap_head h0 hg).1 (gap_head h0 hg).2)
    · rw [List.append_assoc]; exact ok v2 (h1 _ (gap_head h0 hg).1 (gap_head h0 hg).2)
  · refine ⟨?_, .inr ⟨?_, fun b => ?_⟩⟩
    · rw [List.append_assoc]
      refine ok v1 ?_
      rw [h1 _ (gap_head h0 hg).1 (gap_head h0 hg).2, lnL_gap _ g _ hg, lnL_stop _ (.inr rfl)]
      show Except.ok (ts ++ []) = _
      rw [List.append_nil]
    · rw [List.append_assoc]
      refine ok v2 ?_
      rw [h1 _ (gap_head h0 hg).1 (gap_head h0 hg).2, lnL_gap _ g _ hg, lnL_point, Nat.zero_add]; rfl
    · by_cases hb : (sgn b).2.2 = true
      · have v3 : vld (a ++ (g ++ b)) := vld_app hv (vld_app hvg hb)
        have e1 := h1 (g ++ b) (gap_head h0 hg).1 (gap_head h0 hg).2
        rw [lnL_gap b g _ hg, Nat.zero_add, show a.length + g.length = 0 + (a.length + g.length) by omega, lnL_shift] at e1
        rw [List.append_assoc]
        unfold lineL
        rw [show (sgn (a ++ (g ++ b))).2.2 = true from v3, hb, if_pos rfl, if_pos rfl, e1]
        cases lnL b 0 with
        | ok us => rfl
        | error e =>
          show (([] : List LTok), e + (a.length + g.length), (10 : Int)) = if (10 : Int) = 0 then _ else ([], a.length + g.length + e, 10)
          rw [if_neg (by decide), Nat.add_comm]
      · have hb : (sgn b).2.2 = false := by simpa using hb
        rw [line_right (vld_app hv hvg) hb]
        have e2 : lineL b = ([], (sgn b).2.1, 11) := by unfold lineL; rw [hb]; rfl
        rw [e2]
        show _ = if (11 : Int) = 0 then _ else ([], a.length + g.length + (sgn b).2.1, (11 : Int))
        rw [if_neg (by decide), List.length_append]
end Lx
end Go.Proofs.YthdlepalglgmoaaGreatDoor
namespace Go.Proofs.YthdlepalglgmoaaGreatDoor
open Go Go.RowKit Um Lx

/-- Tokens in memory. -/
def RdTk (w : World) (A : Option Addr) (ts : List LTok) : Prop := Rd w A (ts.flatMap tokC)
theorem RdTk.later {w w' : World} {A : Option Addr} {ts : List LTok} (h : RdTk w A ts) (hb : Below w.heap.size w w') : RdTk w' A ts := Rd.later h hb
end Go.Proofs.YthdlepalglgmoaaGreatDoor
namespace Go.Proofs.YthdlepalglgmoaaGreatDoor
open Go Go.RowKit Um Lx

end Go.Proofs.YthdlepalglgmoaaGreatDoor
namespace Go.Proofs.YthdlepalglgmoaaGreatDoor
open Go Go.RowKit Um Lx

end Go.Proofs.YthdlepalglgmoaaGreatDoor
