/- What tokens tell is right. The program's package lines: read; what it tells, plainly; the term's one. The program's package lines: read at api.Term. The program's package lines: read at api.Triple. The program's package lines: Split. -/
import Derived.Test.YthdlepalglgmoaaGreatDoorJLnShow
import Derived.Test.YthdlepalglgmoaaGreatDoorJLexT
import Derived.Test.YthdlepalglgmoaaGreatDoorJLnSplit
import Derived.Maps.OwnIn
namespace Go.Proofs.YthdlepalglgmoaaGreatDoor
open Go Go.RowKit Um Fm Lx Tx

end Go.Proofs.YthdlepalglgmoaaGreatDoor
namespace Go.Proofs.YthdlepalglgmoaaGreatDoor
open Go Go.RowKit Um Fm Lx Tx
end Go.Proofs.YthdlepalglgmoaaGreatDoor
namespace Go.Proofs.YthdlepalglgmoaaGreatDoor
open Go Go.RowKit Um Fm Lx Tx
end Go.Proofs.YthdlepalglgmoaaGreatDoor
namespace Go.Proofs.YthdlepalglgmoaaGreatDoor
open Go Go.RowKit Um Fm Lx Tx
def zTp : Tp := ⟨zTm, zTm, zTm⟩
end Go.Proofs.YthdlepalglgmoaaGreatDoor
namespace Go.Proofs.YthdlepalglgmoaaGreatDoor
open Go Go.RowKit Go.Maps Go.ChangeMaps Go.Shelf Um Fm Lx Tx
attribute [local go_sem] Oper.semAt_some

/-- A line without its end. -/
def trimB (x : ByteArray) : ByteArray := mkS (Lib.trimSuffix x.data.toList [10])
/-- The lines so far, in the variable's box at z. -/
def OutI (w : World) (z base : Nat) (pre : List ByteArray) (W : World) : Prop := (∃ v, Boxed W z 61 v ∧ W.ownsRow base 9 1 v pre.length ((pre.map trimB).map Value.string)) ∧ Below w.heap.size w W ∧ base ≤ W.heap.size
theorem OutI.grown {w : World} {z base bS : Nat} {pre : List ByteArray} {X Y : World} (h : OutI w z base pre X) (hg : X.grownBy Y (some bS)) (h1 : bS < base) (h2 : bS ≠ z) (h3 : w.heap.size ≤ bS) : OutI w z base pre Y := by
  obtain ⟨⟨v, hb, ho⟩, hB, hs⟩ := h
  exact ⟨⟨v, hb.kept hg (fun e => h2 (by injection e with e; exact e.symm)), own_grown ho hg h1⟩, hB.grown hg hB.size (fun k e => by injection e with e; omega), Nat.le_trans hs hg.size⟩
end Go.Proofs.YthdlepalglgmoaaGreatDoor
