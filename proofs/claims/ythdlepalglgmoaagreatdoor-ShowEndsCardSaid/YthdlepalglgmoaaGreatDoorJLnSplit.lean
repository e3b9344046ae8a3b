/- A range over an iterator that keeps a state of its own in a cell (a captured variable), with a body that is never left early. A text's lines, in plain words. -/
import Derived.RangeFuncNested
import Derived.RangeFuncBound
import Derived.RangeFuncCalls
import Derived.RangeFuncLeaves
import Derived.RangeFuncBox
import Derived.Shelf.Abstract
import Derived.Shelf.RegionOpen
import Derived.OwnWalkIn
import Derived.TacticsInMore
import Derived.LoopNIn
import Derived.LoopIn
import Derived.Maps.OwnIn
import Derived.OrdersIn
import Derived.Test.YthdlepalglgmoaaGreatDoorJMem
import Derived.Lib.ReplaceLaws
import Derived.Lib.CountLaws
namespace Go.Proofs.YthdlepalglgmoaaGreatDoor
open Go Go.RowKit Go.Maps Go.Shelf

/-- The loop's own books. -/
def Books (l D : Nat) (rec : LoopState → Loop) (W : World) : Prop := W.heap[l]? = some (.loop (rec .ready)) ∧ W.heap[D]? = some (.deferred (some []))
theorem Books.stay {l D : Nat} {rec : LoopState → Loop} {W W' : World} (h : Books l D rec W) (hk : KeepsOthers W W') : Books l D rec W' := ⟨hk.same _ _ h.1 rfl, hk.same _ _ h.2 rfl⟩
variable {F : Fence} {n : Nat} {P : Program}
end Go.Proofs.YthdlepalglgmoaaGreatDoor
namespace Go.Proofs.YthdlepalglgmoaaGreatDoor.Lx
open Go

end Go.Proofs.YthdlepalglgmoaaGreatDoor.Lx
