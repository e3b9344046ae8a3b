/- A right term's text, lexed: its tokens are the term's own; and what tokens tell is right. -/
import Derived.Test.YthdlepalglgmoaaGreatDoorJLexT
namespace Go.Proofs.YthdlepalglgmoaaGreatDoor
open Go Go.RowKit Um Fm Lx Tx

end Go.Proofs.YthdlepalglgmoaaGreatDoor
