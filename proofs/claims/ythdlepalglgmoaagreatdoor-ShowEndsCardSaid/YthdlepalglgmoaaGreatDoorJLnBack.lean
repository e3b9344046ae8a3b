/- The program's package lines: Split, whole. The program's package lines: long, Term. The answer for lines: end, Term. The answer for lines: Term. The program's package lines: Parse; what it tells, plainly. Terms that have a text. Shown terms are read as themselves, plainly: alone, and in a line. -/
import Derived.Test.YthdlepalglgmoaaGreatDoorJLn13
import Derived.Stop.RegionWithIn
import Derived.Test.YthdlepalglgmoaaGreatDoorJTx6
import Derived.Test.YthdlepalglgmoaaGreatDoorJRep2m
namespace Go.Proofs.YthdlepalglgmoaaGreatDoor
open Go Go.RowKit Go.Maps Go.ChangeMaps Go.Shelf Um Fm Lx Tx
attribute [local go_sem] Oper.semAt_some

theorem info_str : (Tryz.prog.info? 9).map (fun i => (i.zero, i.size, i.bytes)) = some (some (.string ⟨#[]⟩), 1, 16) := by kernel_rfl
end Go.Proofs.YthdlepalglgmoaaGreatDoor
namespace Go.Proofs.YthdlepalglgmoaaGreatDoor
open Go Go.RowKit Um Fm Lx Tx
/-- Is a term's text too long? -/
def longB (t : Tm) : Bool := (showP t).2 == 3
theorem small_z : smallT zTm := ⟨by decide, by decide, by decide⟩
end Go.Proofs.YthdlepalglgmoaaGreatDoor
namespace Go.Proofs.YthdlepalglgmoaaGreatDoor
open Go Go.RowKit Um Fm Lx Tx
end Go.Proofs.YthdlepalglgmoaaGreatDoor
namespace Go.Proofs.YthdlepalglgmoaaGreatDoor
open Go Go.RowKit Um Fm Lx Tx
end Go.Proofs.YthdlepalglgmoaaGreatDoor
namespace Go.Proofs.YthdlepalglgmoaaGreatDoor
open Go Go.RowKit Um Fm Lx Tx
def longP (t : Tp) : Bool := [t.s, t.p, t.o].any longB
def smallP3 (t : Tp) : Prop := smallT t.s ∧ smallT t.p ∧ smallT t.o
/-- A triple's cells. -/
def tpL (t : Tp) : List Value := (tpC t).toList
theorem tpL_len (ts : List Tp) : (ts.flatMap tpL).length = ts.length * 12 := by
  induction ts with
  | nil => rfl
  | cons t r ih => rw [List.flatMap_cons, List.length_append, ih, List.length_cons]; simp [tpL]; omega
theorem tpL_one (t : Tp) : ∀ u ∈ tpL t, u.oneCell' = true := by
  intro u hu
  simp only [tpL, List.mem_cons, List.not_mem_nil, or_false] at hu
  rcases hu with rfl | rfl | rfl | rfl | rfl | rfl | rfl | rfl | rfl | rfl | rfl | rfl <;> rfl
theorem info_trip : (Tryz.prog.info? 29).map (fun i => (i.zero, i.size, i.bytes)) = some (some (.agg zCs), 12, 168) := by kernel_rfl
theorem mkS_data (l : List UInt8) : (mkS l).data.toList = l := List.toList_toArray
end Go.Proofs.YthdlepalglgmoaaGreatDoor
namespace Go.Proofs.YthdlepalglgmoaaGreatDoor
open Go Go.RowKit Um Fm Tx
end Go.Proofs.YthdlepalglgmoaaGreatDoor
namespace Go.Proofs.YthdlepalglgmoaaGreatDoor
open Go Go.RowKit Um Fm Lx Tx

end Go.Proofs.YthdlepalglgmoaaGreatDoor
