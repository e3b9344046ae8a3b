/- Terms by value, opened, with what the reach says of their sizes. -/
import Derived.Test.YtheeklkcaapkbaaGreatDoorJClose8
import Derived.SizedLaws
import Derived.Lib.SmallJoins
namespace Go.Proofs.YtheeklkcaapkbaaGreatDoor
open Go Go.ChangeShapes Go.WideShapes Go.ChangeAt Go.RowKit Go.Lib Go.Joins Go.Deep

section
variable {H : Type} {enc : TypeId × Value → H}
theorem termFields : ∃ f0 f1 f2 f3 : Field, Tryz.prog.underlying 24 = some (.struct #[f0, f1, f2, f3]) ∧ oneCellFields Tryz.prog #[f0, f1, f2, f3] = true ∧ Tryz.prog.cellsOf 24 = 4 ∧
    f0.type = 22 ∧ f1.type = 9 ∧ f2.type = 9 ∧ f3.type = 9 :=
  ⟨_, _, _, _, Tryz.underlying24, by kernel_rfl, by kernel_rfl, rfl, rfl, rfl, rfl⟩
def termD (k : Int) (x l y : ByteArray) : DataW H := .agg [.lit (.int .i64 k), .lit (.string x.data.toList), .lit (.string l.data.toList), .lit (.string y.data.toList)]
set_option maxRecDepth 20000 in
theorem open_term {r : Reach} {b0 : Nat} {w : World} {sp : Nat → Bool} {v : Value} {d : DataW H} {ps : List MemPlace} (hv : Value.okWide Tryz.prog w r b0 24 v) (hd : DataW.Trod enc Tryz.prog w 0 sp true 24 v d ps) :
    ∃ (k : Int) (x l y : ByteArray), v = .agg #[.int .i64 k, .string x, .string l, .string y] ∧ d = termD k x l y ∧ ps = [] := by
  obtain ⟨f0, f1, f2, f3, hu, ho, hc, t0, t1, t2, t3⟩ := termFields
  obtain ⟨v0, v1, v2, v3, y0, y1, y2, y3, n, rfl, rfl, rfl, h0, h1, h2, h3⟩ := open_agg4 hu ho hc hv hd
  rw [t0] at h0; rw [t1] at h1; rw [t2] at h2; rw [t3] at h3
  obtain ⟨k, e0, rfl, _⟩ := DataW.trod_int Tryz.underlying22 h0
  obtain ⟨x, e1, rfl, _⟩ := DataW.trod_string Tryz.underlying9 h1
  obtain ⟨l, e2, rfl, _⟩ := DataW.trod_string Tryz.underlying9 h2
  obtain ⟨y, e3, rfl, _⟩ := DataW.trod_string Tryz.underlying9 h3
  injection e0 with e0; injection e1 with e1; injection e2 with e2; injection e3 with e3
  subst e0 e1 e2 e3
  exact ⟨k, x, l, y, rfl, rfl, rfl⟩
theorem term_sized3 {ts : List TypeId} {ds : List (DataW H)} {j : Nat} {k : Int} {x l y : ByteArray} (hreach : (DataW.weightsEach Tryz.prog ts ds).all (· ≤ reachBytes) = true) (htj : ts[j]? = some 24) (hdj : ds[j]? = some (termD k x l y)) :
    x.size ≤ 281474976710656 ∧ l.size ≤ 281474976710656 ∧ y.size ≤ 281474976710656 := by
  have key : ∀ s : ByteArray, (s = x ∨ s = l ∨ s = y) → s.size ≤ 281474976710656 := by
    intro s hs
    have h := DataW.weights_mem_each (P := Tryz.prog) htj hdj s.data.toList.length (by
      obtain ⟨f0, f1, f2, f3, hu, _, _, t0, t1, t2, t3⟩ := termFields
      rcases hs with rfl | rfl | rfl <;> simp [termD, DataW.weights, hu, DataW.weightsEach])
    have h1 := List.all_eq_true.1 hreach _ h
    have h2 := reachBytes_lt
    have h3 := size_toList s
    simp only [decide_eq_true_eq] at h1
    omega
  exact ⟨key x (.inl rfl), key l (.inr (.inl rfl)), key y (.inr (.inr rfl))⟩
end
end Go.Proofs.YtheeklkcaapkbaaGreatDoor
