/- Slices of numbers, opened, with what the reach says of their lengths. -/
import Derived.Test.YtgmkpandbafhjaaDoorClose2b
namespace Go.Proofs.YtgmkpandbafhjaaDoor
open Go Go.ChangeShapes Go.WideShapes Go.ChangeAt Go.RowKit Go.Lib

section
variable {H : Type} {enc : TypeId × Value → H} {P : Program}
theorem open_numbers_sized {r : Reach} {b0 : Nat} {w : World} {t e : TypeId} {k : IntKind} {sp : Nat → Bool} {v : Value} {d : DataW H} {ps : List MemPlace} {ts : List TypeId} {ds : List (DataW H)} {j : Nat}
    (ht : P.underlying t = some (.slice e)) (he : P.underlying e = some (.int k)) (hc : P.cellsOf e = 1) (hby : 0 < P.bytesOf e)
    (hv0 : Value.okWide P w r b0 t v) (hd : DataW.Trod enc P w 0 sp true t v d ps) (hreach : (DataW.weightsEach P ts ds).all (· ≤ reachBytes) = true) (htj : ts[j]? = some t) (hdj : ds[j]? = some d) :
    ∃ (l : List Int) (A : Option Addr) (c : Nat), v = .slice A l.length c ∧ Rd w A (l.map (Value.int k)) ∧ l.length ≤ 281474976710656 := by
  obtain ⟨l, A, c, rfl, hrd, _⟩ := open_numbers ht he hc hv0 hd
  refine ⟨l, A, c, rfl, hrd, ?_⟩
  obtain ⟨fuel, hf⟩ := hd
  rw [show (Value.slice A l.length c).cells.toList = [.slice A l.length c] from rfl] at hf
  rcases open_ints ht he hc hf with ⟨hv, _⟩ | ⟨a, len, cap, zs, hv, _, hle, hmax, hzl, hx, hcell, _⟩
  · injection hv with hv
    injection hv with _ h2
    omega
  · injection hv with hv
    injection hv with _ h2
    have hlz : len ≤ zs.length := by rw [hzl]; split <;> omega
    have hd2 : d = .slice (lits k (zs.take len)) (lits k (zs.drop len)) := congrArg Prod.fst hx
    have h3 := sized_slice hreach htj (by rw [hdj, hd2]) ht
    have h4 := reachBytes_lt
    have h5 : (lits (H := H) k (zs.take len)).length = len := by simp [lits]; omega
    rw [h5] at h3
    have h6 : len ≤ (len + (lits (H := H) k (zs.drop len)).length) * P.bytesOf e := Nat.le_trans (Nat.le_add_right _ _) (Nat.le_mul_of_pos_right _ hby)
    omega
end
end Go.Proofs.YtgmkpandbafhjaaDoor
