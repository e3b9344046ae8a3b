/- Two terms, compared by Go's ==. -/
import Derived.Test.YtheeklkcaapkbaaGreatDoorJTx4
namespace Go.Proofs.YtheeklkcaapkbaaGreatDoor
open Go Go.RowKit Um Fm Tx
theorem sameTm_iff {a b : Tm} : sameTm a b = true ↔ a = b := by
  obtain ⟨k, x, l, y⟩ := a
  obtain ⟨k', x', l', y'⟩ := b
  unfold sameTm
  simp only [Bool.and_eq_true, beq_iff_eq, Tm.mk.injEq, ByteArray.toList_eq]
  constructor
  · rintro ⟨⟨⟨h1, h2⟩, h3⟩, h4⟩
    exact ⟨h1, ba_ext h2, ba_ext h3, ba_ext h4⟩
  · rintro ⟨rfl, rfl, rfl, rfl⟩
    exact ⟨⟨⟨rfl, rfl⟩, rfl⟩, rfl⟩
theorem sameTm_dec (a b : Tm) : sameTm a b = decide (a.k = b.k ∧ a.x = b.x ∧ a.l = b.l ∧ a.y = b.y) := by
  rw [Bool.eq_iff_iff, sameTm_iff, decide_eq_true_iff]
  obtain ⟨k, x, l, y⟩ := a
  obtain ⟨k', x', l', y'⟩ := b
  simp
set_option maxRecDepth 100000 in
set_option maxHeartbeats 2000000 in
theorem run_eqTm (a b : Tm) (W : World) : (binOp .eql 24 (.agg #[.int .i64 a.k, .string a.x, .string a.l, .string a.y]) (.agg #[.int .i64 b.k, .string b.x, .string b.l, .string b.y])).run Tryz.prog W = .ok (.bool (sameTm a b)) W := by
  have h0 := Tryz.underlying24
  have h1 := Tryz.underlying22
  have h2 := Tryz.underlying9
  unfold sameTm
  simp only [go_sem, h0]
  cases e1 : (a.k == b.k)
  · simp [go_sem, h0, h1, h2, e1]
  cases e2 : (a.x.toList == b.x.toList)
  · simp [go_sem, h0, h1, h2, e1, e2]
  cases e3 : (a.l.toList == b.l.toList)
  · simp [go_sem, h0, h1, h2, e1, e2, e3]
  cases e4 : (a.y.toList == b.y.toList)
  · simp [go_sem, h0, h1, h2, e1, e2, e3, e4]
  simp [go_sem, h0, h1, h2, e1, e2, e3, e4]
end Go.Proofs.YtheeklkcaapkbaaGreatDoor
