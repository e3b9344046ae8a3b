/- Words of lines: where a text is not valid behind a valid one. -/
import Derived.Test.YtjigcembbigbnaaDoorJLexMath3
namespace Go.Proofs.YtjigcembbigbnaaDoor
namespace Lx
open Go Go.Lib Um
theorem sgn_right (b : List UInt8) : ∀ a : List UInt8, vld a → (sgn (a ++ b)).2 = (a.length + (sgn b).2.1, (sgn b).2.2) := by
  refine sgn_ind ?_ ?_ ?_
  · intro _; simp
  · intro l h h0 hv; exact absurd h0 (vld_nx hv h).1
  · intro l h h0 ih hv
    have h1 := (nx_isB h0).2.1
    rw [sgn_cons (l ++ b) (by rw [List.length_append]; omega) (by rw [nx_app b h0]; exact h0), nx_app b h0, drop_app h1]
    have h2 := ih (vld_nx hv h).2
    have h3 : (nx l).2 + (sgn (l.drop (nx l).2 ++ b)).2.1 = l.length + (sgn b).2.1 := by
      rw [h2, List.length_drop]; omega
    rw [h3, h2]
/-- What a line says of a text behind blanks behind another. -/
theorem line_right {a b : List UInt8} (ha : vld a) (hb : (sgn b).2.2 = false) : lineL (a ++ b) = ([], a.length + (sgn b).2.1, 11) := by
  unfold lineL
  rw [sgn_right b a ha, hb]; rfl
end Lx
end Go.Proofs.YtjigcembbigbnaaDoor
