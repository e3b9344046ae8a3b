/- Words of lines: blanks behind a line, and another line behind them. -/
import Derived.Test.YtjigcembbigbnaaDoorJLexMath4
namespace Go.Proofs.YtjigcembbigbnaaDoor
namespace Lx
open Go Go.Lib Um
theorem lnL_gap (r : List UInt8) : ∀ (g : List UInt8) (p : Nat), (∀ i, i < g.length → blankC (g.getD i 0).toNat) → lnL (g ++ r) p = lnL r (p + g.length)
  | [], p, _ => rfl
  | c :: g, p, h => by
    rw [List.cons_append, lnL_blank p (by simp) (by have := h 0 (by simp); simpa [c0] using this)]
    rw [List.drop_one, List.tail_cons, lnL_gap r g (p + 1) (fun i hi => by have := h (i + 1) (by simp; omega); simpa using this), List.length_cons]
    congr 1
    omega
theorem gap_head {g r : List UInt8} (h0 : g.length ≠ 0) (h : ∀ i, i < g.length → blankC (g.getD i 0).toNat) : (g ++ r).length ≠ 0 ∧ blankC (c0 (g ++ r)) := by
  refine ⟨by rw [List.length_append]; omega, ?_⟩
  rw [c0_app h0]
  exact h 0 (by omega)
theorem lnL_point (p : Nat) : lnL [46] p = .ok [⟨6, ⟨#[]⟩, p⟩] := by
  rw [lnL_tok p (show tkL [46] = some (6, ⟨#[]⟩, 1) by rfl)]
  rw [lnL_stop _ (.inl rfl)]; rfl
theorem vld_ascii' (l : List UInt8) (h : l.all (fun c => decide (c.toNat < 128)) = true) : vld l := vld_ascii l fun i hi => by
  have := List.all_eq_true.1 h (l.getD i 0) (by rw [List.getD_eq_getElem?_getD, List.getElem?_eq_getElem hi]; exact List.getElem_mem hi)
  simpa using this
/-- A line, blanks, and what stands behind. -/
structure Behind (a g : List UInt8) (ts : List Tok) : Prop where
  none : lineL (a ++ g ++ [35, 32, 46, 32, 60]) = (ts, 0, 0)
  dots : lineL (a ++ g ++ [46]) = (ts, 0, 0) ∨ (lineL (a ++ g ++ [46]) = (ts ++ [⟨6, ⟨#[]⟩, a.length + g.length⟩], 0, 0) ∧
    ∀ b, lineL (a ++ g ++ b) = if (lineL b).2.2 = 0 then (ts ++ (lineL b).1.map (shT (a.length + g.length)), 0, 0) else ([], a.length + g.length + (lineL b).2.1, (lineL b).2.2))
theorem behind {a g : List UInt8} {ts : List Tok} (hv : vld a) (h : lnL a 0 = .ok ts) (h0 : g.length ≠ 0) (hg : ∀ i, i < g.length → blankC (g.getD i 0).toNat) : Behind a g ts := by
  have hvg : vld g := blanks_vld hg
  have ok : ∀ {l : List UInt8} {us : List Tok}, vld l → lnL l 0 = .ok us → lineL l = (us, 0, 0) := fun {l us} h1 h2 => by
    unfold lineL
    rw [show (sgn l).2.2 = true from h1, h2]; rfl
  have v1 : vld (a ++ (g ++ [35, 32, 46, 32, 60])) := vld_app hv (vld_app hvg (vld_ascii' _ (by decide)))
  have v2 : vld (a ++ (g ++ [46])) := vld_app hv (vld_app hvg (vld_ascii' _ (by decide)))
  rcases lnL_app a 0 ts hv h with h1 | h1
  · refine ⟨?_, .inl ?_⟩
    · rw [List.append_assoc]; exact ok v1 (h1 _ (gap_head h0 hg).1 (gap_head h0 hg).2)
    · rw [List.append_assoc]; exact ok v2 (h1 _ (gap_head h0 hg).1 (gap_head h0 hg).2)
  · refine ⟨?_, .inr ⟨?_, fun b => ?_⟩⟩
    · rw [List.append_assoc]
      refine ok v1 ?_
      rw [h1 _ (gap_head h0 hg).1 (gap_head h0 hg).2, lnL_gap _ g _ hg, lnL_stop _ (.inr rfl)]
      show Except.ok (ts ++ []) = _
      rw [List.append_nil]
    · rw [List.append_assoc]
      refine ok v2 ?_
      rw [h1 _ (gap_head h0 hg).1 (gap_head h0 hg).2, lnL_gap _ g _ hg, lnL_point, Nat.zero_add]; rfl
    · by_cases hb : (sgn b).2.2 = true
      · have v3 : vld (a ++ (g ++ b)) := vld_app hv (vld_app hvg hb)
        have e1 := h1 (g ++ b) (gap_head h0 hg).1 (gap_head h0 hg).2
        rw [lnL_gap b g _ hg, Nat.zero_add, show a.length + g.length = 0 + (a.length + g.length) by omega, lnL_shift] at e1
        rw [List.append_assoc]
        unfold lineL
        rw [show (sgn (a ++ (g ++ b))).2.2 = true from v3, hb, if_pos rfl, if_pos rfl, e1]
        cases lnL b 0 with
        | ok us => rfl
        | error e =>
          show (([] : List Tok), e + (a.length + g.length), (10 : Int)) = if (10 : Int) = 0 then _ else ([], a.length + g.length + e, 10)
          rw [if_neg (by decide), Nat.add_comm]
      · have hb : (sgn b).2.2 = false := by simpa using hb
        rw [line_right (vld_app hv hvg) hb]
        have e2 : lineL b = ([], (sgn b).2.1, 11) := by unfold lineL; rw [hb]; rfl
        rw [e2]
        show _ = if (11 : Int) = 0 then _ else ([], a.length + g.length + (sgn b).2.1, (11 : Int))
        rw [if_neg (by decide), List.length_append]
theorem lnL_p {l : List UInt8} {ts : List Tok} (h : lnL l 0 = .ok ts) : ∀ t ∈ ts, t.p ≤ l.length := by
  intro t ht
  obtain ⟨i, hi⟩ := List.getElem?_of_mem ht
  obtain ⟨a, b, h1, _, h2, h3, _⟩ := lnL_parts i l 0 ts t h hi
  omega
end Lx
end Go.Proofs.YtjigcembbigbnaaDoor
