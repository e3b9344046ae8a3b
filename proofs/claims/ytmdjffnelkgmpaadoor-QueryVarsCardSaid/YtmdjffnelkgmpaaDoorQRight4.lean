/- The program's package query, walked: Right, whole. -/
import Derived.Test.YtmdjffnelkgmpaaDoorQRight3
namespace Go.Proofs.YtmdjffnelkgmpaaDoor
open Go Go.RowKit Go.Shelf Um Fm
/-- A query, as it lies. -/
def RdQ (n : Nat) (w : World) (cs : List Value) (q : Qy n) : Prop := ∃ (a1 a2 a3 a4 : Option Addr) (c1 c2 c3 c4 : Nat),
  cs = [.bool q.ask, .bool q.dist, .slice a1 q.vars.length c1, .slice a2 q.pats.length c2, .slice a3 q.fils.length c3, .slice a4 q.ord.length c4, .int .i64 q.lim, .int .i64 q.off] ∧
  (q.vars.length ≤ c1 ∧ q.pats.length ≤ c2 ∧ q.fils.length ≤ c3 ∧ q.ord.length ≤ c4) ∧ Rd w a1 (q.vars.map Value.string) ∧ RdPat w a2 q.pats ∧ RdEs n w a3 q.fils ∧ RdKey w a4 q.ord
/-- A query's lists and texts are no longer than memory may hold. -/
def szQ {n : Nat} (q : Qy n) : Prop := q.vars.length ≤ 281474976710656 ∧ q.pats.length ≤ 281474976710656 ∧ q.fils.length ≤ 1353245080300 ∧ q.ord.length ≤ 281474976710656 ∧ (∀ x ∈ q.vars, x.size ≤ 281474976710656) ∧ (∀ x ∈ q.pats, szP x) ∧ (∀ x ∈ q.fils, szX n x) ∧ ∀ x ∈ q.ord, x.v.size ≤ 281474976710656
theorem RdStr_of {w : World} {A : Option Addr} {l : List ByteArray} (h : Rd w A (l.map Value.string)) : RdStr w A l := by
  refine ⟨_, h, ?_⟩
  clear h
  induction l with
  | nil => rfl
  | cons a r ih => exact ⟨[.string a], _, rfl, rfl, rfl, ih⟩
theorem qRight (n : Nat) (q : Qy n) (cs : List Value) (w : World) (hC : Ctx w) (hr : RdQ n w cs q) (hz : szQ q) :
    Calls Tryd.prog 18 #[.agg cs.toArray] w fun e w' => e = .returned (.bool (rightQ q)) ∧ Below w.heap.size w w' := by
  obtain ⟨a1, a2, a3, a4, c1, c2, c3, c4, rfl, _, h1, h2, h3, h4⟩ := hr
  obtain ⟨z1, z2, z3, z4, y1, y2, y3, y4⟩ := hz
  unfold rightQ
  cases hf : fitQ q.pats.length q.fils.length q.vars.length q.ord.length
  · exact qRightFit q.ask q.dist q.pats.length q.fils.length q.vars.length q.ord.length q.lim q.off a1 a2 a3 a4 c1 c2 c3 c4 w hf (by omega)
  cases hn : numsQ q.lim q.off
  · exact qRightNum q.ask q.dist q.pats.length q.fils.length q.vars.length q.ord.length q.lim q.off a1 a2 a3 a4 c1 c2 c3 c4 w hf hn
  cases ha : askQ q.ask q.dist q.vars.length q.ord.length q.lim q.off
  · exact qRightAsk q.ask q.dist q.pats.length q.fils.length q.vars.length q.ord.length q.lim q.off a1 a2 a3 a4 c1 c2 c3 c4 w hf hn ha
  obtain ⟨f1, f2, f3, f4⟩ : q.pats.length ≤ 6 ∧ q.fils.length ≤ 6 ∧ q.vars.length ≤ 12 ∧ q.ord.length ≤ 4 := by
    simpa [fitQ] using hf
  exact qRightAll q.ask q.dist q.pats.length q.fils.length q.vars.length q.ord.length q.lim q.off a1 a2 a3 a4 c1 c2 c3 c4 (q.pats.all patB) (q.fils.all (exprB n)) (q.vars.all nameB) (q.ord.all fun y => nameB y.v) w hf hn ha
    (fun W hb => everyPats q.pats a2 c2 W (hC.step hb) (by omega) (RdL.mono h2 hb fun _ _ _ h => h) y2)
    (fun W hb => everyExprs n q.fils a3 c3 W (hC.step hb) (by omega) (RdEs.later h3 hb) y3)
    (fun W hb => everyNames q.vars a1 c1 W (by omega) (RdL.mono (RdStr_of h1) hb fun _ _ _ h => h) y1)
    (fun W hb => everyKeys q.ord a4 c4 W (by omega) (RdL.mono h4 hb fun _ _ _ h => h) y4)
end Go.Proofs.YtmdjffnelkgmpaaDoor
