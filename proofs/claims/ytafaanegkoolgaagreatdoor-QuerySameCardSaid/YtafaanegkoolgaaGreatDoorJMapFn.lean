/- A map from integers to function values, as it lies: lookups, entries laid anew. -/
import Derived.Test.YtafaanegkoolgaaGreatDoorJBase
import Derived.Maps.Keyed
namespace Go.Proofs.YtafaanegkoolgaaGreatDoor
open Go Go.RowKit Go.Maps Go.ChangeMaps

/-- The map's block holds these entries, in this order. -/
def MapOf (w : World) (q : IntKind) (r : Nat) (kvs : List (Int × Value)) : Prop :=
  ∃ es clock, w.heap[r]? = some (.map es clock) ∧ es.toList.map (fun e => (e.key, e.val)) = kvs.map (fun p => (Value.int q p.1, p.2))

theorem MapOf.later {w w' : World} {q : IntKind} {r : Nat} {kvs : List (Int × Value)} (h : MapOf w q r kvs) (hb : Below w.heap.size w w') : MapOf w' q r kvs := by
  obtain ⟨es, cl, h1, h2⟩ := h
  refine ⟨es, cl, ?_, h2⟩
  rw [hb.block r (Array.getElem?_eq_some_iff.1 h1).1]; exact h1
theorem findNow_ints (q : IntKind) (x : Int) : ∀ (kvs : List (Int × Value)) (es : List MapEntry) (i : Nat), es.map (fun e => (e.key, e.val)) = kvs.map (fun p => (Value.int q p.1, p.2)) →
    ∃ o, Instr.findNow (.int q) (.int q x) es i = some o ∧ o.map (·.2) = (kvs.find? (fun p => p.1 == x)).map (·.2)
  | [], [], i, _ => ⟨none, rfl, rfl⟩
  | [], e :: es, i, h => by simp at h
  | p :: kvs, [], i, h => by simp at h
  | p :: kvs, e :: es, i, h => by
    simp only [List.map_cons, List.cons.injEq, Prod.mk.injEq] at h
    obtain ⟨⟨hk, hv⟩, ht⟩ := h
    unfold Instr.findNow
    rw [hk]
    simp only [Instr.sameNow, if_true]
    by_cases hx : x = p.1
    · subst hx
      refine ⟨some (i, e.val), by simp, ?_⟩
      simp [hv]
    · have h1 : (x == p.1) = false := by simpa using hx
      have h2 : (p.1 == x) = false := by simpa using Ne.symm hx
      rw [h1]
      obtain ⟨o, ho, hm⟩ := findNow_ints q x kvs es (i + 1) ht
      exact ⟨o, ho, by rw [hm, List.find?_cons, h2]⟩

theorem run_lookup_fn {P : Program} {T K E : TypeId} {q : IntKind} (hT : P.underlying T = some (.map K E)) (hK : P.underlying K = some (.int q)) {z : Value} {w : World} (hz : (zeroValue E).run P w = .ok z w)
    {r : Nat} {kvs : List (Int × Value)} (h : MapOf w q r kvs) (x : Int) :
    (Instr.lookup T (.map (some r)) (.int q x) false).run P w = .ok (((kvs.find? (fun p => p.1 == x)).map (·.2)).getD z) w := by
  obtain ⟨es, clock, hb, hes⟩ := h
  obtain ⟨o, ho, hm⟩ := findNow_ints q x kvs es.toList 0 hes
  have hc : (Instr.checkKey es.isEmpty 10000 K (.int q x)).run P w = .ok () w := by
    have := Go.MapKept.run_checkKey (P := P) (w := w) (k := .int q x) hK (show Go.MapKept.IsKey (.int q) (.int q x) from rfl) es.isEmpty 9999
    exact this
  have hf : (Instr.findKey K (.int q x) es.toList).run P w = .ok o w := by
    simp [Instr.findKey, run_underlying hK, ho]
  have hg : (getObj r).run P w = .ok (.map es clock) w := by simp [getObj, Sem.run, hb]
  unfold Instr.lookup
  simp only [Sem.run_bind, run_underlying hT, Result.andThen, hg, Sem.run_pure, hc, hf]
  rw [← hm]
  cases o with
  | none => simp [hz]
  | some p => simp

theorem run_lookup_fn2 {P : Program} {T K E : TypeId} {q : IntKind} (hT : P.underlying T = some (.map K E)) (hK : P.underlying K = some (.int q)) {z : Value} {w : World} (hz : (zeroValue E).run P w = .ok z w)
    {r : Nat} {kvs : List (Int × Value)} (h : MapOf w q r kvs) (x : Int) :
    (Instr.lookup T (.map (some r)) (.int q x) true).run P w = .ok (.tuple #[((kvs.find? (fun p => p.1 == x)).map (·.2)).getD z, .bool (kvs.find? (fun p => p.1 == x)).isSome]) w := by
  obtain ⟨es, clock, hb, hes⟩ := h
  obtain ⟨o, ho, hm⟩ := findNow_ints q x kvs es.toList 0 hes
  have hc : (Instr.checkKey es.isEmpty 10000 K (.int q x)).run P w = .ok () w := by
    have := Go.MapKept.run_checkKey (P := P) (w := w) (k := .int q x) hK (show Go.MapKept.IsKey (.int q) (.int q x) from rfl) es.isEmpty 9999
    exact this
  have hf : (Instr.findKey K (.int q x) es.toList).run P w = .ok o w := by
    simp [Instr.findKey, run_underlying hK, ho]
  have hg : (getObj r).run P w = .ok (.map es clock) w := by simp [getObj, Sem.run, hb]
  have hs : (kvs.find? (fun p => p.1 == x)).isSome = o.isSome := by
    cases o <;> cases hh : kvs.find? (fun p => p.1 == x) <;> simp [hh] at hm ⊢
  unfold Instr.lookup
  simp only [Sem.run_bind, run_underlying hT, Result.andThen, hg, Sem.run_pure, hc, hf]
  rw [← hm, hs]
  cases o with
  | none => simp [hz]
  | some p => simp

theorem run_update_fn {P : Program} {T K E : TypeId} {q : IntKind} (hT : P.underlying T = some (.map K E)) (hK : P.underlying K = some (.int q)) {w : World}
    {r : Nat} {kvs : List (Int × Value)} (h : MapOf w q r kvs) (x : Int) (v : Value) (hx : kvs.find? (fun p => p.1 == x) = none) :
    ∃ w', (Instr.mapUpdate T (.map (some r)) (.int q x) v).run P w = .ok () w' ∧ MapOf w' q r (kvs ++ [(x, v)]) ∧ w.grownBy w' (some r) := by
  obtain ⟨es, clock, hb, hes⟩ := h
  obtain ⟨o, ho, hm⟩ := findNow_ints q x kvs es.toList 0 hes
  rw [hx] at hm
  have ho2 : o = none := by cases o with | none => rfl | some p => simp at hm
  subst ho2
  have hc : (Instr.checkKey false 10000 K (.int q x)).run P w = .ok () w := by
    have := Go.MapKept.run_checkKey (P := P) (w := w) (k := .int q x) hK (show Go.MapKept.IsKey (.int q) (.int q x) from rfl) false 9999
    exact this
  have hf : (Instr.findKey K (.int q x) es.toList).run P w = .ok none w := by
    simp [Instr.findKey, run_underlying hK, ho]
  have hg : (getObj r).run P w = .ok (.map es clock) w := by simp [getObj, Sem.run, hb]
  have hlt : r < w.heap.size := by
    rcases Nat.lt_or_ge r w.heap.size with hlt | hge
    · exact hlt
    · rw [Array.getElem?_eq_none hge] at hb; cases hb
  refine ⟨{ w with heap := w.heap.setIfInBounds r (.map (es.push { key := .int q x, val := v, born := clock }) (clock + 1)) }, ?_, ⟨es.push { key := .int q x, val := v, born := clock }, clock + 1, ?_, ?_⟩, rfl, rfl, rfl, by simp, ?_⟩
  · unfold Instr.mapUpdate
    simp only [Sem.run_bind, run_underlying hT, Result.andThen, hg, hc, hf]
    simp [setObj, Sem.run, hb]
  · simp [hlt]
  · simp [hes]
  · intro k _ hne
    have hrk : r ≠ k := fun e => hne (e ▸ rfl)
    exact Array.getElem?_setIfInBounds_ne hrk

theorem wpList_mapUpdate_fn {P : Program} (w : World) {ops : Array Oper} {rest : List Oper} {o : Oper} {a : Act} {Q : Exit → Act → World → Prop}
    (hgd : o.guard = none) (m x v : Operand) (T : TypeId) (hop : o.op = Op.mapUpdate T m x v) {K E : TypeId} {q : IntKind} (hT : P.underlying T = some (.map K E)) (hK : P.underlying K = some (.int q))
    {r : Nat} {kvs : List (Int × Value)} (hm : a.eval m = .map (some r)) (h : MapOf w q r kvs) (k : Int) (val : Value) (hx : a.eval x = .int q k) (hv : a.eval v = val) (hn : kvs.find? (fun p => p.1 == k) = none)
    (hQ : ∀ w', MapOf w' q r (kvs ++ [(k, val)]) → w.grownBy w' (some r) → wpList P ops Q rest (a.put o.dst undef) w') : wpList P ops Q (o :: rest) a w := by
  refine wpList_plain hgd fun K' hK' => ?_
  obtain ⟨w', hrun, r1, r2⟩ := run_update_fn hT hK h k val hn
  unfold Oper.wp
  simp [execOp, hop, hm, hx, hv, hrun, Result.andThen]
  exact hK' _ _ (hQ w' r1 r2)

theorem wpList_insert_fn {P : Program} (w : World) {ops : Array Oper} {rest : List Oper} {o : Oper} {a : Act} {Q : Exit → Act → World → Prop}
    (hgd : o.guard = none) (m x v : Operand) (T : TypeId) (hop : o.op = Op.insert T m x v) {K E : TypeId} {q : IntKind} (hT : P.underlying T = some (.map K E)) (hK : P.underlying K = some (.int q))
    {r : Nat} {kvs : List (Int × Value)} (hm : a.eval m = .map (some r)) (h : MapOf w q r kvs) (k : Int) (val : Value) (hx : a.eval x = .int q k) (hv : a.eval v = val) (hn : kvs.find? (fun p => p.1 == k) = none)
    (hQ : ∀ w', MapOf w' q r (kvs ++ [(k, val)]) → w.grownBy w' (some r) → wpList P ops Q rest (a.put o.dst undef) w') : wpList P ops Q (o :: rest) a w := by
  refine wpList_plain hgd fun K' hK' => ?_
  obtain ⟨w', hrun, r1, r2⟩ := run_update_fn hT hK h k val hn
  unfold Oper.wp
  simp [execOp, hop, hm, hx, hv, hrun, Result.andThen]
  exact hK' _ _ (hQ w' r1 r2)
end Go.Proofs.YtafaanegkoolgaaGreatDoor
