/- Patterns' variables, conditions' variables, in plain words. The program's package query, walked: parts, within a fence. A map from integers to function values, as it lies: lookups, entries laid anew. The program's package query, walked: rules, leaf. -/
import Derived.Test.YtefjhehgpkljcaaGreatDoorJQWalk
import Derived.Test.YtefjhehgpkljcaaGreatDoorJMetMath
import Derived.RangeFuncFrom
import Derived.Maps.Keyed
import Derived.Test.YtefjhehgpkljcaaGreatDoorJQSlot
import Derived.Carry
namespace Go.Proofs.YtefjhehgpkljcaaGreatDoor
open Go Go.RowKit Um Fm Mt

/-- The names of places that have one. -/
def occS (l : List Sl) : List ByteArray := (l.map (·.v)).filter fun v => !v.toList.isEmpty
def occP (p : Pat) : List ByteArray := occS [p.s, p.p, p.o]
def varsN (l : List Pat) : List ByteArray := metsN [] (l.flatMap occP)
theorem occS_cons (x : Sl) (l : List Sl) : occS (x :: l) = (if x.v.toList.isEmpty then [] else [x.v]) ++ occS l := by
  unfold occS
  rw [List.map_cons, List.filter_cons]
  cases x.v.toList.isEmpty <;> simp
theorem occS_len (l : List Sl) : (occS l).length ≤ l.length := by
  unfold occS
  exact Nat.le_trans (List.length_filter_le _ _) (by simp)
theorem occP_len (p : Pat) : (occP p).length ≤ 3 := occS_len _
theorem occ_len : ∀ l : List Pat, (l.flatMap occP).length ≤ 3 * l.length
  | [] => by simp
  | p :: l => by
    have h1 := occ_len l
    have h2 := occP_len p
    rw [List.flatMap_cons, List.length_append, List.length_cons]; omega
theorem varsN_len (l : List Pat) : (varsN l).length ≤ 3 * l.length := by
  have h1 := metsN_len (l.flatMap occP) []
  have h2 := occ_len l
  unfold varsN
  rw [List.length_nil] at h1; omega
theorem varsN_more (l : List Pat) (p : Pat) : ∃ r, varsN (l ++ [p]) = varsN l ++ r ∧ r.length ≤ 3 := by
  unfold varsN
  rw [List.flatMap_append, metsN_app]
  obtain ⟨r, h, k⟩ := metsN_ext ([p].flatMap occP) (metsN [] (l.flatMap occP))
  have := occP_len p
  exact ⟨r, h, by rw [List.flatMap_cons, List.flatMap_nil, List.append_nil] at k; omega⟩
theorem varsN_turn (l : List Pat) : (varsN l.reverse).length = (varsN l).length := mets_same fun x => by simp
theorem varsN_mem {l : List Pat} {x : ByteArray} : x ∈ varsN l ↔ ∃ p ∈ l, x ∈ occP p := by
  unfold varsN; rw [metsN_mem]; simp
theorem varsN_turn_mem {l : List Pat} {x : ByteArray} : x ∈ varsN l.reverse ↔ x ∈ varsN l := by rw [varsN_mem, varsN_mem]; simp
theorem occS_ne {l : List Sl} {x : ByteArray} (h : x ∈ occS l) : x.toList.isEmpty = false := by
  unfold occS at h
  simpa using (List.mem_filter.1 h).2
theorem varsN_ne {l : List Pat} {x : ByteArray} (h : x ∈ varsN l) : x.toList.isEmpty = false := by
  obtain ⟨p, _, hp⟩ := varsN_mem.1 h
  exact occS_ne hp
theorem varsN_nodup (l : List Pat) : (varsN l).Nodup := metsN_nodup _ List.nodup_nil
/-- The names of parts that are variables. -/
def ptV : Pt → List ByteArray
  | ⟨0, _⟩ => []
  | ⟨_ + 1, (k, s, _, _)⟩ => if k == 1 then [s] else []
def usedN (n : Nat) (l : List (ExT n)) : List ByteArray := metsN [] ((l.flatMap (preE n)).flatMap ptV)
theorem usedN_nodup (n : Nat) (l : List (ExT n)) : (usedN n l).Nodup := metsN_nodup _ List.nodup_nil
theorem ptV_len (p : Pt) : (ptV p).length ≤ 1 := by
  obtain ⟨n, x⟩ := p
  cases n with
  | zero => simp [ptV]
  | succ n => obtain ⟨k, s, t, kids⟩ := x; simp only [ptV]; split <;> simp
/-- How many there are so far. -/
def nAt (pre : List ByteArray) : Nat := (metsN [] pre).length
theorem occ_empty {x : Sl} (r : List Sl) (h : x.v.toList.isEmpty = true) : occS (x :: r) = occS r := by rw [occS_cons, h]; rfl
theorem occ_named {x : Sl} (r : List Sl) (h : x.v.toList.isEmpty = false) : occS (x :: r) = x.v :: occS r := by rw [occS_cons, h]; rfl
theorem nAt_take {all pre post : List ByteArray} (h : all = pre ++ post) : (metsN [] all).take (nAt pre) = metsN [] pre ∧ nAt pre ≤ (metsN [] all).length := by
  subst h
  refine ⟨mets_take _ _, ?_⟩
  obtain ⟨r, hr, _⟩ := metsN_ext post (metsN [] pre)
  unfold nAt
  rw [metsN_app, hr, List.length_append]; omega
theorem nAt_has {pre : List ByteArray} {s : ByteArray} (h : hasS (metsN [] pre) s = true) : nAt (pre ++ [s]) = nAt pre := by
  unfold nAt; rw [metsN_app, metsN_one, metN_has h]
theorem nAt_new {all pre post : List ByteArray} {s : ByteArray} (h : all = pre ++ s :: post) (hs : hasS (metsN [] pre) s = false) : (metsN [] all)[nAt pre]? = some s ∧ nAt pre < (metsN [] all).length ∧ nAt (pre ++ [s]) = nAt pre + 1 := by
  have e : all = pre ++ [s] ++ post := by rw [h]; simp
  subst e
  refine ⟨(mets_next hs).1, (mets_next hs).2, ?_⟩
  unfold nAt; rw [metsN_app, metsN_one, metN_new hs]; simp
theorem ptV_flat : ∀ l : List Pt, (l.flatMap ptV).length ≤ l.length
  | [] => by simp
  | p :: l => by have h1 := ptV_flat l; have h2 := ptV_len p; rw [List.flatMap_cons, List.length_append, List.length_cons]; omega
theorem usedN_len (n : Nat) (l : List (ExT n)) : (usedN n l).length ≤ (l.flatMap (preE n)).length := by
  have h1 := metsN_len ((l.flatMap (preE n)).flatMap ptV) []
  have h2 := ptV_flat (l.flatMap (preE n))
  rw [List.length_nil] at h1
  unfold usedN; omega
end Go.Proofs.YtefjhehgpkljcaaGreatDoor
namespace Go.Proofs.YtefjhehgpkljcaaGreatDoor
open Go Go.RowKit Go.Shelf Um Fm
attribute [local go_sem] Oper.semAt_some

theorem Kb.set {h : Nat → Obj → Bool} {S b : Nat} {w : World} {i : Nat} (v : Value) (h1 : ∀ o, h b o = true) : Kb h S w (w.setCell ⟨b, i, none⟩ v) := by
  have hne : ∀ k, k ≠ b → (w.setCell ⟨b, i, none⟩ v).heap[k]? = w.heap[k]? := fun k hk => Below.heap_setCell _ _ _ k hk
  refine .of_blocks (fun k o ho hn _ => ?_) (KeepsWalks.setCell w _ v).size
  rw [hne k (by intro e; rw [e, h1] at hn; cases hn)]; exact ho

set_option maxHeartbeats 1000000 in
theorem qParts_in (F : Fence) (m : Nat) (h4 : F.fn 156) (hro : F.round = none) (a : Option Addr) (len cap : Nat) (w : World) :
    CallsIn F m Tryz.prog 156 #[.slice a len cap] w fun e w' => e = .returned (.func (.func 184) #[] #[.pointer (some ⟨w.heap.size, 0, none⟩)]) ∧ w' = w.alloc (.cells #[.slice a len cap] 29) := by
  refine callsIn_of_wp Tryz.func156 rfl h4 ?_ hro
  simp only [Tryz.ntmps156, List.size_toArray, List.length_cons, List.length_nil, Nat.reduceAdd, Nat.reduceSub, Array.replicate_succ, Array.replicate_zero, List.push_toArray, List.append_toArray, List.nil_append, List.cons_append]
  gi_wp2
  go_ret
  exact ⟨rfl, rfl⟩
end Go.Proofs.YtefjhehgpkljcaaGreatDoor
namespace Go.Proofs.YtefjhehgpkljcaaGreatDoor
open Go Go.RowKit Go.Maps Go.ChangeMaps

/-- The map's block holds these entries, in this order. -/
def MapOf (w : World) (q : IntKind) (r : Nat) (kvs : List (Int × Value)) : Prop :=
  ∃ es clock, w.heap[r]? = some (.map es clock) ∧ es.toList.map (fun e => (e.key, e.val)) = kvs.map (fun p => (Value.int q p.1, p.2))

theorem MapOf.later {w w' : World} {q : IntKind} {r : Nat} {kvs : List (Int × Value)} (h : MapOf w q r kvs) (hb : Below w.heap.size w w') : MapOf w' q r kvs := by
  obtain ⟨es, cl, h1, h2⟩ := h
  refine ⟨es, cl, ?_, h2⟩
  rw [hb.block r (Array.getElem?_eq_some_iff.1 h1).1]; exact h1
theorem findNow_ints (q : IntKind) (x : Int) : ∀ (kvs : List (Int × Value)) (es : List MapEntry) (i : Nat), es.map (fun e => (e.key, e.val)) = kvs.map (fun p => (Value.int q p.1, p.2)) →
    ∃ o, Instr.findNow (.int q) (.int q x) es i = some o ∧ o.map (·.2) = (kvs.find? (fun p => p.1 == x)).map (·.2)
  | [], [], i, _ => ⟨none, rfl, rfl⟩
  | [], e :: es, i, h => by simp at h
  | p :: kvs, [], i, h => by simp at h
  | p :: kvs, e :: es, i, h => by
    simp only [List.map_cons, List.cons.injEq, Prod.mk.injEq] at h
    obtain ⟨⟨hk, hv⟩, ht⟩ := h
    unfold Instr.findNow
    rw [hk]
    simp only [Instr.sameNow, if_true]
    by_cases hx : x = p.1
    · subst hx
      refine ⟨some (i, e.val), by simp, ?_⟩
      simp [hv]
    · have h1 : (x == p.1) = false := by simpa using hx
      have h2 : (p.1 == x) = false := by simpa using Ne.symm hx
      rw [h1]
      obtain ⟨o, ho, hm⟩ := findNow_ints q x kvs es (i + 1) ht
      exact ⟨o, ho, by rw [hm, List.find?_cons, h2]⟩

theorem run_lookup_fn {P : Program} {T K E : TypeId} {q : IntKind} (hT : P.underlying T = some (.map K E)) (hK : P.underlying K = some (.int q)) {z : Value} {w : World} (hz : (zeroValue E).run P w = .ok z w)
    {r : Nat} {kvs : List (Int × Value)} (h : MapOf w q r kvs) (x : Int) :
    (Instr.lookup T (.map (some r)) (.int q x) false).run P w = .ok (((kvs.find? (fun p => p.1 == x)).map (·.2)).getD z) w := by
  obtain ⟨es, clock, hb, hes⟩ := h
  obtain ⟨o, ho, hm⟩ := findNow_ints q x kvs es.toList 0 hes
  have hc : (Instr.checkKey es.isEmpty 10000 K (.int q x)).run P w = .ok () w := by
    have := Go.MapKept.run_checkKey (P := P) (w := w) (k := .int q x) hK (show Go.MapKept.IsKey (.int q) (.int q x) from rfl) es.isEmpty 9999
    exact this
  have hf : (Instr.findKey K (.int q x) es.toList).run P w = .ok o w := by
    simp [Instr.findKey, run_underlying hK, ho]
  have hg : (getObj r).run P w = .ok (.map es clock) w := by simp [getObj, Sem.run, hb]
  unfold Instr.lookup
  simp only [Sem.run_bind, run_underlying hT, Result.andThen, hg, Sem.run_pure, hc, hf]
  rw [← hm]
  cases o with
  | none => simp [hz]
  | some p => simp

theorem run_lookup_fn2 {P : Program} {T K E : TypeId} {q : IntKind} (hT : P.underlying T = some (.map K E)) (hK : P.underlying K = some (.int q)) {z : Value} {w : World} (hz : (zeroValue E).run P w = .ok z w)
    {r : Nat} {kvs : List (Int × Value)} (h : MapOf w q r kvs) (x : Int) :
    (Instr.lookup T (.map (some r)) (.int q x) true).run P w = .ok (.tuple #[((kvs.find? (fun p => p.1 == x)).map (·.2)).getD z, .bool (kvs.find? (fun p => p.1 == x)).isSome]) w := by
  obtain ⟨es, clock, hb, hes⟩ := h
  obtain ⟨o, ho, hm⟩ := findNow_ints q x kvs es.toList 0 hes
  have hc : (Instr.checkKey es.isEmpty 10000 K (.int q x)).run P w = .ok () w := by
    have := Go.MapKept.run_checkKey (P := P) (w := w) (k := .int q x) hK (show Go.MapKept.IsKey (.int q) (.int q x) from rfl) es.isEmpty 9999
    exact this
  have hf : (Instr.findKey K (.int q x) es.toList).run P w = .ok o w := by
    simp [Instr.findKey, run_underlying hK, ho]
  have hg : (getObj r).run P w = .ok (.map es clock) w := by simp [getObj, Sem.run, hb]
  have hs : (kvs.find? (fun p => p.1 == x)).isSome = o.isSome := by
    cases o <;> cases hh : kvs.find? (fun p => p.1 == x) <;> simp [hh] at hm ⊢
  unfold Instr.lookup
  simp only [Sem.run_bind, run_underlying hT, Result.andThen, hg, Sem.run_pure, hc, hf]
  rw [← hm, hs]
  cases o with
  | none => simp [hz]
  | some p => simp

theorem run_update_fn {P : Program} {T K E : TypeId} {q : IntKind} (hT : P.underlying T = some (.map K E)) (hK : P.underlying K = some (.int q)) {w : World}
    {r : Nat} {kvs : List (Int × Value)} (h : MapOf w q r kvs) (x : Int) (v : Value) (hx : kvs.find? (fun p => p.1 == x) = none) :
    ∃ w', (Instr.mapUpdate T (.map (some r)) (.int q x) v).run P w = .ok () w' ∧ MapOf w' q r (kvs ++ [(x, v)]) ∧ w.grownBy w' (some r) := by
  obtain ⟨es, clock, hb, hes⟩ := h
  obtain ⟨o, ho, hm⟩ := findNow_ints q x kvs es.toList 0 hes
  rw [hx] at hm
  have ho2 : o = none := by cases o with | none => rfl | some p => simp at hm
  subst ho2
  have hc : (Instr.checkKey false 10000 K (.int q x)).run P w = .ok () w := by
    have := Go.MapKept.run_checkKey (P := P) (w := w) (k := .int q x) hK (show Go.MapKept.IsKey (.int q) (.int q x) from rfl) false 9999
    exact this
  have hf : (Instr.findKey K (.int q x) es.toList).run P w = .ok none w := by
    simp [Instr.findKey, run_underlying hK, ho]
  have hg : (getObj r).run P w = .ok (.map es clock) w := by simp [getObj, Sem.run, hb]
  have hlt : r < w.heap.size := by
    rcases Nat.lt_or_ge r w.heap.size with hlt | hge
    · exact hlt
    · rw [Array.getElem?_eq_none hge] at hb; cases hb
  refine ⟨{ w with heap := w.heap.setIfInBounds r (.map (es.push { key := .int q x, val := v, born := clock }) (clock + 1)) }, ?_, ⟨es.push { key := .int q x, val := v, born := clock }, clock + 1, ?_, ?_⟩, rfl, rfl, rfl, by simp, ?_⟩
  · unfold Instr.mapUpdate
    simp only [Sem.run_bind, run_underlying hT, Result.andThen, hg, hc, hf]
    simp [setObj, Sem.run, hb]
  · simp [hlt]
  · simp [hes]
  · intro k _ hne
    have hrk : r ≠ k := fun e => hne (e ▸ rfl)
    exact Array.getElem?_setIfInBounds_ne hrk

theorem wpList_mapUpdate_fn {P : Program} (w : World) {ops : Array Oper} {rest : List Oper} {o : Oper} {a : Act} {Q : Exit → Act → World → Prop}
    (hgd : o.guard = none) (m x v : Operand) (T : TypeId) (hop : o.op = Op.mapUpdate T m x v) {K E : TypeId} {q : IntKind} (hT : P.underlying T = some (.map K E)) (hK : P.underlying K = some (.int q))
    {r : Nat} {kvs : List (Int × Value)} (hm : a.eval m = .map (some r)) (h : MapOf w q r kvs) (k : Int) (val : Value) (hx : a.eval x = .int q k) (hv : a.eval v = val) (hn : kvs.find? (fun p => p.1 == k) = none)
    (hQ : ∀ w', MapOf w' q r (kvs ++ [(k, val)]) → w.grownBy w' (some r) → wpList P ops Q rest (a.put o.dst undef) w') : wpList P ops Q (o :: rest) a w := by
  refine wpList_plain hgd fun K' hK' => ?_
  obtain ⟨w', hrun, r1, r2⟩ := run_update_fn hT hK h k val hn
  unfold Oper.wp
  simp [execOp, hop, hm, hx, hv, hrun, Result.andThen]
  exact hK' _ _ (hQ w' r1 r2)

theorem wpList_insert_fn {P : Program} (w : World) {ops : Array Oper} {rest : List Oper} {o : Oper} {a : Act} {Q : Exit → Act → World → Prop}
    (hgd : o.guard = none) (m x v : Operand) (T : TypeId) (hop : o.op = Op.insert T m x v) {K E : TypeId} {q : IntKind} (hT : P.underlying T = some (.map K E)) (hK : P.underlying K = some (.int q))
    {r : Nat} {kvs : List (Int × Value)} (hm : a.eval m = .map (some r)) (h : MapOf w q r kvs) (k : Int) (val : Value) (hx : a.eval x = .int q k) (hv : a.eval v = val) (hn : kvs.find? (fun p => p.1 == k) = none)
    (hQ : ∀ w', MapOf w' q r (kvs ++ [(k, val)]) → w.grownBy w' (some r) → wpList P ops Q rest (a.put o.dst undef) w') : wpList P ops Q (o :: rest) a w := by
  refine wpList_plain hgd fun K' hK' => ?_
  obtain ⟨w', hrun, r1, r2⟩ := run_update_fn hT hK h k val hn
  unfold Oper.wp
  simp [execOp, hop, hm, hx, hv, hrun, Result.andThen]
  exact hK' _ _ (hQ w' r1 r2)
end Go.Proofs.YtefjhehgpkljcaaGreatDoor
namespace Go.Proofs.YtefjhehgpkljcaaGreatDoor
open Go Go.RowKit Go.Maps Go.ChangeMaps Um Fm

def ruleV (a b : Int) (q : Bool) : Value := .agg #[.int .i64 a, .int .i64 b, .bool q]
def rulesL : List (Int × Value) := [(3, ruleV 1 1 false), (4, ruleV 2 40 false), (5, ruleV 2 40 false)] ++ ([6, 7, 8, 9, 10, 11].map fun k => ((k : Int), ruleV 2 2 true)) ++ ([12, 13, 14].map fun k => ((k : Int), ruleV 1 1 true))
def RulesR (w : World) (e : Ending) (w' : World) : Prop := ∃ r, e = .returned (.map (some r)) ∧ MapOf w' .i64 r rulesL ∧ w.heap.size ≤ r ∧ Below w.heap.size w w'
def six (j : Nat) : List (Int × Value) := (([6, 7, 8, 9, 10, 11] : List Int).take j).map fun k => (k, ruleV 2 2 true)
def three (j : Nat) : List (Int × Value) := (([12, 13, 14] : List Int).take j).map fun k => (k, ruleV 1 1 true)
def kv0 : List (Int × Value) := [(3, ruleV 1 1 false), (4, ruleV 2 40 false), (5, ruleV 2 40 false)]
theorem six_fresh : ∀ j, j < 6 → (kv0 ++ six j).find? (fun p => p.1 == (6 + (j : Int))) = none
  | 0, _ => rfl
  | 1, _ => rfl
  | 2, _ => rfl
  | 3, _ => rfl
  | 4, _ => rfl
  | 5, _ => rfl
  | n + 6, h => by omega
theorem six_snoc : ∀ j, j < 6 → six (j + 1) = six j ++ [(6 + (j : Int), ruleV 2 2 true)]
  | 0, _ => rfl
  | 1, _ => rfl
  | 2, _ => rfl
  | 3, _ => rfl
  | 4, _ => rfl
  | 5, _ => rfl
  | n + 6, h => by omega
theorem three_fresh : ∀ j, j < 3 → (kv0 ++ six 6 ++ three j).find? (fun p => p.1 == (12 + (j : Int))) = none
  | 0, _ => rfl
  | 1, _ => rfl
  | 2, _ => rfl
  | n + 3, h => by omega
theorem three_snoc : ∀ j, j < 3 → three (j + 1) = three j ++ [(12 + (j : Int), ruleV 1 1 true)]
  | 0, _ => rfl
  | 1, _ => rfl
  | 2, _ => rfl
  | n + 3, h => by omega
set_option maxRecDepth 20000 in
set_option maxHeartbeats 2000000 in
theorem qRules (w : World) : Calls Tryz.prog 164 #[] w (RulesR w) := by
  have hmm := @run_makeMap Tryz.prog
  have hT := Tryz.underlying183
  have hK := Tryz.underlying25
  have m0 : MapOf (w.alloc (.map #[] 0)) .i64 w.heap.size [] := ⟨#[], 0, heap_alloc_new _ _, rfl⟩
  have b0 : Below w.heap.size w (w.alloc (.map #[] 0)) := (Below.refl _ _).alloc (Nat.le_refl _) _
  have HT := Lib.hid hT
  have HK := Lib.hid hK
  clear hT hK
  go_enter Tryz.func164, Tryz.ntmps164
  go_wp2_with (first
    | (refine wpList_insert_fn _ rfl _ _ _ _ rfl HT.out HK.out rfl m0 3 (ruleV 1 1 false) rfl rfl rfl ?_; clear m0; intro w1 m1 g1; have b1 := b0.grown g1 b0.size (fun k e => by cases e; exact Nat.le_refl _))
    | (refine wpList_insert_fn _ rfl _ _ _ _ rfl HT.out HK.out rfl m1 4 (ruleV 2 40 false) rfl rfl rfl ?_; clear m1; intro w2 m2 g2; have b2 := b1.grown g2 b1.size (fun k e => by cases e; exact Nat.le_refl _))
    | (refine wpList_insert_fn _ rfl _ _ _ _ rfl HT.out HK.out rfl m2 5 (ruleV 2 40 false) rfl rfl rfl ?_; clear m2; intro w3 m3 g3; have b3 := b2.grown g3 b2.size (fun k e => by cases e; exact Nat.le_refl _)))
  have n3 : MapOf w3 .i64 w.heap.size (kv0 ++ six 0) := m3
  have HB3 := Lib.hid b3
  clear m3 b0 b1 b2 b3 g1 g2 g3 hmm
  go_loopw [2] (fun i wr => ∃ j : Nat, j ≤ 6 ∧ i = .int .i64 (6 + j) ∧ MapOf wr .i64 w.heap.size (kv0 ++ six j) ∧ Below w.heap.size w wr) (fun i _ => (12 - intOf i).toNat)
  case atStart => exact ⟨0, by omega, rfl, n3, HB3.out⟩
  case round =>
    obtain ⟨j, hj, rfl, hM, hB⟩ := hrel
    clear n3 HB3
    by_cases hlt : (j : Int) < 6
    · have hf := six_fresh j (by omega)
      have hs := six_snoc j (by omega)
      have Hs := Lib.hid hs
      clear hs
      go_wp2_with (at_mapUpdate; refine wpList_mapUpdate_fn _ rfl _ _ _ _ rfl HT.out HK.out rfl hM (6 + j) (ruleV 2 2 true) rfl rfl hf ?_; clear hM; intro w4 m4 g4)
      have hB4 := hB.grown g4 hB.size (fun k e => by cases e; exact Nat.le_refl _)
      go_roundw
      case rel => exact ⟨j + 1, by omega, by go_num, by rw [Hs.out, ← List.append_assoc]; exact m4, hB4⟩
      case measure => simp [intOf]; omega
    · obtain rfl : j = 6 := by omega
      have n4 : MapOf wr .i64 w.heap.size (kv0 ++ six 6 ++ three 0) := by simpa [three] using hM
      clear hM
      go_wp2
      go_loopw [3] (fun i wr => ∃ j : Nat, j ≤ 3 ∧ i = .int .i64 (12 + j) ∧ MapOf wr .i64 w.heap.size (kv0 ++ six 6 ++ three j) ∧ Below w.heap.size w wr) (fun i _ => (15 - intOf i).toNat)
      case atStart => exact ⟨0, by omega, rfl, n4, hB⟩
      case round =>
        rename_i wr1
        obtain ⟨j, hj, rfl, hM, hB1⟩ := hrel
        clear n4 hB
        by_cases hlt : (j : Int) < 3
        · have hf := three_fresh j (by omega)
          have hs := three_snoc j (by omega)
          have Hs := Lib.hid hs
          clear hs
          go_wp2_with (at_mapUpdate; refine wpList_mapUpdate_fn _ rfl _ _ _ _ rfl HT.out HK.out rfl hM (12 + j) (ruleV 1 1 true) rfl rfl hf ?_; clear hM; intro w4 m4 g4)
          have hB4 := hB1.grown g4 hB1.size (fun k e => by cases e; exact Nat.le_refl _)
          go_roundw
          case rel => exact ⟨j + 1, by omega, by go_num, by rw [Hs.out, ← List.append_assoc]; exact m4, hB4⟩
          case measure => simp [intOf]; omega
        · obtain rfl : j = 3 := by omega
          have hM2 := Lib.hid hM
          clear hM
          go_wp2
          go_ret
          exact ⟨_, rfl, hM2.out, Nat.le_refl _, hB1⟩
end Go.Proofs.YtefjhehgpkljcaaGreatDoor
