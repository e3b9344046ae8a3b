/- A map from integers to function values, as it lies: lookups, entries laid anew. The program's package query, walked: rules, leaf. The program's package query, walked: leaf, part. -/
import Derived.Test.YtfijpdmkdoccjaaGreatDoorJClose2b
import Derived.Maps.Keyed
import Derived.Test.YtfijpdmkdoccjaaGreatDoorJQSize0
import Derived.Carry
import Derived.Test.YtfijpdmkdoccjaaGreatDoorJFilMath
import Derived.Test.YtfijpdmkdoccjaaGreatDoorJTms
import Derived.Laws.EntriesVeiled
namespace Go.Proofs.YtfijpdmkdoccjaaGreatDoor
open Go Go.RowKit Go.Maps Go.ChangeMaps

/-- The map's block holds these entries, in this order. -/
def MapOf (w : World) (q : IntKind) (r : Nat) (kvs : List (Int × Value)) : Prop :=
  ∃ es clock, w.heap[r]? = some (.map es clock) ∧ es.toList.map (fun e => (e.key, e.val)) = kvs.map (fun p => (Value.int q p.1, p.2))

theorem MapOf.later {w w' : World} {q : IntKind} {r : Nat} {kvs : List (Int × Value)} (h : MapOf w q r kvs) (hb : Below w.heap.size w w') : MapOf w' q r kvs := by
  obtain ⟨es, cl, h1, h2⟩ := h
  refine ⟨es, cl, ?_, h2⟩
  rw [hb.block r (Array.getElem?_eq_some_iff.1 h1).1]; exact h1
theorem findNow_ints (q : IntKind) (x : Int) : ∀ (kvs : List (Int × Value)) (es : List MapEntry) (i : Nat), es.map (fun e => (e.key, e.val)) = kvs.map (fun p => (Value.int q p.1, p.2)) →
    ∃ o, Instr.findNow (.int q) (.int q x) es i = some o ∧ o.map (·.2) = (kvs.find? (fun p => p.1 == x)).map (·.2)
  | [], [], i, _ => ⟨none, rfl, rfl⟩
  | [], e :: es, i, h => by simp at h
  | p :: kvs, [], i, h => by simp at h
  | p :: kvs, e :: es, i, h => by
    simp only [List.map_cons, List.cons.injEq, Prod.mk.injEq] at h
    obtain ⟨⟨hk, hv⟩, ht⟩ := h
    unfold Instr.findNow
    rw [hk]
    simp only [Instr.sameNow, if_true]
    by_cases hx : x = p.1
    · subst hx
      refine ⟨some (i, e.val), by simp, ?_⟩
      simp [hv]
    · have h1 : (x == p.1) = false := by simpa using hx
      have h2 : (p.1 == x) = false := by simpa using Ne.symm hx
      rw [h1]
      obtain ⟨o, ho, hm⟩ := findNow_ints q x kvs es (i + 1) ht
      exact ⟨o, ho, by rw [hm, List.find?_cons, h2]⟩

theorem run_lookup_fn {P : Program} {T K E : TypeId} {q : IntKind} (hT : P.underlying T = some (.map K E)) (hK : P.underlying K = some (.int q)) {z : Value} {w : World} (hz : (zeroValue E).run P w = .ok z w)
    {r : Nat} {kvs : List (Int × Value)} (h : MapOf w q r kvs) (x : Int) :
    (Instr.lookup T (.map (some r)) (.int q x) false).run P w = .ok (((kvs.find? (fun p => p.1 == x)).map (·.2)).getD z) w := by
  obtain ⟨es, clock, hb, hes⟩ := h
  obtain ⟨o, ho, hm⟩ := findNow_ints q x kvs es.toList 0 hes
  have hc : (Instr.checkKey es.isEmpty 10000 K (.int q x)).run P w = .ok () w := by
    have := Go.MapKept.run_checkKey (P := P) (w := w) (k := .int q x) hK (show Go.MapKept.IsKey (.int q) (.int q x) from rfl) es.isEmpty 9999
    exact this
  have hf : (Instr.findKey K (.int q x) es.toList).run P w = .ok o w := by
    simp [Instr.findKey, run_underlying hK, ho]
  have hg : (getObj r).run P w = .ok (.map es clock) w := by simp [getObj, Sem.run, hb]
  unfold Instr.lookup
  simp only [Sem.run_bind, run_underlying hT, Result.andThen, hg, Sem.run_pure, hc, hf]
  rw [← hm]
  cases o with
  | none => simp [hz]
  | some p => simp

theorem run_lookup_fn2 {P : Program} {T K E : TypeId} {q : IntKind} (hT : P.underlying T = some (.map K E)) (hK : P.underlying K = some (.int q)) {z : Value} {w : World} (hz : (zeroValue E).run P w = .ok z w)
    {r : Nat} {kvs : List (Int × Value)} (h : MapOf w q r kvs) (x : Int) :
    (Instr.lookup T (.map (some r)) (.int q x) true).run P w = .ok (.tuple #[((kvs.find? (fun p => p.1 == x)).map (·.2)).getD z, .bool (kvs.find? (fun p => p.1 == x)).isSome]) w := by
  obtain ⟨es, clock, hb, hes⟩ := h
  obtain ⟨o, ho, hm⟩ := findNow_ints q x kvs es.toList 0 hes
  have hc : (Instr.checkKey es.isEmpty 10000 K (.int q x)).run P w = .ok () w := by
    have := Go.MapKept.run_checkKey (P := P) (w := w) (k := .int q x) hK (show Go.MapKept.IsKey (.int q) (.int q x) from rfl) es.isEmpty 9999
    exact this
  have hf : (Instr.findKey K (.int q x) es.toList).run P w = .ok o w := by
    simp [Instr.findKey, run_underlying hK, ho]
  have hg : (getObj r).run P w = .ok (.map es clock) w := by simp [getObj, Sem.run, hb]
  have hs : (kvs.find? (fun p => p.1 == x)).isSome = o.isSome := by
    cases o <;> cases hh : kvs.find? (fun p => p.1 == x) <;> simp [hh] at hm ⊢
  unfold Instr.lookup
  simp only [Sem.run_bind, run_underlying hT, Result.andThen, hg, Sem.run_pure, hc, hf]
  rw [← hm, hs]
  cases o with
  | none => simp [hz]
  | some p => simp

theorem run_update_fn {P : Program} {T K E : TypeId} {q : IntKind} (hT : P.underlying T = some (.map K E)) (hK : P.underlying K = some (.int q)) {w : World}
    {r : Nat} {kvs : List (Int × Value)} (h : MapOf w q r kvs) (x : Int) (v : Value) (hx : kvs.find? (fun p => p.1 == x) = none) :
    ∃ w', (Instr.mapUpdate T (.map (some r)) (.int q x) v).run P w = .ok () w' ∧ MapOf w' q r (kvs ++ [(x, v)]) ∧ w.grownBy w' (some r) := by
  obtain ⟨es, clock, hb, hes⟩ := h
  obtain ⟨o, ho, hm⟩ := findNow_ints q x kvs es.toList 0 hes
  rw [hx] at hm
  have ho2 : o = none := by cases o with | none => rfl | some p => simp at hm
  subst ho2
  have hc : (Instr.checkKey false 10000 K (.int q x)).run P w = .ok () w := by
    have := Go.MapKept.run_checkKey (P := P) (w := w) (k := .int q x) hK (show Go.MapKept.IsKey (.int q) (.int q x) from rfl) false 9999
    exact this
  have hf : (Instr.findKey K (.int q x) es.toList).run P w = .ok none w := by
    simp [Instr.findKey, run_underlying hK, ho]
  have hg : (getObj r).run P w = .ok (.map es clock) w := by simp [getObj, Sem.run, hb]
  have hlt : r < w.heap.size := by
    rcases Nat.lt_or_ge r w.heap.size with hlt | hge
    · exact hlt
    · rw [Array.getElem?_eq_none hge] at hb; cases hb
  refine ⟨{ w with heap := w.heap.setIfInBounds r (.map (es.push { key := .int q x, val := v, born := clock }) (clock + 1)) }, ?_, ⟨es.push { key := .int q x, val := v, born := clock }, clock + 1, ?_, ?_⟩, rfl, rfl, rfl, by simp, ?_⟩
  · unfold Instr.mapUpdate
    simp only [Sem.run_bind, run_underlying hT, Result.andThen, hg, hc, hf]
    simp [setObj, Sem.run, hb]
  · simp [hlt]
  · simp [hes]
  · intro k _ hne
    have hrk : r ≠ k := fun e => hne (e ▸ rfl)
    exact Array.getElem?_setIfInBounds_ne hrk

theorem wpList_mapUpdate_fn {P : Program} (w : World) {ops : Array Oper} {rest : List Oper} {o : Oper} {a : Act} {Q : Exit → Act → World → Prop}
    (hgd : o.guard = none) (m x v : Operand) (T : TypeId) (hop : o.op = Op.mapUpdate T m x v) {K E : TypeId} {q : IntKind} (hT : P.underlying T = some (.map K E)) (hK : P.underlying K = some (.int q))
    {r : Nat} {kvs : List (Int × Value)} (hm : a.eval m = .map (some r)) (h : MapOf w q r kvs) (k : Int) (val : Value) (hx : a.eval x = .int q k) (hv : a.eval v = val) (hn : kvs.find? (fun p => p.1 == k) = none)
    (hQ : ∀ w', MapOf w' q r (kvs ++ [(k, val)]) → w.grownBy w' (some r) → wpList P ops Q rest (a.put o.dst undef) w') : wpList P ops Q (o :: rest) a w := by
  refine wpList_plain hgd fun K' hK' => ?_
  obtain ⟨w', hrun, r1, r2⟩ := run_update_fn hT hK h k val hn
  unfold Oper.wp
  simp [execOp, hop, hm, hx, hv, hrun, Result.andThen]
  exact hK' _ _ (hQ w' r1 r2)

theorem wpList_insert_fn {P : Program} (w : World) {ops : Array Oper} {rest : List Oper} {o : Oper} {a : Act} {Q : Exit → Act → World → Prop}
    (hgd : o.guard = none) (m x v : Operand) (T : TypeId) (hop : o.op = Op.insert T m x v) {K E : TypeId} {q : IntKind} (hT : P.underlying T = some (.map K E)) (hK : P.underlying K = some (.int q))
    {r : Nat} {kvs : List (Int × Value)} (hm : a.eval m = .map (some r)) (h : MapOf w q r kvs) (k : Int) (val : Value) (hx : a.eval x = .int q k) (hv : a.eval v = val) (hn : kvs.find? (fun p => p.1 == k) = none)
    (hQ : ∀ w', MapOf w' q r (kvs ++ [(k, val)]) → w.grownBy w' (some r) → wpList P ops Q rest (a.put o.dst undef) w') : wpList P ops Q (o :: rest) a w := by
  refine wpList_plain hgd fun K' hK' => ?_
  obtain ⟨w', hrun, r1, r2⟩ := run_update_fn hT hK h k val hn
  unfold Oper.wp
  simp [execOp, hop, hm, hx, hv, hrun, Result.andThen]
  exact hK' _ _ (hQ w' r1 r2)
end Go.Proofs.YtfijpdmkdoccjaaGreatDoor
namespace Go.Proofs.YtfijpdmkdoccjaaGreatDoor
open Go Go.RowKit Go.Maps Go.ChangeMaps Um Fm

def ruleV (a b : Int) (q : Bool) : Value := .agg #[.int .i64 a, .int .i64 b, .bool q]
def rulesL : List (Int × Value) := [(3, ruleV 1 1 false), (4, ruleV 2 40 false), (5, ruleV 2 40 false)] ++ ([6, 7, 8, 9, 10, 11].map fun k => ((k : Int), ruleV 2 2 true)) ++ ([12, 13, 14].map fun k => ((k : Int), ruleV 1 1 true))
def RulesR (w : World) (e : Ending) (w' : World) : Prop := ∃ r, e = .returned (.map (some r)) ∧ MapOf w' .i64 r rulesL ∧ w.heap.size ≤ r ∧ Below w.heap.size w w'
def six (j : Nat) : List (Int × Value) := (([6, 7, 8, 9, 10, 11] : List Int).take j).map fun k => (k, ruleV 2 2 true)
def three (j : Nat) : List (Int × Value) := (([12, 13, 14] : List Int).take j).map fun k => (k, ruleV 1 1 true)
def kv0 : List (Int × Value) := [(3, ruleV 1 1 false), (4, ruleV 2 40 false), (5, ruleV 2 40 false)]
theorem six_fresh : ∀ j, j < 6 → (kv0 ++ six j).find? (fun p => p.1 == (6 + (j : Int))) = none
  | 0, _ => rfl
  | 1, _ => rfl
  | 2, _ => rfl
  | 3, _ => rfl
  | 4, _ => rfl
  | 5, _ => rfl
  | n + 6, h => by omega
theorem six_snoc : ∀ j, j < 6 → six (j + 1) = six j ++ [(6 + (j : Int), ruleV 2 2 true)]
  | 0, _ => rfl
  | 1, _ => rfl
  | 2, _ => rfl
  | 3, _ => rfl
  | 4, _ => rfl
  | 5, _ => rfl
  | n + 6, h => by omega
theorem three_fresh : ∀ j, j < 3 → (kv0 ++ six 6 ++ three j).find? (fun p => p.1 == (12 + (j : Int))) = none
  | 0, _ => rfl
  | 1, _ => rfl
  | 2, _ => rfl
  | n + 3, h => by omega
theorem three_snoc : ∀ j, j < 3 → three (j + 1) = three j ++ [(12 + (j : Int), ruleV 1 1 true)]
  | 0, _ => rfl
  | 1, _ => rfl
  | 2, _ => rfl
  | n + 3, h => by omega
end Go.Proofs.YtfijpdmkdoccjaaGreatDoor
namespace Go.Proofs.YtfijpdmkdoccjaaGreatDoor
open Go Go.RowKit Go.Maps Go.ChangeMaps Go.Shelf Um Fm

def leafK (k : Int) : Bool := k == 1 || k == 2
def leafB : (n : Nat) → ExT n → Bool
  | 0, _ => false
  | _ + 1, (k, _, _, _) => leafK k
theorem rd_spell {n : Nat} {w : World} {cs : List Value} {x : ExT n} (h : RdE n w cs x) : ∃ (k : Int) (s : ByteArray) (t : Tm) (A : Option Addr) (m c : Nat), cs = [.int .i64 k, .string s, .int .i64 t.k, .string t.x, .string t.l, .string t.y, .slice A m c] ∧ leafB n x = leafK k := by
  match n, x, h with
  | n + 1, (k, s, t, kids), ⟨A, c, h, _⟩ => exact ⟨k, s, t, A, _, c, h, rfl⟩
def FnSays (F : FuncId) (caps : Array Value) (n : Nat) (p : ExT n → Bool) (w : World) (x : ExT n) : Prop :=
  ∀ (cs : List Value) (W : World), Below w.heap.size w W → RdE n W cs x → Calls Tryz.prog F (#[.agg cs.toArray] ++ caps) W fun e w' => e = .returned (.bool (p x)) ∧ Below W.heap.size W w'
set_option maxRecDepth 10000 in
set_option maxHeartbeats 1000000 in
theorem idxExpr (F : FuncId) (caps : Array Value) (eg : ∀ args W, (callFunc F args).run Tryz.prog W = .ok (.enter F args) W) (n : Nat) (p : ExT n → Bool) (l : List (ExT n)) (A : Option Addr) (c : Nat) (w : World) (hl : l.length ≤ 1353245080300) (hr : RdEs n w A l)
    (hS : ∀ x ∈ l, FnSays F caps n p w x) :
    Calls Tryz.prog 90 #[.slice A l.length c, .func (.func F) #[] caps] w fun e w' => ∃ i : Int, e = .returned (.int .i64 i) ∧ IdxIs i (l.any p) ∧ Below w.heap.size w w' := by
  have hl' : (l.length : Int) ≤ 1353245080300 := by omega
  go_enter Tryz.func90, Tryz.ntmps90
  go_wp2
  go_loopw [8] (fun i wr => ∃ k : Nat, k ≤ l.length ∧ i = .int .i64 k ∧ Hid (l.any p = (l.drop k).any p) ∧ Below w.heap.size w wr) (fun i _ => l.length - (intOf i).toNat)
  case atStart => exact ⟨0, by omega, rfl, rfl, Below.refl _ _⟩
  case round =>
    obtain ⟨k, hk, rfl, H, hB⟩ := hrel
    by_cases hlt : k < l.length
    · obtain ⟨y, hx⟩ : ∃ x, l[k]? = some x := ⟨_, List.getElem?_eq_getElem hlt⟩
      obtain ⟨g, o, k', s', t', A', m', d', rfl, hR, c0, c1, c2, c3, c4, c5, c6⟩ := (RdEs.later hr hB).atv hx
      have hd := drop_cons_of hx
      have hc := hS y (List.mem_of_getElem? hx) _ wr hB hR
      have H2 : Hid (l.any p = (p y || (l.drop (k+1)).any p)) := by
        show _ = _
        rw [H.out, hd, List.any_cons]
      have HBB := Lib.hid hB
      clear hx hd H hr hR hS hB
      generalize p y = q at *
      cases q
      · go_wp2_with (go_at_fn F; refine hc.mono ?_; rintro e w1 ⟨rfl, hb1⟩)
        go_roundw
        case rel => exact ⟨k+1, by omega, by go_num, by show _ = _; rw [H2.out]; rfl, below_tr HBB.out hb1⟩
        case measure => simp [intOf]; omega
      · go_wp2_with (go_at_fn F; refine hc.mono ?_; rintro e w1 ⟨rfl, hb1⟩)
        go_ret
        exact ⟨k, rfl, by show decide _ = _; rw [H2.out]; simp, below_tr HBB.out hb1⟩
    · have H2 : Hid (l.any p = false) := by
        show _ = _
        rw [H.out, List.drop_eq_nil_of_le (by omega)]; rfl
      clear H hS hr
      go_wp2
      go_ret
      exact ⟨-1, rfl, by show decide _ = _; rw [H2.out]; rfl, hB⟩
theorem hasExpr (F : FuncId) (caps : Array Value) (eg : ∀ args W, (callFunc F args).run Tryz.prog W = .ok (.enter F args) W) (n : Nat) (p : ExT n → Bool) (l : List (ExT n)) (A : Option Addr) (c : Nat) (w : World) (hl : l.length ≤ 1353245080300) (hr : RdEs n w A l)
    (hS : ∀ x ∈ l, FnSays F caps n p w x) :
    Calls Tryz.prog 62 #[.slice A l.length c, .func (.func F) #[] caps] w fun e w' => e = .returned (.bool (l.any p)) ∧ Below w.heap.size w w' := by
  have hi := idxExpr F caps eg n p l A c w hl hr hS
  clear hr hS
  go_enter Tryz.func62, Tryz.ntmps62
  go_wp2_with (go_at_call 90; refine hi.mono ?_; rintro e w1 ⟨i, rfl, hd, hb1⟩; have Hd := Lib.hid hd; clear hd)
  go_ret
  exact ⟨by have := Hd.out; unfold IdxIs at this; rw [← this]; rfl, hb1⟩

/-! part -/
set_option maxRecDepth 10000 in
theorem run_eqTm (a b : Tm) (W : World) : (binOp .eql 28 (.agg #[.int .i64 a.k, .string a.x, .string a.l, .string a.y]) (.agg #[.int .i64 b.k, .string b.x, .string b.l, .string b.y])).run Tryz.prog W = .ok (.bool (sameTm a b)) W := by
  have hu := Tryz.underlying28
  have hk := Tryz.underlying26
  have hs := Tryz.underlying9
  simp only [go_sem, hu]
  simp [go_sem, hu, hk, hs]
  unfold sameTm
  by_cases h1 : a.k = b.k
  · by_cases h2 : a.x.toList = b.x.toList
    · by_cases h3 : a.l.toList = b.l.toList
      · by_cases h4 : a.y.toList = b.y.toList <;> simp [h1, h2, h3, h4]
      · simp [h1, h2, h3]
    · simp [h1, h2]
  · simp [h1]
theorem sameTm_zero (t : Tm) : sameTm t zTm = zeroB t := by
  have e : (⟨#[]⟩ : ByteArray).toList = [] := by rw [ByteArray.toList_eq]
  have b : ∀ l : List UInt8, (l == []) = l.isEmpty := fun l => by cases l <;> rfl
  unfold sameTm zeroB zTm
  simp only [e, b]

def ruleOf (k : Int) : Option (Int × Int × Bool) := if k == 3 then some (1, 1, false) else if k == 4 || k == 5 then some (2, 40, false) else if decide (6 ≤ k) && decide (k ≤ 11) then some (2, 2, true) else if decide (12 ≤ k) && decide (k ≤ 14) then some (1, 1, true) else none
def ruleVO (o : Option (Int × Int × Bool)) : Value := match o with | some (a, b, q) => .tuple #[ruleV a b q, .bool true] | none => .tuple #[ruleV 0 0 false, .bool false]
theorem rulesL_find (k : Int) : Value.tuple #[((rulesL.find? (fun p => p.1 == k)).map (·.2)).getD (ruleV 0 0 false), .bool (rulesL.find? (fun p => p.1 == k)).isSome] = ruleVO (ruleOf k) := by
  by_cases h : 3 ≤ k ∧ k ≤ 14
  · obtain ⟨n, rfl⟩ : ∃ n : Nat, k = n := ⟨k.toNat, by omega⟩
    have hn : n < 15 := by omega
    have hn0 : 2 < n := by omega
    clear h
    match n, hn, hn0 with
    | 3, _, _ => rfl
    | 4, _, _ => rfl
    | 5, _, _ => rfl
    | 6, _, _ => rfl
    | 7, _, _ => rfl
    | 8, _, _ => rfl
    | 9, _, _ => rfl
    | 10, _, _ => rfl
    | 11, _, _ => rfl
    | 12, _, _ => rfl
    | 13, _, _ => rfl
    | 14, _, _ => rfl
  · have hne : rulesL.find? (fun p => p.1 == k) = none := by
      rw [List.find?_eq_none]
      intro p hp
      have hp2 : p.1 ∈ rulesL.map (·.1) := List.mem_map_of_mem hp
      rw [show rulesL.map (·.1) = [3, 4, 5, 6, 7, 8, 9, 10, 11, 12, 13, 14] from rfl] at hp2
      simp only [List.mem_cons, List.not_mem_nil, or_false] at hp2
      simp only [beq_iff_eq]
      omega
    have hr : ruleOf k = none := by
      unfold ruleOf
      have h3 : (k == 3) = false := by simp; omega
      have h4 : (k == 4) = false := by simp; omega
      have h5 : (k == 5) = false := by simp; omega
      have h6 : (decide (6 ≤ k) && decide (k ≤ 11)) = false := by simp; omega
      have h7 : (decide (12 ≤ k) && decide (k ≤ 14)) = false := by simp; omega
      simp [h3, h4, h5, h6, h7]
    rw [hne, hr]; rfl
def partK (k : Int) (s : ByteArray) (t : Tm) (m : Nat) (inner : Bool) : Bool :=
  if leafK k then m == 0 && ((k == 1 && nameB s && zeroB t) || (k == 2 && s.toList.isEmpty && toldB t))
  else match ruleOf k with
    | none => false
    | some (a, b, q) => s.toList.isEmpty && zeroB t && decide (a ≤ m) && decide ((m : Int) ≤ b) && !(q && inner)
def partB : (n : Nat) → ExT n → Bool
  | 0, _ => false
  | n + 1, (k, s, t, kids) => partK k s t kids.length (kids.any fun y => !leafB n y)
end Go.Proofs.YtfijpdmkdoccjaaGreatDoor
