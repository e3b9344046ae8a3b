/- A map from texts to numbers, as it lies: lookups, numbers laid anew. -/
import Derived.Maps.Keyed
import Derived.OwnWalk
import Derived.Below
namespace Go.Proofs.YtfijpdmkdoccjaaGreatDoor.Mp
open Go Go.RowKit Go.Maps Go.ChangeMaps

def entsFrom : Nat → List (ByteArray × Int) → List MapEntry
  | _, [] => []
  | k, p :: m => { key := .string p.1, val := .int .i64 p.2, born := k } :: entsFrom (k + 1) m
theorem entsFrom_len : ∀ (k : Nat) (m : List (ByteArray × Int)), (entsFrom k m).length = m.length
  | _, [] => rfl
  | k, _ :: m => by simp [entsFrom, entsFrom_len (k + 1) m]
def ents (m : List (ByteArray × Int)) : Array MapEntry := (entsFrom 0 m).toArray
/-- A block is a map of these texts and numbers. -/
def CntOf (w : World) (r : Nat) (m : List (ByteArray × Int)) : Prop := w.heap[r]? = some (.map (ents m) m.length)
def lookI : List (ByteArray × Int) → ByteArray → Int
  | [], _ => 0
  | p :: m, s => if p.1 = s then p.2 else lookI m s
def idxM : List (ByteArray × Int) → ByteArray → Option Nat
  | [], _ => none
  | p :: m, s => if p.1 = s then some 0 else (idxM m s).map (· + 1)
def setM : List (ByteArray × Int) → ByteArray → Int → List (ByteArray × Int)
  | [], s, v => [(s, v)]
  | p :: m, s, v => if p.1 = s then (s, v) :: m else p :: setM m s v
theorem look_setM (s t : ByteArray) (v : Int) : ∀ m : List (ByteArray × Int), lookI (setM m s v) t = if s = t then v else lookI m t
  | [] => by simp [setM, lookI]
  | p :: m => by
    unfold setM
    by_cases h : p.1 = s
    · rw [if_pos h]
      simp only [lookI, h]
      by_cases h2 : s = t <;> simp [h2]
    · rw [if_neg h]
      simp only [lookI]
      rw [look_setM s t v m]
      by_cases h2 : p.1 = t
      · have : ¬ s = t := fun e => h (h2.trans e.symm)
        simp [h2, this]
      · simp [h2]
theorem find_ents (s : ByteArray) : ∀ (m : List (ByteArray × Int)) (k j : Nat), Instr.findNow .string (.string s) (entsFrom k m) j = some ((idxM m s).map fun i => (j + i, .int .i64 (lookI m s)))
  | [], _, _ => rfl
  | p :: m, k, j => by
    unfold entsFrom Instr.findNow
    simp only [Instr.sameNow]
    by_cases h : p.1 = s
    · have hb : (s == p.1) = true := (MapKept.bytes_beq _ _).2 h.symm
      rw [hb]
      simp [idxM, lookI, h]
    · have hb : (s == p.1) = false := by
        cases hx : (s == p.1)
        · rfl
        · exact absurd ((MapKept.bytes_beq _ _).1 hx).symm h
      simp only [hb, idxM, lookI, h, if_false]
      rw [find_ents s m (k + 1) (j + 1)]
      cases idxM m s with
      | none => rfl
      | some i => simp; omega
theorem ents_at : ∀ (m : List (ByteArray × Int)) (k i : Nat) (s : ByteArray), idxM m s = some i → (entsFrom k m)[i]? = some { key := .string s, val := .int .i64 (lookI m s), born := k + i }
  | [], _, _, _, h => by cases h
  | p :: m, k, i, s, h => by
    unfold idxM at h
    by_cases hp : p.1 = s
    · rw [if_pos hp] at h
      obtain rfl : 0 = i := by simpa using h
      simp [entsFrom, lookI, hp]
    · rw [if_neg hp] at h
      obtain ⟨j, hj, rfl⟩ := Option.map_eq_some_iff.1 h
      simp only [entsFrom, List.getElem?_cons_succ, lookI, hp, if_false]
      rw [ents_at m (k + 1) j s hj]
      simp; omega
theorem ents_set : ∀ (m : List (ByteArray × Int)) (k i : Nat) (s : ByteArray) (v : Int), idxM m s = some i →
    (entsFrom k m).modify i (fun e => { e with val := .int .i64 v }) = entsFrom k (setM m s v) ∧ (setM m s v).length = m.length
  | [], _, _, _, _, h => by cases h
  | p :: m, k, i, s, v, h => by
    unfold idxM at h
    by_cases hp : p.1 = s
    · rw [if_pos hp] at h
      obtain rfl : 0 = i := by simpa using h
      simp [entsFrom, setM, hp]
    · rw [if_neg hp] at h
      obtain ⟨j, hj, rfl⟩ := Option.map_eq_some_iff.1 h
      obtain ⟨h1, h2⟩ := ents_set m (k + 1) j s v hj
      simp [entsFrom, setM, hp, List.modify_succ_cons, h1, h2]
theorem ents_app : ∀ (m : List (ByteArray × Int)) (k : Nat) (s : ByteArray) (v : Int), idxM m s = none →
    entsFrom k (setM m s v) = entsFrom k m ++ [{ key := .string s, val := .int .i64 v, born := k + m.length }] ∧ (setM m s v).length = m.length + 1
  | [], k, s, v, _ => by simp [entsFrom, setM]
  | p :: m, k, s, v, h => by
    unfold idxM at h
    by_cases hp : p.1 = s
    · rw [if_pos hp] at h; cases h
    · rw [if_neg hp] at h
      obtain ⟨h1, h2⟩ := ents_app m (k + 1) s v (by simpa using h)
      simp [entsFrom, setM, hp, h1, h2]; omega
theorem idx_setM : ∀ (m : List (ByteArray × Int)) (s : ByteArray) (v : Int), idxM (setM m s v) s = some ((idxM m s).getD m.length)
  | [], s, v => by simp [idxM, setM]
  | p :: m, s, v => by
    unfold setM
    by_cases hp : p.1 = s
    · simp [idxM, hp]
    · rw [if_neg hp]
      simp only [idxM, hp, if_false, idx_setM m s v]
      cases idxM m s <;> simp
theorem setM_setM : ∀ (m : List (ByteArray × Int)) (s : ByteArray) (v u : Int), setM (setM m s v) s u = setM m s u
  | [], s, v, u => by simp [setM]
  | p :: m, s, v, u => by
    by_cases hp : p.1 = s
    · simp [setM, hp]
    · simp [setM, hp, setM_setM m s v u]
theorem look_none : ∀ (m : List (ByteArray × Int)) (s : ByteArray), idxM m s = none → lookI m s = 0
  | [], _, _ => rfl
  | p :: m, s, h => by
    unfold idxM at h
    by_cases hp : p.1 = s
    · rw [if_pos hp] at h; cases h
    · rw [if_neg hp] at h
      simp only [lookI, hp, if_false]
      exact look_none m s (by simpa using h)
theorem setM_look : ∀ (m : List (ByteArray × Int)) (s : ByteArray) (i : Nat), idxM m s = some i → setM m s (lookI m s) = m
  | [], _, _, h => by cases h
  | p :: m, s, i, h => by
    unfold idxM at h
    by_cases hp : p.1 = s
    · obtain ⟨a, b⟩ := p
      simp only at hp; subst hp; simp [setM, lookI]
    · rw [if_neg hp] at h
      obtain ⟨j, hj, _⟩ := Option.map_eq_some_iff.1 h
      simp [setM, lookI, hp, setM_look m s j hj]
theorem lt_of_cnt {w : World} {r : Nat} {m : List (ByteArray × Int)} (h : CntOf w r m) : r < w.heap.size := (Array.getElem?_eq_some_iff.1 h).1
theorem CntOf.on {w w' : World} {r : Nat} {m : List (ByteArray × Int)} (h : CntOf w r m) (hb : Below w.heap.size w w') : CntOf w' r m := by
  unfold CntOf; rw [hb.block r (lt_of_cnt h)]; exact h

variable {P : Program} {T K E : TypeId}
theorem run_lookup_str (hT : P.underlying T = some (.map K E)) (hK : P.underlying K = some .string) {w : World} (hz : (zeroValue E).run P w = .ok (.int .i64 0) w)
    {r : Nat} {m : List (ByteArray × Int)} (h : CntOf w r m) (s : ByteArray) : (Instr.lookup T (.map (some r)) (.string s) false).run P w = .ok (.int .i64 (lookI m s)) w := by
  have hc : (Instr.checkKey (ents m).isEmpty 10000 K (.string s)).run P w = .ok () w := MapKept.run_checkKey hK (show MapKept.IsKey .string (.string s) from trivial) _ 9999
  have hf : (Instr.findKey K (.string s) (ents m).toList).run P w = .ok ((idxM m s).map fun i => (0 + i, .int .i64 (lookI m s))) w := MapKept.run_findKey hK (find_ents s m 0 0)
  have hg : (getObj r).run P w = .ok (.map (ents m) m.length) w := MapKept.run_getObj_map h
  unfold Instr.lookup
  simp only [Sem.run_bind, run_underlying hT, Result.andThen, hg, Sem.run_pure, hc, hf]
  cases hi : idxM m s with
  | none => simp [hz, look_none m s hi]
  | some i => simp
/-- The world with another map in a block. -/
def putM (w : World) (r : Nat) (m : List (ByteArray × Int)) : World := { w with heap := w.heap.setIfInBounds r (.map (ents m) m.length) }
theorem putM_cnt {w : World} {r : Nat} (h : r < w.heap.size) (m : List (ByteArray × Int)) : CntOf (putM w r m) r m := by
  unfold CntOf putM; simp [h]
theorem putM_grown (w : World) (r : Nat) (m : List (ByteArray × Int)) : w.grownBy (putM w r m) (some r) :=
  ⟨rfl, rfl, rfl, by simp [putM], fun k _ hne => Array.getElem?_setIfInBounds_ne (fun e : r = k => hne (congrArg some e.symm))⟩
theorem keyStays (s : ByteArray) (w : World) : (Instr.keyThatStays (.string s) (.string s)).run P w = .ok (.string s) w := by
  have h : Instr.sameBits 10000 (.string s) (.string s) = true := (MapKept.bytes_beq s s).2 rfl
  unfold Instr.keyThatStays
  rw [if_pos h]; rfl
theorem modify_toArray {α : Type} (l : List α) (i : Nat) (f : α → α) : l.toArray.modify i f = (l.modify i f).toArray := by simp
theorem modify_same {α : Type} : ∀ (l : List α) (i : Nat) (f : α → α) (a : α), l[i]? = some a → f a = a → l.modify i f = l
  | [], _, _, _, h, _ => by simp at h
  | b :: l, 0, f, a, h, hf => by simp at h; subst h; simp [hf]
  | b :: l, i + 1, f, a, h, hf => by simp at h; simp [List.modify_succ_cons, modify_same l i f a h hf]
theorem run_mapEntry_str (hT : P.underlying T = some (.map K E)) (hK : P.underlying K = some .string) {w : World} (hz : (zeroValue E).run P w = .ok (.int .i64 0) w)
    {r : Nat} {m : List (ByteArray × Int)} (h : CntOf w r m) (s : ByteArray) :
    (Instr.mapEntry T (.map (some r)) (.string s)).run P w = .ok (.tuple #[.int .i64 (lookI m s), .int .i64 ((idxM m s).getD m.length)]) (putM w r (setM m s (lookI m s))) := by
  have hc : (Instr.checkKey false 10000 K (.string s)).run P w = .ok () w := MapKept.run_checkKey hK (show MapKept.IsKey .string (.string s) from trivial) _ 9999
  have hf : (Instr.findKey K (.string s) (ents m).toList).run P w = .ok ((idxM m s).map fun i => (0 + i, .int .i64 (lookI m s))) w := MapKept.run_findKey hK (find_ents s m 0 0)
  have hg : (getObj r).run P w = .ok (.map (ents m) m.length) w := MapKept.run_getObj_map h
  unfold Instr.mapEntry
  simp only [Sem.run_bind, run_underlying hT, Result.andThen, hg, hc, hf]
  cases hi : idxM m s with
  | none =>
    obtain ⟨h1, h2⟩ := ents_app m 0 s 0 hi
    have e1 : (ents m).push { key := .string s, val := .int .i64 0, born := m.length } = ents (setM m s 0) := by
      unfold ents; rw [h1]; simp
    simp only [Option.map_none, Sem.run_bind, hz, Result.andThen, MapKept.run_setObj_map _ h, Sem.run_pure, goInt, e1, Option.getD_none, look_none m s hi]
    unfold putM
    rw [h2]
  | some i =>
    have ha := ents_at m 0 i s hi
    have hk : (((ents m)[0 + i]?).map (·.key)).getD (.string s) = .string s := by unfold ents; simp [ha]
    have hm : (ents m).modify (0 + i) (fun e => { e with key := .string s }) = ents m := by
      unfold ents
      rw [modify_toArray, modify_same _ _ _ _ (by simpa using ha) rfl]
    simp only [Option.map_some, hk, Sem.run_bind, keyStays, Result.andThen, MapKept.run_setObj_map _ h, Sem.run_pure, goInt, hm, Option.getD_some, setM_look m s i hi]
    unfold putM
    have hb2 : (Option.map (fun x => (x.born : Int)) (ents m)[i]?).getD 0 = i := by unfold ents; simp [ha]
    simp [hb2]
theorem ents_find : ∀ (m : List (ByteArray × Int)) (k i : Nat), i < m.length → (entsFrom k m).findIdx? (fun e => (e.born : Int) == ((k + i : Nat) : Int)) = some i
  | [], _, _, h => by simp at h
  | p :: m, k, 0, _ => by simp [entsFrom, List.findIdx?_cons]
  | p :: m, k, i + 1, h => by
    have := ents_find m (k + 1) i (by simpa using h)
    have hne : ((k : Int) == ((k + (i + 1) : Nat) : Int)) = false := by simp; omega
    rw [entsFrom, List.findIdx?_cons]
    simp only [hne]
    rw [show k + (i + 1) = k + 1 + i by omega, this]; rfl
theorem idxM_lt : ∀ (m : List (ByteArray × Int)) (s : ByteArray) (i : Nat), idxM m s = some i → i < m.length
  | [], _, _, h => by cases h
  | p :: m, s, i, h => by
    unfold idxM at h
    by_cases hp : p.1 = s
    · rw [if_pos hp] at h
      obtain rfl : 0 = i := by simpa using h
      simp
    · rw [if_neg hp] at h
      obtain ⟨j, hj, rfl⟩ := Option.map_eq_some_iff.1 h
      have := idxM_lt m s j hj
      simp; omega
theorem run_entryStore_str {w : World} {r : Nat} {m : List (ByteArray × Int)} (h : CntOf w r m) (s : ByteArray) (i : Nat) (v : Int) (hi : idxM m s = some i) :
    (Instr.entryStore T (.map (some r)) (.int .i64 i) (.int .i64 v)).run P w = .ok () (putM w r (setM m s v)) := by
  have hf : (ents m).findIdx? (fun e => (e.born : Int) == (i : Int)) = some i := by
    have := ents_find m 0 i (idxM_lt m s i hi)
    unfold ents; simpa using this
  obtain ⟨h1, h2⟩ := ents_set m 0 i s v hi
  have hm : (ents m).modify i (fun e => { e with val := .int .i64 v }) = ents (setM m s v) := by
    unfold ents; rw [modify_toArray, h1]
  simp [Instr.entryStore, MapKept.run_getObj_map h, asInt, asIntOf, Result.andThen, hf, MapKept.run_setObj_map _ h, hm, putM, h2]
theorem run_mapUpdate_str (hT : P.underlying T = some (.map K E)) (hK : P.underlying K = some .string) {w : World} {r : Nat} {m : List (ByteArray × Int)} (h : CntOf w r m) (s : ByteArray) (v : Int) :
    (Instr.mapUpdate T (.map (some r)) (.string s) (.int .i64 v)).run P w = .ok () (putM w r (setM m s v)) := by
  have hc : (Instr.checkKey false 10000 K (.string s)).run P w = .ok () w := MapKept.run_checkKey hK (show MapKept.IsKey .string (.string s) from trivial) _ 9999
  have hf : (Instr.findKey K (.string s) (ents m).toList).run P w = .ok ((idxM m s).map fun i => (0 + i, .int .i64 (lookI m s))) w := MapKept.run_findKey hK (find_ents s m 0 0)
  have hg : (getObj r).run P w = .ok (.map (ents m) m.length) w := MapKept.run_getObj_map h
  unfold Instr.mapUpdate
  simp only [Sem.run_bind, run_underlying hT, Result.andThen, hg, hc, hf]
  cases hi : idxM m s with
  | none =>
    obtain ⟨h1, h2⟩ := ents_app m 0 s v hi
    have e1 : (ents m).push { key := .string s, val := .int .i64 v, born := m.length } = ents (setM m s v) := by
      unfold ents; rw [h1]; simp
    simp only [Option.map_none, MapKept.run_setObj_map _ h, e1]
    unfold putM
    rw [h2]
  | some i =>
    have ha := ents_at m 0 i s hi
    have hk : (((ents m)[0 + i]?).map (·.key)).getD (.string s) = .string s := by unfold ents; simp [ha]
    obtain ⟨h1, h2⟩ := ents_set m 0 i s v hi
    have hm : (ents m).modify (0 + i) (fun e => { e with key := .string s, val := .int .i64 v }) = ents (setM m s v) := by
      have e2 : (entsFrom 0 m).modify i (fun e => { e with key := .string s, val := .int .i64 v }) = (entsFrom 0 m).modify i (fun e => { e with val := .int .i64 v }) := by
        apply List.ext_getElem?
        intro j
        rw [List.getElem?_modify, List.getElem?_modify]
        by_cases hj : i = j
        · subst hj; rw [ha]; simp
        · simp [hj]
      unfold ents
      rw [modify_toArray, Nat.zero_add, e2, h1]
    simp only [Option.map_some, hk, Sem.run_bind, keyStays, Result.andThen, MapKept.run_setObj_map _ h, hm]
    unfold putM
    rw [h2]
theorem wpList_mapUpdate_str {w : World} {ops : Array Oper} {rest : List Oper} {o : Oper} {a : Act} {Q : Exit → Act → World → Prop}
    (hgd : o.guard = none) (mp x v : Operand) (T : TypeId) (hop : o.op = Op.mapUpdate T mp x v) {K E : TypeId} (hT : P.underlying T = some (.map K E)) (hK : P.underlying K = some .string)
    {r : Nat} {m : List (ByteArray × Int)} (hm : a.eval mp = .map (some r)) (h : CntOf w r m) (s : ByteArray) (n : Int) (hx : a.eval x = .string s) (hv : a.eval v = .int .i64 n)
    (hQ : wpList P ops Q rest (a.put o.dst undef) (putM w r (setM m s n))) : wpList P ops Q (o :: rest) a w := by
  refine wpList_plain hgd fun K' hK' => ?_
  have hrun := run_mapUpdate_str (E := E) (P := P) hT hK h s n
  unfold Oper.wp
  simp [execOp, hop, hm, hx, hv, hrun, Result.andThen]
  exact hK' _ _ hQ
end Go.Proofs.YtfijpdmkdoccjaaGreatDoor.Mp
