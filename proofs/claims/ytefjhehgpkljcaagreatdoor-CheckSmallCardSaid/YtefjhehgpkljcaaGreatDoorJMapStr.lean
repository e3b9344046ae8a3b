/- The library's slices.AppendSeq, slices.Collect over texts that slices.Values goes through. A map from texts to numbers, as it lies: lookups, numbers laid anew. -/
import Derived.Test.YtefjhehgpkljcaaGreatDoorJChk4
import Derived.Maps.OwnIn
import Derived.Maps.Keyed
import Derived.OwnWalk
import Derived.Below
namespace Go.Proofs.YtefjhehgpkljcaaGreatDoor
open Go Go.RowKit Go.Maps Go.ChangeMaps Go.Shelf Um Fm Mt
attribute [local go_sem] Oper.semAt_some

/-- The texts that an iterator of slices.Values goes through. -/
def SeqAt (w : World) (Bp : Nat) (l : List ByteArray) : Prop := ∃ A c, w.cell? ⟨Bp, 0, none⟩ = some (.slice A l.length c) ∧ Rd w A (l.map Value.string)
theorem SeqAt.later {w w' : World} {Bp : Nat} {l : List ByteArray} (h : SeqAt w Bp l) (hb : Below w.heap.size w w') : SeqAt w' Bp l := by
  obtain ⟨A, c, h1, h2⟩ := h
  exact ⟨A, c, cell_on h1 hb, h2.later hb⟩
theorem MetAt.row {base b : Nat} {w : World} {v : Value} {l : List ByteArray} (hM : MetAt base b w v l) {w4 : World} {A4 : Option Addr} {m4 c4 : Nat} {l' : List ByteArray} (own4 : w4.ownsRow base 9 1 (.slice A4 m4 c4) l'.length (l'.map Value.string))
    (d0 : ∃ u, w4.cell? ⟨b, 0, none⟩ = some u) (d1 : w4.frozen? ⟨b, 0, none⟩ = false) (hne4 : (Value.slice A4 m4 c4).ownBlock ≠ some b) : MetAt base b (w4.setCell ⟨b, 0, none⟩ (.slice A4 m4 c4)) (.slice A4 m4 c4) l' := by
  obtain ⟨u, d0⟩ := d0
  exact ⟨World.cell?_setCell_same' _ _ _ (by rw [d0]; rfl), by rw [World.frozen?_setCell]; exact d1, own4.kept (grownBy_setCell' w4 b _) (.inr hne4), hM.lo, hne4⟩
set_option maxRecDepth 100000 in
set_option maxHeartbeats 4000000 in
theorem cAppendSeq (l : List ByteArray) (Bp : Nat) (w : World) (hq : SeqAt w Bp l) (hl : l.length ≤ 1000000) :
    Calls Tryz.prog 107 #[.slice none 0 0, .func (.func 154) #[] #[.pointer (some ⟨Bp, 0, none⟩)]] w (NamesR l w) := by
  refine (callsIn_wide (n := 6)).1 ?_
  generalize hF : Fence.wide = F
  have hd : F.depth = none := by rw [← hF]; rfl
  have hfn : ∀ k, F.fn k := by rw [← hF]; exact fun _ => trivial
  have hro : F.round = none := by rw [← hF]; rfl
  have hdd : ∀ k : Nat, (F.depth.isSome = true → 1 ≤ k) := fun k h => by rw [hd] at h; cases h
  have h0 := hfn 107
  have h5 := hfn 154
  clear hF hfn
  refine callsIn_of_wp_marks Tryz.func107 rfl h0 ?_ hro
  simp only [Tryz.ntmps107, List.size_toArray, List.length_cons, List.length_nil, Nat.reduceAdd, Nat.reduceSub, Array.replicate_succ, Array.replicate_zero, List.push_toArray, List.append_toArray, List.nil_append, List.cons_append]
  gi_wp2
  obtain ⟨W1, hW1⟩ : ∃ W : World, w.alloc (.cells #[.slice none 0 0] 24) = W := ⟨_, rfl⟩
  have hsz : W1.heap.size = w.heap.size + 1 := by rw [← hW1]; simp
  have hB1 : Below w.heap.size w W1 := by rw [← hW1]; exact (by repeat (first | exact Below.refl _ _ | assumption | exact (Below.refl _ _).alloc (Nat.le_refl _) _ | refine below_tr ?_ (by assumption) | refine below_alloc ?_ | refine below_tr ?_ (below_regrown _ _ _)))
  have g0 : W1.heap[w.heap.size]? = some (.cells #[.slice none 0 0] 24 (0, 0)) := by rw [← hW1]; exact heap_alloc_new _ _
  have hI0 : UsedI w w.heap.size [] W1 := ⟨.slice none 0 0, ⟨by rw [World.cell?, g0]; rfl, by simp [World.frozen?, g0], World.ownsRow_nil _ _ _ _, Nat.le_refl _, by simp [Value.ownBlock]⟩, hB1, by omega⟩
  have hcm : CM w (wo (hidU w.heap.size) W1) := fun p u hp => wo_cell.2 ⟨cell_on hp hB1, _, by
    rw [hB1.block _ (cell_lt hp)]; exact Array.getElem?_eq_getElem (cell_lt hp), by have := cell_lt hp; simp; omega⟩
  obtain ⟨A, c, hbp, hr⟩ := hq
  have hs := cVals_stops F hd h5 hro (hidU w.heap.size) (6 - 1) W1 l A c Bp (hr.cm hcm) (by omega) (hcm _ _ hbp)
  simp only [hW1]
  have HW := Lib.hid hW1
  have Hsz := Lib.hid hsz
  clear hW1 hcm g0 hsz hr hbp
  refine wpIn_rangeFunc_ownH hro (by omega) (gf := 154) (lb := #[.pointer (some ⟨Bp, 0, none⟩)]) rfl h5 (enters_of Tryz.func154 (by kernel_rfl) rfl)
    hs (fun h k => h.trans k) (fun W l o o' hl ho hc _ => Kb.put hl ho hc) (Below.refl _ _) (fun _ => rfl)
    (fun pre W => UsedI w w.heap.size pre W ∧ Kb (hidU w.heap.size) W1.heap.size W1 W)
    (fun _ _ _ => False)
    (fun s A B row hs hg hr => ⟨hs.1.grown hB1.size hg hr, hs.2.grown hg hr⟩)
    (fun c s A B row hs hg hr => hs.elim)
    ⟨hI0, Kb.refl _ _ _⟩
    (fun s a' W => a' = { tmps := #[.slice none 0 0, .func (.func 154) #[] #[.pointer (some ⟨Bp, 0, none⟩)], .pointer (some ⟨w.heap.size, 0, none⟩), undef, .slice none 0 0, .string s, .func (.func 154) #[] #[.pointer (some ⟨Bp, 0, none⟩)], .string s, undef, undef, undef, undef, undef], defers := [] })
    ?hAx ?assign ?body ?done ?stop
  case hAx =>
    rintro a a' _ A B row h hg hr
    exact h
  case assign =>
    rintro l' pre a W K ⟨hi, hk⟩ hK
    have e : ∀ (b : Array Value) (v : Value), (#[7].zip #[v]).foldl (fun t (p, v) => t.setIfInBounds p v) b = b.setIfInBounds 7 v := fun b v => by simp
    rw [e]
    have Hfin := Lib.hid (fun a' h => hK a' W (KeepsFrom.refl _ _) (Kb.refl _ _ _) ⟨hi, hk⟩ h)
    clear hK hi hk
    gi_wp2
    exact Hfin.out _ rfl
  case body =>
    rintro l' pre s a' W hl' ⟨rr, hrr⟩ ⟨hi, hk⟩ rfl hlN
    obtain ⟨v, hM, hBw, hbW⟩ := hi
    obtain ⟨A1, c1, rfl, hc1, hr1, hv1⟩ := hM.open_
    have hba : Below W.heap.size W (W.alloc (.cells #[.string s] 9)) := (by repeat (first | exact Below.refl _ _ | assumption | exact (Below.refl _ _).alloc (Nat.le_refl _) _ | refine below_tr ?_ (by assumption) | refine below_alloc ?_ | refine below_tr ?_ (below_regrown _ _ _)))
    have own0 := own_below hM.own hba (Nat.le_refl _)
    have hbne := hM.ne
    have hfr := hM.fr
    have own0' := Lib.hid hM.own.lt
    have hnew : ∀ (j : Nat) (u : Value), [Value.string s][j]? = some u → (W.alloc (.cells #[.string s] 9)).cell? ((⟨W.heap.size, 0, none⟩ : Addr).add j) = some u := by
      intro j u hu
      rw [add_zero_spot, Nat.zero_add, World.cell?, heap_alloc_new]
      simpa using hu
    obtain ⟨i, hi, hz, hsize, hby⟩ := info_parts stringInfo'
    have Hk := Lib.hid hk
    have HBw := Lib.hid hBw
    have HM := Lib.hid hM
    have hbs : w.heap.size ≤ W.heap.size := hBw.size
    have hpl : pre.length ≤ 1000000 := by omega
    clear hk hBw hM hr1 hs
    gi_wp2_with (gi_at_builtin; (refine wpListIn_append_own_at _ rfl _ _ 24 rfl w.heap.size 9 i _ 1 16 Tryz.underlying24 hi hz hsize hby rfl (by omega) _ pre.length (pre.map Value.string) rfl own0 ⟨W.heap.size, 0, none⟩ 1 1 [.string s] rfl rfl hnew (by intro u hu; simp at hu; subst hu; rfl) (by unfold maxLen; omega) (by omega) (by simp; omega) ?_; intro v4 w4 own4 hg4 _ hbk4; obtain ⟨A4, c4, rfl, _, _⟩ := own_slice own4; have d0 := (hg4.cell_far ⟨w.heap.size, 0, none⟩ (by simp; omega) (fun e => hbne e.symm)).trans ((hba.cell (p := ⟨w.heap.size, 0, none⟩) hbW).trans hv1); have d1 := (hg4.frozen_far ⟨w.heap.size, 0, none⟩ (by simp; omega) (fun e => hbne e.symm)).trans ((hba.frozen (p := ⟨w.heap.size, 0, none⟩) hbW).trans hfr)))
    have hM' := HM.out
    have hz4 := hg4.size
    have hblk : (Value.slice A4 (pre.length + 1) c4).ownBlock = (Value.slice A1 pre.length c1).ownBlock ∨ ∀ k, (Value.slice A4 (pre.length + 1) c4).ownBlock = some k → W.heap.size ≤ k := by
      rcases hbk4 with e | e
      · exact .inl e
      · exact .inr fun k hk => by rw [e] at hk; injection hk with hk; simp at hk; omega
    have hne4 : (Value.slice A4 (pre.length + 1) c4).ownBlock ≠ some w.heap.size := by
      rcases hblk with e | e
      · rw [e]; exact hbne
      · intro e2; have := e _ e2; omega
    have hgs := grownBy_setCell' w4 w.heap.size (.slice A4 (pre.length + 1) c4)
    have own5 := own4.kept hgs (.inr hne4)
    have hKp : MetKeeps w.heap.size w.heap.size W (.slice A1 pre.length c1) (w4.setCell ⟨w.heap.size, 0, none⟩ (.slice A4 (pre.length + 1) c4)) (.slice A4 (pre.length + 1) c4) := by
      refine ⟨?_, ?_, ?_, ?_⟩
      · refine Below.setCell ?_ (p := ⟨w.heap.size, 0, none⟩) (Nat.le_refl _) _
        exact Below.grown ((Below.refl _ _).alloc hbs _) hg4 (by simp; omega) fun q e => (own0'.out q e).1
      · intro q hq hqb hqv
        rw [hgs.block q (by simp at hz4; omega) (fun e => hqb (by injection e)), hg4.block q (by simp; omega) hqv, Below.heap_alloc _ _ _ hq]
      · simp at hz4
        have := hgs.size
        omega
      · rcases hblk with e | e
        · exact .inl e
        · exact .inr fun q hq => e q hq
    have hkb : Kb (hidU w.heap.size) W1.heap.size W _ := Kb.of_met hM' hKp
    refine ⟨hKp.from hM' _, hkb, ⟨.slice A4 (pre.length + 1) c4, ⟨World.cell?_setCell_same' _ _ _ (by rw [d0]; rfl), by rw [World.frozen?_setCell]; exact d1, ?_, Nat.le_refl _, hne4⟩, HBw.out.trans hKp.below, Nat.lt_of_lt_of_le hbW hKp.size⟩, Hk.out.trans hkb⟩
    rw [List.length_append, List.map_append]; exact own5
  case done =>
    rintro D ys W hD hS ⟨⟨v, hM, hBw, hbW⟩, hk⟩ hK
    obtain rfl : ys = l := hS
    obtain ⟨A1, c1, rfl, hc1, hr1, hv1⟩ := hM.open_
    have hown := hM.own
    have hfr := hM.fr
    clear hM hk hc1 hr1 hs
    gi_wp2
    refine ⟨by simp, .inl ⟨_, _, rfl, run_takeDeferred hK, ?_⟩⟩
    have hgr := grownBy_putObj' W D (.deferred none)
    have hne : (Value.slice A1 ys.length c1).ownBlock = none ∨ (Value.slice A1 ys.length c1).ownBlock ≠ some D := by
      right
      intro e
      rcases hown.2 with ⟨hv, _⟩ | ⟨g', cap, cur, hv, _, hh, _⟩
      · rw [hv] at e; simp [Value.ownBlock] at e
      · rw [hv] at e
        simp only [Value.ownBlock, Option.some.injEq] at e
        subst e
        rw [hh] at hK
        cases hK
    refine ⟨.slice A1 ys.length c1, ?_, _, rfl, hown.kept hgr hne, hBw.trans (belowK_b (w := w) (Nat.le_refl _) _ D _ _ (by have := Hsz.out; omega) hK rfl rfl)⟩
    simp [results, Tryz.results107, go_sem]
  case stop =>
    rintro D cc pre W hD hS h hK
    exact h.elim
theorem cCollect (l : List ByteArray) (Bp : Nat) (w : World) (hq : SeqAt w Bp l) (hl : l.length ≤ 1000000) :
    Calls Tryz.prog 62 #[.func (.func 154) #[] #[.pointer (some ⟨Bp, 0, none⟩)]] w (NamesR l w) := by
  have hA := cAppendSeq l Bp w hq hl
  clear hq
  go_enter Tryz.func62, Tryz.ntmps62
  go_wp2_with (refine hA.mono ?_; rintro e w1 ⟨v, rfl, own, b1⟩)
  obtain ⟨A1, d1, rfl, _, _⟩ := own_slice own
  go_wp2
  go_ret
  exact ⟨_, rfl, own, b1⟩
end Go.Proofs.YtefjhehgpkljcaaGreatDoor
namespace Go.Proofs.YtefjhehgpkljcaaGreatDoor.Mp
open Go Go.RowKit Go.Maps Go.ChangeMaps

def entsFrom : Nat → List (ByteArray × Int) → List MapEntry
  | _, [] => []
  | k, p :: m => { key := .string p.1, val := .int .i64 p.2, born := k } :: entsFrom (k + 1) m
theorem entsFrom_len : ∀ (k : Nat) (m : List (ByteArray × Int)), (entsFrom k m).length = m.length
  | _, [] => rfl
  | k, _ :: m => by simp [entsFrom, entsFrom_len (k + 1) m]
def ents (m : List (ByteArray × Int)) : Array MapEntry := (entsFrom 0 m).toArray
/-- A block is a map of these texts and numbers. -/
def CntOf (w : World) (r : Nat) (m : List (ByteArray × Int)) : Prop := w.heap[r]? = some (.map (ents m) m.length)
def lookI : List (ByteArray × Int) → ByteArray → Int
  | [], _ => 0
  | p :: m, s => if p.1 = s then p.2 else lookI m s
def idxM : List (ByteArray × Int) → ByteArray → Option Nat
  | [], _ => none
  | p :: m, s => if p.1 = s then some 0 else (idxM m s).map (· + 1)
def setM : List (ByteArray × Int) → ByteArray → Int → List (ByteArray × Int)
  | [], s, v => [(s, v)]
  | p :: m, s, v => if p.1 = s then (s, v) :: m else p :: setM m s v
theorem look_setM (s t : ByteArray) (v : Int) : ∀ m : List (ByteArray × Int), lookI (setM m s v) t = if s = t then v else lookI m t
  | [] => by simp [setM, lookI]
  | p :: m => by
    unfold setM
    by_cases h : p.1 = s
    · rw [if_pos h]
      simp only [lookI, h]
      by_cases h2 : s = t <;> simp [h2]
    · rw [if_neg h]
      simp only [lookI]
      rw [look_setM s t v m]
      by_cases h2 : p.1 = t
      · have : ¬ s = t := fun e => h (h2.trans e.symm)
        simp [h2, this]
      · simp [h2]
theorem find_ents (s : ByteArray) : ∀ (m : List (ByteArray × Int)) (k j : Nat), Instr.findNow .string (.string s) (entsFrom k m) j = some ((idxM m s).map fun i => (j + i, .int .i64 (lookI m s)))
  | [], _, _ => rfl
  | p :: m, k, j => by
    unfold entsFrom Instr.findNow
    simp only [Instr.sameNow]
    by_cases h : p.1 = s
    · have hb : (s == p.1) = true := (MapKept.bytes_beq _ _).2 h.symm
      rw [hb]
      simp [idxM, lookI, h]
    · have hb : (s == p.1) = false := by
        cases hx : (s == p.1)
        · rfl
        · exact absurd ((MapKept.bytes_beq _ _).1 hx).symm h
      simp only [hb, idxM, lookI, h, if_false]
      rw [find_ents s m (k + 1) (j + 1)]
      cases idxM m s with
      | none => rfl
      | some i => simp; omega
theorem ents_at : ∀ (m : List (ByteArray × Int)) (k i : Nat) (s : ByteArray), idxM m s = some i → (entsFrom k m)[i]? = some { key := .string s, val := .int .i64 (lookI m s), born := k + i }
  | [], _, _, _, h => by cases h
  | p :: m, k, i, s, h => by
    unfold idxM at h
    by_cases hp : p.1 = s
    · rw [if_pos hp] at h
      obtain rfl : 0 = i := by simpa using h
      simp [entsFrom, lookI, hp]
    · rw [if_neg hp] at h
      obtain ⟨j, hj, rfl⟩ := Option.map_eq_some_iff.1 h
      simp only [entsFrom, List.getElem?_cons_succ, lookI, hp, if_false]
      rw [ents_at m (k + 1) j s hj]
      simp; omega
theorem ents_set : ∀ (m : List (ByteArray × Int)) (k i : Nat) (s : ByteArray) (v : Int), idxM m s = some i →
    (entsFrom k m).modify i (fun e => { e with val := .int .i64 v }) = entsFrom k (setM m s v) ∧ (setM m s v).length = m.length
  | [], _, _, _, _, h => by cases h
  | p :: m, k, i, s, v, h => by
    unfold idxM at h
    by_cases hp : p.1 = s
    · rw [if_pos hp] at h
      obtain rfl : 0 = i := by simpa using h
      simp [entsFrom, setM, hp]
    · rw [if_neg hp] at h
      obtain ⟨j, hj, rfl⟩ := Option.map_eq_some_iff.1 h
      obtain ⟨h1, h2⟩ := ents_set m (k + 1) j s v hj
      simp [entsFrom, setM, hp, List.modify_succ_cons, h1, h2]
theorem ents_app : ∀ (m : List (ByteArray × Int)) (k : Nat) (s : ByteArray) (v : Int), idxM m s = none →
    entsFrom k (setM m s v) = entsFrom k m ++ [{ key := .string s, val := .int .i64 v, born := k + m.length }] ∧ (setM m s v).length = m.length + 1
  | [], k, s, v, _ => by simp [entsFrom, setM]
  | p :: m, k, s, v, h => by
    unfold idxM at h
    by_cases hp : p.1 = s
    · rw [if_pos hp] at h; cases h
    · rw [if_neg hp] at h
      obtain ⟨h1, h2⟩ := ents_app m (k + 1) s v (by simpa using h)
      simp [entsFrom, setM, hp, h1, h2]; omega
theorem idx_setM : ∀ (m : List (ByteArray × Int)) (s : ByteArray) (v : Int), idxM (setM m s v) s = some ((idxM m s).getD m.length)
  | [], s, v => by simp [idxM, setM]
  | p :: m, s, v => by
    unfold setM
    by_cases hp : p.1 = s
    · simp [idxM, hp]
    · rw [if_neg hp]
      simp only [idxM, hp, if_false, idx_setM m s v]
      cases idxM m s <;> simp
theorem setM_setM : ∀ (m : List (ByteArray × Int)) (s : ByteArray) (v u : Int), setM (setM m s v) s u = setM m s u
  | [], s, v, u => by simp [setM]
  | p :: m, s, v, u => by
    by_cases hp : p.1 = s
    · simp [setM, hp]
    · simp [setM, hp, setM_setM m s v u]
theorem look_none : ∀ (m : List (ByteArray × Int)) (s : ByteArray), idxM m s = none → lookI m s = 0
  | [], _, _ => rfl
  | p :: m, s, h => by
    unfold idxM at h
    by_cases hp : p.1 = s
    · rw [if_pos hp] at h; cases h
    · rw [if_neg hp] at h
      simp only [lookI, hp, if_false]
      exact look_none m s (by simpa using h)
theorem setM_look : ∀ (m : List (ByteArray × Int)) (s : ByteArray) (i : Nat), idxM m s = some i → setM m s (lookI m s) = m
  | [], _, _, h => by cases h
  | p :: m, s, i, h => by
    unfold idxM at h
    by_cases hp : p.1 = s
    · obtain ⟨a, b⟩ := p
      simp only at hp; subst hp; simp [setM, lookI]
    · rw [if_neg hp] at h
      obtain ⟨j, hj, _⟩ := Option.map_eq_some_iff.1 h
      simp [setM, lookI, hp, setM_look m s j hj]
theorem lt_of_cnt {w : World} {r : Nat} {m : List (ByteArray × Int)} (h : CntOf w r m) : r < w.heap.size := (Array.getElem?_eq_some_iff.1 h).1
theorem CntOf.on {w w' : World} {r : Nat} {m : List (ByteArray × Int)} (h : CntOf w r m) (hb : Below w.heap.size w w') : CntOf w' r m := by
  unfold CntOf; rw [hb.block r (lt_of_cnt h)]; exact h

variable {P : Program} {T K E : TypeId}
theorem run_lookup_str (hT : P.underlying T = some (.map K E)) (hK : P.underlying K = some .string) {w : World} (hz : (zeroValue E).run P w = .ok (.int .i64 0) w)
    {r : Nat} {m : List (ByteArray × Int)} (h : CntOf w r m) (s : ByteArray) : (Instr.lookup T (.map (some r)) (.string s) false).run P w = .ok (.int .i64 (lookI m s)) w := by
  have hc : (Instr.checkKey (ents m).isEmpty 10000 K (.string s)).run P w = .ok () w := MapKept.run_checkKey hK (show MapKept.IsKey .string (.string s) from trivial) _ 9999
  have hf : (Instr.findKey K (.string s) (ents m).toList).run P w = .ok ((idxM m s).map fun i => (0 + i, .int .i64 (lookI m s))) w := MapKept.run_findKey hK (find_ents s m 0 0)
  have hg : (getObj r).run P w = .ok (.map (ents m) m.length) w := MapKept.run_getObj_map h
  unfold Instr.lookup
  simp only [Sem.run_bind, run_underlying hT, Result.andThen, hg, Sem.run_pure, hc, hf]
  cases hi : idxM m s with
  | none => simp [hz, look_none m s hi]
  | some i => simp
/-- The world with another map in a block. -/
def putM (w : World) (r : Nat) (m : List (ByteArray × Int)) : World := { w with heap := w.heap.setIfInBounds r (.map (ents m) m.length) }
theorem putM_cnt {w : World} {r : Nat} (h : r < w.heap.size) (m : List (ByteArray × Int)) : CntOf (putM w r m) r m := by
  unfold CntOf putM; simp [h]
theorem putM_grown (w : World) (r : Nat) (m : List (ByteArray × Int)) : w.grownBy (putM w r m) (some r) :=
  ⟨rfl, rfl, rfl, by simp [putM], fun k _ hne => Array.getElem?_setIfInBounds_ne (fun e : r = k => hne (congrArg some e.symm))⟩
theorem keyStays (s : ByteArray) (w : World) : (Instr.keyThatStays (.string s) (.string s)).run P w = .ok (.string s) w := by
  have h : Instr.sameBits 10000 (.string s) (.string s) = true := (MapKept.bytes_beq s s).2 rfl
  unfold Instr.keyThatStays
  rw [if_pos h]; rfl
theorem modify_toArray {α : Type} (l : List α) (i : Nat) (f : α → α) : l.toArray.modify i f = (l.modify i f).toArray := by simp
theorem modify_same {α : Type} : ∀ (l : List α) (i : Nat) (f : α → α) (a : α), l[i]? = some a → f a = a → l.modify i f = l
  | [], _, _, _, h, _ => by simp at h
  | b :: l, 0, f, a, h, hf => by simp at h; subst h; simp [hf]
  | b :: l, i + 1, f, a, h, hf => by simp at h; simp [List.modify_succ_cons, modify_same l i f a h hf]
theorem run_mapEntry_str (hT : P.underlying T = some (.map K E)) (hK : P.underlying K = some .string) {w : World} (hz : (zeroValue E).run P w = .ok (.int .i64 0) w)
    {r : Nat} {m : List (ByteArray × Int)} (h : CntOf w r m) (s : ByteArray) :
    (Instr.mapEntry T (.map (some r)) (.string s)).run P w = .ok (.tuple #[.int .i64 (lookI m s), .int .i64 ((idxM m s).getD m.length)]) (putM w r (setM m s (lookI m s))) := by
  have hc : (Instr.checkKey false 10000 K (.string s)).run P w = .ok () w := MapKept.run_checkKey hK (show MapKept.IsKey .string (.string s) from trivial) _ 9999
  have hf : (Instr.findKey K (.string s) (ents m).toList).run P w = .ok ((idxM m s).map fun i => (0 + i, .int .i64 (lookI m s))) w := MapKept.run_findKey hK (find_ents s m 0 0)
  have hg : (getObj r).run P w = .ok (.map (ents m) m.length) w := MapKept.run_getObj_map h
  unfold Instr.mapEntry
  simp only [Sem.run_bind, run_underlying hT, Result.andThen, hg, hc, hf]
  cases hi : idxM m s with
  | none =>
    obtain ⟨h1, h2⟩ := ents_app m 0 s 0 hi
    have e1 : (ents m).push { key := .string s, val := .int .i64 0, born := m.length } = ents (setM m s 0) := by
      unfold ents; rw [h1]; simp
    simp only [Option.map_none, Sem.run_bind, hz, Result.andThen, MapKept.run_setObj_map _ h, Sem.run_pure, goInt, e1, Option.getD_none, look_none m s hi]
    unfold putM
    rw [h2]
  | some i =>
    have ha := ents_at m 0 i s hi
    have hk : (((ents m)[0 + i]?).map (·.key)).getD (.string s) = .string s := by unfold ents; simp [ha]
    have hm : (ents m).modify (0 + i) (fun e => { e with key := .string s }) = ents m := by
      unfold ents
      rw [modify_toArray, modify_same _ _ _ _ (by simpa using ha) rfl]
    simp only [Option.map_some, hk, Sem.run_bind, keyStays, Result.andThen, MapKept.run_setObj_map _ h, Sem.run_pure, goInt, hm, Option.getD_some, setM_look m s i hi]
    unfold putM
    have hb2 : (Option.map (fun x => (x.born : Int)) (ents m)[i]?).getD 0 = i := by unfold ents; simp [ha]
    simp [hb2]
theorem ents_find : ∀ (m : List (ByteArray × Int)) (k i : Nat), i < m.length → (entsFrom k m).findIdx? (fun e => (e.born : Int) == ((k + i : Nat) : Int)) = some i
  | [], _, _, h => by simp at h
  | p :: m, k, 0, _ => by simp [entsFrom, List.findIdx?_cons]
  | p :: m, k, i + 1, h => by
    have := ents_find m (k + 1) i (by simpa using h)
    have hne : ((k : Int) == ((k + (i + 1) : Nat) : Int)) = false := by simp; omega
    rw [entsFrom, List.findIdx?_cons]
    simp only [hne]
    rw [show k + (i + 1) = k + 1 + i by omega, this]; rfl
theorem idxM_lt : ∀ (m : List (ByteArray × Int)) (s : ByteArray) (i : Nat), idxM m s = some i → i < m.length
  | [], _, _, h => by cases h
  | p :: m, s, i, h => by
    unfold idxM at h
    by_cases hp : p.1 = s
    · rw [if_pos hp] at h
      obtain rfl : 0 = i := by simpa using h
      simp
    · rw [if_neg hp] at h
      obtain ⟨j, hj, rfl⟩ := Option.map_eq_some_iff.1 h
      have := idxM_lt m s j hj
      simp; omega
theorem run_entryStore_str {w : World} {r : Nat} {m : List (ByteArray × Int)} (h : CntOf w r m) (s : ByteArray) (i : Nat) (v : Int) (hi : idxM m s = some i) :
    (Instr.entryStore T (.map (some r)) (.int .i64 i) (.int .i64 v)).run P w = .ok () (putM w r (setM m s v)) := by
  have hf : (ents m).findIdx? (fun e => (e.born : Int) == (i : Int)) = some i := by
    have := ents_find m 0 i (idxM_lt m s i hi)
    unfold ents; simpa using this
  obtain ⟨h1, h2⟩ := ents_set m 0 i s v hi
  have hm : (ents m).modify i (fun e => { e with val := .int .i64 v }) = ents (setM m s v) := by
    unfold ents; rw [modify_toArray, h1]
  simp [Instr.entryStore, MapKept.run_getObj_map h, asInt, asIntOf, Result.andThen, hf, MapKept.run_setObj_map _ h, hm, putM, h2]
theorem run_mapUpdate_str (hT : P.underlying T = some (.map K E)) (hK : P.underlying K = some .string) {w : World} {r : Nat} {m : List (ByteArray × Int)} (h : CntOf w r m) (s : ByteArray) (v : Int) :
    (Instr.mapUpdate T (.map (some r)) (.string s) (.int .i64 v)).run P w = .ok () (putM w r (setM m s v)) := by
  have hc : (Instr.checkKey false 10000 K (.string s)).run P w = .ok () w := MapKept.run_checkKey hK (show MapKept.IsKey .string (.string s) from trivial) _ 9999
  have hf : (Instr.findKey K (.string s) (ents m).toList).run P w = .ok ((idxM m s).map fun i => (0 + i, .int .i64 (lookI m s))) w := MapKept.run_findKey hK (find_ents s m 0 0)
  have hg : (getObj r).run P w = .ok (.map (ents m) m.length) w := MapKept.run_getObj_map h
  unfold Instr.mapUpdate
  simp only [Sem.run_bind, run_underlying hT, Result.andThen, hg, hc, hf]
  cases hi : idxM m s with
  | none =>
    obtain ⟨h1, h2⟩ := ents_app m 0 s v hi
    have e1 : (ents m).push { key := .string s, val := .int .i64 v, born := m.length } = ents (setM m s v) := by
      unfold ents; rw [h1]; simp
    simp only [Option.map_none, MapKept.run_setObj_map _ h, e1]
    unfold putM
    rw [h2]
  | some i =>
    have ha := ents_at m 0 i s hi
    have hk : (((ents m)[0 + i]?).map (·.key)).getD (.string s) = .string s := by unfold ents; simp [ha]
    obtain ⟨h1, h2⟩ := ents_set m 0 i s v hi
    have hm : (ents m).modify (0 + i) (fun e => { e with key := .string s, val := .int .i64 v }) = ents (setM m s v) := by
      have e2 : (entsFrom 0 m).modify i (fun e => { e with key := .string s, val := .int .i64 v }) = (entsFrom 0 m).modify i (fun e => { e with val := .int .i64 v }) := by
        apply List.ext_getElem?
        intro j
        rw [List.getElem?_modify, List.getElem?_modify]
        by_cases hj : i = j
        · subst hj; rw [ha]; simp
        · simp [hj]
      unfold ents
      rw [modify_toArray, Nat.zero_add, e2, h1]
    simp only [Option.map_some, hk, Sem.run_bind, keyStays, Result.andThen, MapKept.run_setObj_map _ h, hm]
    unfold putM
    rw [h2]
theorem wpList_mapUpdate_str {w : World} {ops : Array Oper} {rest : List Oper} {o : Oper} {a : Act} {Q : Exit → Act → World → Prop}
    (hgd : o.guard = none) (mp x v : Operand) (T : TypeId) (hop : o.op = Op.mapUpdate T mp x v) {K E : TypeId} (hT : P.underlying T = some (.map K E)) (hK : P.underlying K = some .string)
    {r : Nat} {m : List (ByteArray × Int)} (hm : a.eval mp = .map (some r)) (h : CntOf w r m) (s : ByteArray) (n : Int) (hx : a.eval x = .string s) (hv : a.eval v = .int .i64 n)
    (hQ : wpList P ops Q rest (a.put o.dst undef) (putM w r (setM m s n))) : wpList P ops Q (o :: rest) a w := by
  refine wpList_plain hgd fun K' hK' => ?_
  have hrun := run_mapUpdate_str (E := E) (P := P) hT hK h s n
  unfold Oper.wp
  simp [execOp, hop, hm, hx, hv, hrun, Result.andThen]
  exact hK' _ _ hQ
end Go.Proofs.YtefjhehgpkljcaaGreatDoor.Mp
