/- Whether a query may be asked, in plain words. Names counted in a map, in plain words. The program's package check, walked: names.meet, names.has. -/
import Derived.Test.YtefjhehgpkljcaaGreatDoorJMetMath
import Derived.Test.YtefjhehgpkljcaaGreatDoorJMapStr
import Derived.Test.YtefjhehgpkljcaaGreatDoorJChk4
import Derived.Test.YtefjhehgpkljcaaGreatDoorJMet
namespace Go.Proofs.YtefjhehgpkljcaaGreatDoor.Mt
open Go

/-- Does a name stand twice? -/
def dupB : List ByteArray → Bool
  | [] => false
  | a :: l => hasS l a || dupB l
theorem dupB_no : ∀ {l : List ByteArray}, dupB l = false ↔ l.Nodup
  | [] => by simp [dupB]
  | a :: l => by rw [dupB, Bool.or_eq_false_iff, hasS_no, dupB_no, List.nodup_cons]
theorem bool_of_false {a b : Bool} (h : a = false ↔ b = false) : a = b := by cases a <;> cases b <;> simp_all
theorem dupB_perm {a b : List ByteArray} (h : a.Perm b) : dupB a = dupB b := bool_of_false (by rw [dupB_no, dupB_no]; exact h.nodup_iff)
theorem dupB_snoc (l : List ByteArray) (s : ByteArray) : dupB (l ++ [s]) = (dupB l || hasS l s) := by
  apply bool_of_false
  rw [Bool.or_eq_false_iff, dupB_no, dupB_no, hasS_no, List.nodup_append]
  constructor
  · rintro ⟨h1, _, h3⟩
    exact ⟨h1, fun hs => h3 s hs s (by simp) rfl⟩
  · rintro ⟨h1, h2⟩
    exact ⟨h1, by simp, fun a ha b hb e => by simp at hb; subst hb; subst e; exact h2 ha⟩
theorem dupB_sub {a b : List ByteArray} (h : a.Sublist b) (hb : dupB b = false) : dupB a = false := dupB_no.2 ((dupB_no.1 hb).sublist h)
/-- Is some name not known? -/
def lackB (known l : List ByteArray) : Bool := l.any fun s => !hasS known s
theorem lackB_no {known l : List ByteArray} : lackB known l = false ↔ ∀ s ∈ l, s ∈ known := by
  unfold lackB
  rw [List.any_eq_false]
  constructor
  · intro h s hs
    have := h s hs
    rw [← hasS_iff]
    simpa using this
  · intro h s hs
    have := hasS_iff.2 (h s hs)
    simp [this]
theorem lackB_congr {k1 k2 l1 l2 : List ByteArray} (hk : ∀ x, x ∈ k1 ↔ x ∈ k2) (hl : ∀ x, x ∈ l1 ↔ x ∈ l2) : lackB k1 l1 = lackB k2 l2 :=
  bool_of_false (by rw [lackB_no, lackB_no]; exact ⟨fun h s hs => (hk s).1 (h s ((hl s).2 hs)), fun h s hs => (hk s).2 (h s ((hl s).1 hs))⟩)
/-- Why a query may not be asked. -/
def errQ (right : Bool) (vars keys used known : List ByteArray) : Int :=
  if right then (if dupB vars || dupB keys then 9 else if lackB known (vars ++ keys ++ used) then 15 else 0) else 2
theorem errQ_congr {r1 r2 : Bool} {v1 v2 k1 k2 u1 u2 n1 n2 : List ByteArray} (hr : r1 = r2) (hv : v1.Perm v2) (hk : k1.Perm k2) (hu : ∀ x, x ∈ u1 ↔ x ∈ u2) (hn : ∀ x, x ∈ n1 ↔ x ∈ n2) : errQ r1 v1 k1 u1 n1 = errQ r2 v2 k2 u2 n2 := by
  unfold errQ
  rw [hr, dupB_perm hv, dupB_perm hk, lackB_congr (l2 := v2 ++ k2 ++ u2) hn (fun x => by simp only [List.mem_append, hv.mem_iff, hk.mem_iff, hu])]
theorem errQ_zero {r : Bool} {v k u n : List ByteArray} : errQ r v k u n = 0 ↔ r = true ∧ v.Nodup ∧ k.Nodup ∧ ∀ s ∈ v ++ k ++ u, s ∈ n := by
  unfold errQ
  cases r
  · simp
  · simp only [if_true]
    cases h1 : (dupB v || dupB k)
    · rw [Bool.or_eq_false_iff, dupB_no, dupB_no] at h1
      cases h2 : lackB n (v ++ k ++ u)
      · rw [lackB_no] at h2
        simp only [Bool.false_eq_true, if_false, true_and]
        exact ⟨fun _ => ⟨h1.1, h1.2, h2⟩, fun _ => trivial⟩
      · simp only [Bool.false_eq_true, if_false, if_true, true_and]
        constructor
        · intro h; cases h
        · rintro ⟨_, _, h⟩
          rw [lackB_no.2 h] at h2; cases h2
    · simp only [if_true, true_and]
      constructor
      · intro h; cases h
      · rintro ⟨h3, h4, _⟩
        rw [dupB_no.2 h3, dupB_no.2 h4] at h1; cases h1
theorem errQ_arg {r : Bool} {v k u n : List ByteArray} : (errQ r v k u n = 2) ↔ r = false := by
  unfold errQ
  cases r
  · simp
  · simp only [if_true]
    split
    · simp
    · split <;> simp
/-- What a query needs: of what is known, what is used. -/
def needN (known l : List ByteArray) : List ByteArray := known.filter fun s => hasS l s
theorem needN_snoc (known l : List ByteArray) (s : ByteArray) : needN (known ++ [s]) l = needN known l ++ if hasS l s then [s] else [] := by
  unfold needN
  rw [List.filter_append]
  cases h : hasS l s <;> simp [h]
theorem needN_len (known l : List ByteArray) : (needN known l).length ≤ known.length := List.length_filter_le _ _
theorem needN_mem {known l : List ByteArray} {s : ByteArray} : s ∈ needN known l ↔ s ∈ known ∧ s ∈ l := by unfold needN; rw [List.mem_filter, hasS_iff]
theorem needN_congr {known l l' : List ByteArray} (h : ∀ x, x ∈ l ↔ x ∈ l') : needN known l = needN known l' := by
  unfold needN
  congr 1
  funext s
  exact bool_of_false (by rw [hasS_no, hasS_no, h])
end Go.Proofs.YtefjhehgpkljcaaGreatDoor.Mt
namespace Go.Proofs.YtefjhehgpkljcaaGreatDoor.Mt
open Go Mp

def incM (m : List (ByteArray × Int)) (s : ByteArray) : List (ByteArray × Int) := setM m s (lookI m s + 1)
def meetM (m : List (ByteArray × Int)) (l : List ByteArray) : List (ByteArray × Int) := l.foldl incM m
theorem meetM_snoc (m : List (ByteArray × Int)) (l : List ByteArray) (s : ByteArray) : meetM m (l ++ [s]) = incM (meetM m l) s := by simp [meetM]
theorem meetM_app (m : List (ByteArray × Int)) (a b : List ByteArray) : meetM m (a ++ b) = meetM (meetM m a) b := by simp [meetM]
/-- Was a name there that was there before? -/
def twiceM (m : List (ByteArray × Int)) : List ByteArray → Bool
  | [] => false
  | s :: l => decide (1 < lookI m s + 1) || twiceM (incM m s) l
theorem twiceM_snoc : ∀ (l : List ByteArray) (m : List (ByteArray × Int)) (s : ByteArray), twiceM m (l ++ [s]) = (twiceM m l || decide (1 < lookI (meetM m l) s + 1))
  | [], m, s => by show (decide (1 < lookI m s + 1) || false) = (false || _); rw [Bool.or_false, Bool.false_or]; rfl
  | a :: l, m, s => by
    rw [List.cons_append, twiceM, twiceM_snoc l, twiceM, Bool.or_assoc]
    rfl
/-- How often a name stands. -/
def cntS : List ByteArray → ByteArray → Int
  | [], _ => 0
  | a :: l, s => (if a = s then 1 else 0) + cntS l s
theorem cntS_nonneg : ∀ (l : List ByteArray) (s : ByteArray), 0 ≤ cntS l s
  | [], _ => by simp [cntS]
  | a :: l, s => by have := cntS_nonneg l s; rw [cntS]; split <;> omega
theorem cntS_le : ∀ (l : List ByteArray) (s : ByteArray), cntS l s ≤ l.length
  | [], _ => by simp [cntS]
  | a :: l, s => by have := cntS_le l s; rw [cntS]; simp; split <;> omega
theorem cntS_pos : ∀ (l : List ByteArray) (s : ByteArray), 0 < cntS l s ↔ s ∈ l
  | [], _ => by simp [cntS]
  | a :: l, s => by
    have h1 := cntS_pos l s
    have h2 := cntS_nonneg l s
    rw [cntS, List.mem_cons]
    by_cases h : a = s
    · rw [if_pos h]; simp [h]; omega
    · rw [if_neg h]
      have : ¬ s = a := fun e => h e.symm
      simp [this, ← h1]
theorem look_meet : ∀ (l : List ByteArray) (m : List (ByteArray × Int)) (s : ByteArray), lookI (meetM m l) s = lookI m s + cntS l s
  | [], m, s => by simp [meetM, cntS]
  | a :: l, m, s => by
    show lookI (meetM (incM m a) l) s = _
    rw [look_meet l, incM, look_setM, cntS]
    by_cases h : a = s
    · subst h; simp; omega
    · simp [h]
theorem look_nil (l : List ByteArray) (s : ByteArray) : lookI (meetM [] l) s = cntS l s := by rw [look_meet]; simp [lookI]
theorem look_has (l : List ByteArray) (s : ByteArray) : decide (0 < lookI (meetM [] l) s) = hasS l s := by
  rw [look_nil]
  apply bool_of_false
  rw [decide_eq_false_iff_not, hasS_no, cntS_pos]
theorem twice_dup (l : List ByteArray) : twiceM [] l = dupB l := by
  suffices h : ∀ r : List ByteArray, twiceM [] r.reverse = dupB r.reverse by simpa using h l.reverse
  intro r
  induction r with
  | nil => rfl
  | cons s r ih =>
    rw [List.reverse_cons, twiceM_snoc, ih, dupB_snoc, ← look_has]
    congr 1
    apply bool_of_false
    simp
    omega
theorem incM_len (m : List (ByteArray × Int)) (s : ByteArray) : (incM m s).length ≤ m.length + 1 := by
  unfold incM
  generalize lookI m s + 1 = v
  induction m with
  | nil => simp [setM]
  | cons p m ih =>
    unfold setM
    split
    · simp
    · simp; omega
theorem meetM_len : ∀ (l : List ByteArray) (m : List (ByteArray × Int)), (meetM m l).length ≤ m.length + l.length
  | [], m => by simp [meetM]
  | a :: l, m => by
    have h1 := meetM_len l (incM m a)
    have h2 := incM_len m a
    show (meetM (incM m a) l).length ≤ _
    simp; omega
end Go.Proofs.YtefjhehgpkljcaaGreatDoor.Mt
namespace Go.Proofs.YtefjhehgpkljcaaGreatDoor
open Go Go.RowKit Go.Maps Go.ChangeMaps Mt Mp

theorem mapT : Tryz.prog.underlying 87 = some (.map 9 3) := by kernel_rfl
theorem mapK : Tryz.prog.underlying 9 = some .string := by kernel_rfl
theorem mapZ (w : World) : (zeroValue 3).run Tryz.prog w = .ok (.int .i64 0) w := by kernel_rfl
/-- names.has: was a name met? -/
theorem cHas (r : Nat) (m : List (ByteArray × Int)) (s : ByteArray) (w : World) (hM : CntOf w r m) :
    Calls Tryz.prog 65 #[.agg #[.map (some r)], .string s] w fun e w' => e = .returned (.bool (decide (0 < lookI m s))) ∧ Below w.heap.size w w' := by
  have hB0 : Below w.heap.size w (w.alloc (.cells #[.map (some r)] 89)) := (by repeat (first | exact Below.refl _ _ | assumption | exact (Below.refl _ _).alloc (Nat.le_refl _) _ | refine below_tr ?_ (by assumption) | refine below_alloc ?_ | refine below_tr ?_ (below_regrown _ _ _)))
  have hl := run_lookup_str (P := Tryz.prog) mapT mapK (mapZ _) (hM.on hB0) s
  generalize lookI m s = v at *
  clear hM
  go_enter Tryz.func65, Tryz.ntmps65
  go_wp2
  go_ret
  exact ⟨rfl, hB0⟩
def MeetS (r : Nat) (m : List (ByteArray × Int)) (l : List ByteArray) (w : World) (e : Ending) (w' : World) : Prop := e = .returned (.bool (twiceM m l)) ∧ CntOf w' r (meetM m l) ∧ w.grownBy w' (some r)
def MeetSL (r b : Nat) (m : List (ByteArray × Int)) (l : List ByteArray) (w : World) (tw i : Value) (wr : World) : Prop :=
  ∃ k : Nat, k ≤ l.length ∧ i = .int .i64 k ∧ tw = .bool (twiceM m (l.take k)) ∧ CntOf wr r (meetM m (l.take k)) ∧ w.grownBy wr (some r) ∧ wr.cell? ⟨b, 0, none⟩ = some (.map (some r)) ∧ b < wr.heap.size
set_option maxRecDepth 10000 in
set_option maxHeartbeats 2000000 in
theorem cMeet (r : Nat) (m : List (ByteArray × Int)) (l : List ByteArray) (A : Option Addr) (c : Nat) (w : World) (hM : CntOf w r m) (hr : Rd w A (l.map Value.string)) (hl : l.length ≤ 1000000)
    (hm : ∀ s, 0 ≤ lookI m s ∧ lookI m s ≤ 1000000000) :
    Calls Tryz.prog 61 #[.agg #[.map (some r)], .slice A l.length c] w (MeetS r m l w) := by
  have hl' : (l.length : Int) ≤ 1000000 := by omega
  have hrw := lt_of_cnt hM
  have hB0 : Below w.heap.size w (w.alloc (.cells #[.map (some r)] 89)) := (by repeat (first | exact Below.refl _ _ | assumption | exact (Below.refl _ _).alloc (Nat.le_refl _) _ | refine below_tr ?_ (by assumption) | refine below_alloc ?_ | refine below_tr ?_ (below_regrown _ _ _)))
  have hg0 : w.grownBy (w.alloc (.cells #[.map (some r)] 89)) (some r) := World.grownBy_alloc w _ _
  have hb0 : (w.alloc (.cells #[.map (some r)] 89)).cell? ⟨w.heap.size, 0, none⟩ = some (.map (some r)) := by rw [World.cell?, heap_alloc_new]; rfl
  have hz0 : w.heap.size < (w.alloc (.cells #[.map (some r)] 89)).heap.size := by simp
  go_enter Tryz.func61, Tryz.ntmps61
  go_wp2
  go_loopw [4, 9] (MeetSL r w.heap.size m l w) (fun _ i _ => l.length - (intOf i).toNat)
  case atStart => exact ⟨0, by omega, rfl, rfl, hM.on hB0, hg0, hb0, hz0⟩
  case round =>
    have HM := Lib.hid hM
    clear hB0 hg0 hb0 hz0 hM
    obtain ⟨k, hk, rfl, rfl, hMk, hg, hb, hz⟩ := hrel
    by_cases hlt : k < l.length
    · obtain ⟨s, hs⟩ : ∃ x, l[k]? = some x := ⟨_, List.getElem?_eq_getElem hlt⟩
      have hA : ∀ a, A = some a → a.block ≠ r := by
        obtain ⟨g, o, rfl, c0⟩ := hr.at_ (j := k) (u := .string s) (by simp [hs])
        intro a ha e
        injection ha with ha
        subst ha
        simp only at e
        subst e
        have h1 := HM.out
        unfold CntOf at h1
        rw [World.cell?] at c0
        simp only [h1] at c0
        simp at c0
      obtain ⟨g, o, rfl, c0⟩ := (hr.grown hg (fun a ha e => hA a ha (by injection e))).at_ (j := k) (u := .string s) (by simp [hs])
      have Ht : Hid (twiceM m (l.take (k + 1)) = (twiceM m (l.take k) || decide (1 < lookI (meetM m (l.take k)) s + 1))) := by show _ = _; rw [take_snoc_of hs, twiceM_snoc]
      have Hmm : Hid (meetM m (l.take (k + 1)) = setM (meetM m (l.take k)) s (lookI (meetM m (l.take k)) s + 1)) := by show _ = _; rw [take_snoc_of hs, meetM_snoc]; rfl
      have hlo : 0 ≤ lookI (meetM m (l.take k)) s ∧ lookI (meetM m (l.take k)) s ≤ 2000000000 := by
        rw [look_meet]
        have h1 := cntS_le (l.take k) s
        have h2 := cntS_nonneg (l.take k) s
        have h3 := hm s
        rw [List.length_take] at h1
        omega
      have hl1 := run_lookup_str (P := Tryz.prog) mapT mapK (mapZ wr) hMk s
      generalize hmk : meetM m (l.take k) = mk at *
      have hrr := lt_of_cnt hMk
      have hMk2 := putM_cnt hrr (setM mk s (lookI mk s + 1))
      have hg2 := hg.trans (putM_grown wr r (setM mk s (lookI mk s + 1)))
      have hb2 : (putM wr r (setM mk s (lookI mk s + 1))).cell? ⟨w.heap.size, 0, none⟩ = some (.map (some r)) := by
        rw [(putM_grown wr r _).cell_far _ hz (fun e => by injection e with e; simp at e; omega)]; exact hb
      have hz2 : w.heap.size < (putM wr r (setM mk s (lookI mk s + 1))).heap.size := Nat.lt_of_lt_of_le hz (putM_grown wr r _).size
      have hl2 := run_lookup_str (P := Tryz.prog) mapT mapK (mapZ _) hMk2 s
      rw [look_setM, if_pos rfl] at hl2
      obtain ⟨hv0, hv1⟩ := hlo
      have Hfin := Lib.hid (And.intro hMk2 (And.intro hg2 (And.intro hb2 hz2)))
      generalize lookI mk s = v at *
      generalize twiceM m (l.take k) = tw at *
      clear hs hr hA hm hmk hMk2 hg2 hg hz2
      obtain ⟨W2, hW2⟩ : ∃ W, putM wr r (setM mk s (v + 1)) = W := ⟨_, rfl⟩
      rw [hW2] at hb2 hl2 Hfin
      have HW2 := Lib.hid hW2
      clear hW2
      cases tw
      · go_wp2_with (at_mapUpdate; refine wpList_mapUpdate_str rfl _ _ _ _ rfl mapT mapK rfl hMk s (v + 1) rfl rfl ?_; rw [HW2.out])
        go_roundw
        case rel => exact ⟨k + 1, by omega, by go_num, by rw [Ht.out]; rfl, by rw [Hmm.out]; exact Hfin.out.1, Hfin.out.2⟩
        case measure => simp [intOf]; omega
      · go_wp2_with (at_mapUpdate; refine wpList_mapUpdate_str rfl _ _ _ _ rfl mapT mapK rfl hMk s (v + 1) rfl rfl ?_; rw [HW2.out])
        go_roundw
        case rel => exact ⟨k + 1, by omega, by go_num, by rw [Ht.out]; rfl, by rw [Hmm.out]; exact Hfin.out.1, Hfin.out.2⟩
        case measure => simp [intOf]; omega
    · have Hk2 : Hid (l.take k = l) := List.take_of_length_le (by omega)
      clear hr hm
      go_wp2
      go_ret
      exact ⟨by rw [Hk2.out]; rfl, by rw [← Hk2.out]; exact hMk, hg⟩
end Go.Proofs.YtefjhehgpkljcaaGreatDoor
