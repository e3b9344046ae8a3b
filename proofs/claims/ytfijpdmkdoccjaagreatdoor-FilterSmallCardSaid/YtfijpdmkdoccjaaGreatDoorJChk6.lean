/- Whether a query may be asked, in plain words. Names counted in a map, in plain words. The program's package check, walked: names.meet, names.has. The program's package check, walked: checker.keys, over. The program's package check, walked: used, Query. -/
import Derived.Test.YtfijpdmkdoccjaaGreatDoorJMetMath
import Derived.Test.YtfijpdmkdoccjaaGreatDoorJMapStr
import Derived.Test.YtfijpdmkdoccjaaGreatDoorJAppG
import Derived.Test.YtfijpdmkdoccjaaGreatDoorJChk5
import Derived.Test.YtfijpdmkdoccjaaGreatDoorJQRight4
import Derived.Test.YtfijpdmkdoccjaaGreatDoorJTms
namespace Go.Proofs.YtfijpdmkdoccjaaGreatDoor.Mt
open Go

/-- Does a name stand twice? -/
def dupB : List ByteArray → Bool
  | [] => false
  | a :: l => hasS l a || dupB l
theorem dupB_no : ∀ {l : List ByteArray}, dupB l = false ↔ l.Nodup
  | [] => by simp [dupB]
  | a :: l => by rw [dupB, Bool.or_eq_false_iff, hasS_no, dupB_no, List.nodup_cons]
theorem bool_of_false {a b : Bool} (h : a = false ↔ b = false) : a = b := by cases a <;> cases b <;> simp_all
theorem dupB_perm {a b : List ByteArray} (h : a.Perm b) : dupB a = dupB b := bool_of_false (by rw [dupB_no, dupB_no]; exact h.nodup_iff)
theorem dupB_snoc (l : List ByteArray) (s : ByteArray) : dupB (l ++ [s]) = (dupB l || hasS l s) := by
  apply bool_of_false
  rw [Bool.or_eq_false_iff, dupB_no, dupB_no, hasS_no, List.nodup_append]
  constructor
  · rintro ⟨h1, _, h3⟩
    exact ⟨h1, fun hs => h3 s hs s (by simp) rfl⟩
  · rintro ⟨h1, h2⟩
    exact ⟨h1, by simp, fun a ha b hb e => by simp at hb; subst hb; subst e; exact h2 ha⟩
theorem dupB_sub {a b : List ByteArray} (h : a.Sublist b) (hb : dupB b = false) : dupB a = false := dupB_no.2 ((dupB_no.1 hb).sublist h)
/-- Is some name not known? -/
def lackB (known l : List ByteArray) : Bool := l.any fun s => !hasS known s
theorem lackB_no {known l : List ByteArray} : lackB known l = false ↔ ∀ s ∈ l, s ∈ known := by
  unfold lackB
  rw [List.any_eq_false]
  constructor
  · intro h s hs
    have := h s hs
    rw [← hasS_iff]
    simpa using this
  · intro h s hs
    have := hasS_iff.2 (h s hs)
    simp [this]
theorem lackB_congr {k1 k2 l1 l2 : List ByteArray} (hk : ∀ x, x ∈ k1 ↔ x ∈ k2) (hl : ∀ x, x ∈ l1 ↔ x ∈ l2) : lackB k1 l1 = lackB k2 l2 :=
  bool_of_false (by rw [lackB_no, lackB_no]; exact ⟨fun h s hs => (hk s).1 (h s ((hl s).2 hs)), fun h s hs => (hk s).2 (h s ((hl s).1 hs))⟩)
/-- Why a query may not be asked. -/
def errQ (right : Bool) (vars keys used known : List ByteArray) : Int :=
  if right then (if dupB vars || dupB keys then 9 else if lackB known (vars ++ keys ++ used) then 15 else 0) else 2
theorem errQ_congr {r1 r2 : Bool} {v1 v2 k1 k2 u1 u2 n1 n2 : List ByteArray} (hr : r1 = r2) (hv : v1.Perm v2) (hk : k1.Perm k2) (hu : ∀ x, x ∈ u1 ↔ x ∈ u2) (hn : ∀ x, x ∈ n1 ↔ x ∈ n2) : errQ r1 v1 k1 u1 n1 = errQ r2 v2 k2 u2 n2 := by
  unfold errQ
  rw [hr, dupB_perm hv, dupB_perm hk, lackB_congr (l2 := v2 ++ k2 ++ u2) hn (fun x => by simp only [List.mem_append, hv.mem_iff, hk.mem_iff, hu])]
theorem errQ_zero {r : Bool} {v k u n : List ByteArray} : errQ r v k u n = 0 ↔ r = true ∧ v.Nodup ∧ k.Nodup ∧ ∀ s ∈ v ++ k ++ u, s ∈ n := by
  unfold errQ
  cases r
  · simp
  · simp only [if_true]
    cases h1 : (dupB v || dupB k)
    · rw [Bool.or_eq_false_iff, dupB_no, dupB_no] at h1
      cases h2 : lackB n (v ++ k ++ u)
      · rw [lackB_no] at h2
        simp only [Bool.false_eq_true, if_false, true_and]
        exact ⟨fun _ => ⟨h1.1, h1.2, h2⟩, fun _ => trivial⟩
      · simp only [Bool.false_eq_true, if_false, if_true, true_and]
        constructor
        · intro h; cases h
        · rintro ⟨_, _, h⟩
          rw [lackB_no.2 h] at h2; cases h2
    · simp only [if_true, true_and]
      constructor
      · intro h; cases h
      · rintro ⟨h3, h4, _⟩
        rw [dupB_no.2 h3, dupB_no.2 h4] at h1; cases h1
theorem errQ_arg {r : Bool} {v k u n : List ByteArray} : (errQ r v k u n = 2) ↔ r = false := by
  unfold errQ
  cases r
  · simp
  · simp only [if_true]
    split
    · simp
    · split <;> simp
/-- What a query needs: of what is known, what is used. -/
def needN (known l : List ByteArray) : List ByteArray := known.filter fun s => hasS l s
theorem needN_snoc (known l : List ByteArray) (s : ByteArray) : needN (known ++ [s]) l = needN known l ++ if hasS l s then [s] else [] := by
  unfold needN
  rw [List.filter_append]
  cases h : hasS l s <;> simp [h]
theorem needN_len (known l : List ByteArray) : (needN known l).length ≤ known.length := List.length_filter_le _ _
theorem needN_mem {known l : List ByteArray} {s : ByteArray} : s ∈ needN known l ↔ s ∈ known ∧ s ∈ l := by unfold needN; rw [List.mem_filter, hasS_iff]
theorem needN_congr {known l l' : List ByteArray} (h : ∀ x, x ∈ l ↔ x ∈ l') : needN known l = needN known l' := by
  unfold needN
  congr 1
  funext s
  exact bool_of_false (by rw [hasS_no, hasS_no, h])
end Go.Proofs.YtfijpdmkdoccjaaGreatDoor.Mt
namespace Go.Proofs.YtfijpdmkdoccjaaGreatDoor.Mt
open Go Mp

def incM (m : List (ByteArray × Int)) (s : ByteArray) : List (ByteArray × Int) := setM m s (lookI m s + 1)
def meetM (m : List (ByteArray × Int)) (l : List ByteArray) : List (ByteArray × Int) := l.foldl incM m
theorem meetM_snoc (m : List (ByteArray × Int)) (l : List ByteArray) (s : ByteArray) : meetM m (l ++ [s]) = incM (meetM m l) s := by simp [meetM]
theorem meetM_app (m : List (ByteArray × Int)) (a b : List ByteArray) : meetM m (a ++ b) = meetM (meetM m a) b := by simp [meetM]
/-- Was a name there that was there before? -/
def twiceM (m : List (ByteArray × Int)) : List ByteArray → Bool
  | [] => false
  | s :: l => decide (1 < lookI m s + 1) || twiceM (incM m s) l
theorem twiceM_snoc : ∀ (l : List ByteArray) (m : List (ByteArray × Int)) (s : ByteArray), twiceM m (l ++ [s]) = (twiceM m l || decide (1 < lookI (meetM m l) s + 1))
  | [], m, s => by show (decide (1 < lookI m s + 1) || false) = (false || _); rw [Bool.or_false, Bool.false_or]; rfl
  | a :: l, m, s => by
    rw [List.cons_append, twiceM, twiceM_snoc l, twiceM, Bool.or_assoc]
    rfl
/-- How often a name stands. -/
def cntS : List ByteArray → ByteArray → Int
  | [], _ => 0
  | a :: l, s => (if a = s then 1 else 0) + cntS l s
theorem cntS_nonneg : ∀ (l : List ByteArray) (s : ByteArray), 0 ≤ cntS l s
  | [], _ => by simp [cntS]
  | a :: l, s => by have := cntS_nonneg l s; rw [cntS]; split <;> omega
theorem cntS_le : ∀ (l : List ByteArray) (s : ByteArray), cntS l s ≤ l.length
  | [], _ => by simp [cntS]
  | a :: l, s => by have := cntS_le l s; rw [cntS]; simp; split <;> omega
theorem cntS_pos : ∀ (l : List ByteArray) (s : ByteArray), 0 < cntS l s ↔ s ∈ l
  | [], _ => by simp [cntS]
  | a :: l, s => by
    have h1 := cntS_pos l s
    have h2 := cntS_nonneg l s
    rw [cntS, List.mem_cons]
    by_cases h : a = s
    · rw [if_pos h]; simp [h]; omega
    · rw [if_neg h]
      have : ¬ s = a := fun e => h e.symm
      simp [this, ← h1]
theorem look_meet : ∀ (l : List ByteArray) (m : List (ByteArray × Int)) (s : ByteArray), lookI (meetM m l) s = lookI m s + cntS l s
  | [], m, s => by simp [meetM, cntS]
  | a :: l, m, s => by
    show lookI (meetM (incM m a) l) s = _
    rw [look_meet l, incM, look_setM, cntS]
    by_cases h : a = s
    · subst h; simp; omega
    · simp [h]
theorem look_nil (l : List ByteArray) (s : ByteArray) : lookI (meetM [] l) s = cntS l s := by rw [look_meet]; simp [lookI]
theorem look_has (l : List ByteArray) (s : ByteArray) : decide (0 < lookI (meetM [] l) s) = hasS l s := by
  rw [look_nil]
  apply bool_of_false
  rw [decide_eq_false_iff_not, hasS_no, cntS_pos]
theorem twice_dup (l : List ByteArray) : twiceM [] l = dupB l := by
  suffices h : ∀ r : List ByteArray, twiceM [] r.reverse = dupB r.reverse by simpa using h l.reverse
  intro r
  induction r with
  | nil => rfl
  | cons s r ih =>
    rw [List.reverse_cons, twiceM_snoc, ih, dupB_snoc, ← look_has]
    congr 1
    apply bool_of_false
    simp
    omega
theorem incM_len (m : List (ByteArray × Int)) (s : ByteArray) : (incM m s).length ≤ m.length + 1 := by
  unfold incM
  generalize lookI m s + 1 = v
  induction m with
  | nil => simp [setM]
  | cons p m ih =>
    unfold setM
    split
    · simp
    · simp; omega
theorem meetM_len : ∀ (l : List ByteArray) (m : List (ByteArray × Int)), (meetM m l).length ≤ m.length + l.length
  | [], m => by simp [meetM]
  | a :: l, m => by
    have h1 := meetM_len l (incM m a)
    have h2 := incM_len m a
    show (meetM (incM m a) l).length ≤ _
    simp; omega
end Go.Proofs.YtfijpdmkdoccjaaGreatDoor.Mt
namespace Go.Proofs.YtfijpdmkdoccjaaGreatDoor
open Go Go.RowKit Go.Maps Go.ChangeMaps Mt Mp

theorem mapK : Tryz.prog.underlying 9 = some .string := by kernel_rfl
theorem mapZ (w : World) : (zeroValue 3).run Tryz.prog w = .ok (.int .i64 0) w := by kernel_rfl
def MeetS (r : Nat) (m : List (ByteArray × Int)) (l : List ByteArray) (w : World) (e : Ending) (w' : World) : Prop := e = .returned (.bool (twiceM m l)) ∧ CntOf w' r (meetM m l) ∧ w.grownBy w' (some r)
def MeetSL (r b : Nat) (m : List (ByteArray × Int)) (l : List ByteArray) (w : World) (tw i : Value) (wr : World) : Prop :=
  ∃ k : Nat, k ≤ l.length ∧ i = .int .i64 k ∧ tw = .bool (twiceM m (l.take k)) ∧ CntOf wr r (meetM m (l.take k)) ∧ w.grownBy wr (some r) ∧ wr.cell? ⟨b, 0, none⟩ = some (.map (some r)) ∧ b < wr.heap.size
end Go.Proofs.YtfijpdmkdoccjaaGreatDoor
namespace Go.Proofs.YtfijpdmkdoccjaaGreatDoor
open Go Go.RowKit Go.Maps Go.ChangeMaps Um Fm Mt Mp

def KeysL (ord : List Ky) (w : World) (v i : Value) (wr : World) : Prop := ∃ (k : Nat) (v' : Value), k ≤ ord.length ∧ i = .int .i64 k ∧ v = v' ∧ wr.ownsRow w.heap.size 9 1 v' k ((ord.take k).map fun y => Value.string y.v) ∧ Below w.heap.size w wr
def keysN (ord : List Ky) : List ByteArray := ord.map (·.v)
def OverR (l : List ByteArray) (ask dist : Bool) (nv np nf nk : Nat) (a1 a2 a3 a4 : Option Addr) (c1 c2 c3 c4 : Nat) (lim off : Int) (w : World) (e : Ending) (w' : World) : Prop :=
  ∃ r, e = .returned (.agg #[.map (some r), .bool ask, .bool dist, .slice a1 nv c1, .slice a2 np c2, .slice a3 nf c3, .slice a4 nk c4, .int .i64 lim, .int .i64 off]) ∧ CntOf w' r (meetM [] l) ∧ w.heap.size ≤ r ∧ Below w.heap.size w w'
end Go.Proofs.YtfijpdmkdoccjaaGreatDoor
namespace Go.Proofs.YtfijpdmkdoccjaaGreatDoor
open Go Go.RowKit Go.Maps Go.ChangeMaps Go.Shelf Um Fm Mt Mp
attribute [local go_sem] Oper.semAt_some

theorem own_block {w : World} {base : Nat} {e : TypeId} {size n : Nat} {A : Option Addr} {m c : Nat} {xs : List Value} (h : w.ownsRow base e size (.slice A m c) n xs) : ∀ a, A = some a → base ≤ a.block ∧ a.block < w.heap.size := by
  intro a ha
  exact h.lt a.block (by rw [ha]; rfl)
/-- A query's things are few. -/
def fewQ {n : Nat} (q : Qy n) : Prop := q.vars.length ≤ 100000 ∧ q.pats.length ≤ 300000 ∧ q.ord.length ≤ 100000 ∧ q.fils.length ≤ 1353245080300 ∧ (∀ x ∈ q.fils, szE n x) ∧ (q.fils.flatMap (preE n)).length ≤ 500000
/-- The names that a query tells, sorts by, filters by. -/
def saidQ {n : Nat} (q : Qy n) : List ByteArray := q.vars ++ (keysN q.ord ++ usedN n q.fils)
theorem keysN_len (l : List Ky) : (keysN l).length = l.length := List.length_map _
theorem saidQ_len {n : Nat} {q : Qy n} (h : fewQ q) : (saidQ q).length ≤ 700000 := by
  have := usedN_len n q.fils
  obtain ⟨h1, h2, h3, h4, h5, h6⟩ := h
  unfold saidQ
  rw [List.length_append, List.length_append, keysN_len]
  omega
theorem rdLs3 {w : World} {A B C : Option Addr} {a b c : List ByteArray} {ca cb cc : Nat} {D : Nat} (hd : w.heap[D]? = some (.cells #[.slice A a.length ca, .slice B b.length cb, .slice C c.length cc] 24 (0, 0))) (h1 : Rd w A (a.map Value.string)) (h2 : Rd w B (b.map Value.string)) (h3 : Rd w C (c.map Value.string)) :
    RdLs w (some ⟨D, 0, none⟩) [a, b, c] :=
  ⟨[.slice A a.length ca] ++ ([.slice B b.length cb] ++ [.slice C c.length cc]), Rd.of_block hd rfl, All.append (l := [a]) (All.one rfl ⟨_, _, rfl, h1⟩) (All.append (l := [b]) (All.one rfl ⟨_, _, rfl, h2⟩) (All.one rfl ⟨_, _, rfl, h3⟩))⟩

/-- The texts that an iterator of slices.Values goes through, from block S on. -/
def SeqFrom (S : Nat) (w : World) (Bp : Nat) (l : List ByteArray) : Prop := ∃ A c, w.cell? ⟨Bp, 0, none⟩ = some (.slice A l.length c) ∧ Rd w A (l.map Value.string) ∧ S ≤ Bp ∧ ∀ a, A = some a → S ≤ a.block
theorem SeqFrom.at_ {S : Nat} {w : World} {Bp : Nat} {l : List ByteArray} (h : SeqFrom S w Bp l) : SeqAt w Bp l := by
  obtain ⟨A, c, h1, h2, _⟩ := h
  exact ⟨A, c, h1, h2⟩
end Go.Proofs.YtfijpdmkdoccjaaGreatDoor
