/- Lists in memory, and conditions as trees, by depth; how they lie in memory. What a condition is in a row, in plain words. Terms in memory. -/
import Derived.Test.YtffpgandgajihaaGreatDoorJRegion
import Derived.Test.YtffpgandgajihaaGreatDoorJFilMath
import Derived.Lib.SlicesS
import Derived.Test.YtffpgandgajihaaGreatDoorJMem
namespace Go.Proofs.YtffpgandgajihaaGreatDoor
open Go Go.RowKit Fm

/-- Cells that read as a list, sz cells each. -/
def All {α : Type} (sz : Nat) (R : List Value → α → Prop) : List Value → List α → Prop
  | xs, [] => xs = []
  | xs, e :: l => ∃ cs ys, xs = cs ++ ys ∧ cs.length = sz ∧ R cs e ∧ All sz R ys l

section
variable {α : Type} {sz : Nat} {R : List Value → α → Prop}
theorem All.len : ∀ {l : List α} {xs : List Value}, All sz R xs l → xs.length = l.length * sz
  | [], xs, h => by cases h; simp
  | e :: l, xs, ⟨cs, ys, hx, hc, _, h⟩ => by subst hx; simp [hc, h.len, Nat.add_mul]; omega
theorem All.at_ : ∀ {l : List α} {xs : List Value}, All sz R xs l → ∀ {j : Nat} {e : α}, l[j]? = some e → ∃ cs, cs.length = sz ∧ R cs e ∧ ∀ i u, cs[i]? = some u → xs[j * sz + i]? = some u
  | [], _, _, j, e, he => by simp at he
  | a :: l, xs, ⟨cs, ys, hx, hc, hr, h⟩, j, e, he => by
    subst hx
    rcases j with _ | j
    · simp at he; subst he
      refine ⟨cs, hc, hr, fun i u hu => ?_⟩
      have : i < cs.length := by
        rcases Nat.lt_or_ge i cs.length with h1 | h1
        · exact h1
        · rw [List.getElem?_eq_none h1] at hu; cases hu
      rw [Nat.zero_mul, Nat.zero_add, List.getElem?_append_left this]; exact hu
    · simp at he
      obtain ⟨ds, hd, hr2, h2⟩ := h.at_ he
      refine ⟨ds, hd, hr2, fun i u hu => ?_⟩
      rw [List.getElem?_append_right (by rw [hc, Nat.add_mul]; omega), show (j + 1) * sz + i - cs.length = j * sz + i by rw [hc, Nat.add_mul]; omega]
      exact h2 i u hu
theorem All.append : ∀ {l m : List α} {xs ys : List Value}, All sz R xs l → All sz R ys m → All sz R (xs ++ ys) (l ++ m)
  | [], _, _, _, h, h2 => by cases h; exact h2
  | _ :: _, _, _, _, ⟨cs, zs, hx, hc, hr, h⟩, h2 => ⟨cs, _, by rw [hx, List.append_assoc], hc, hr, h.append h2⟩
theorem All.one {cs : List Value} {e : α} (hc : cs.length = sz) (hr : R cs e) : All sz R cs [e] := ⟨cs, [], by simp, hc, hr, rfl⟩
theorem All.mono {R' : List Value → α → Prop} : ∀ {l : List α} {xs : List Value}, All sz R xs l → (∀ cs e, e ∈ l → R cs e → R' cs e) → All sz R' xs l
  | [], _, h, _ => h
  | e :: _, _, ⟨cs, ys, hx, hc, hr, h⟩, hm => ⟨cs, ys, hx, hc, hm cs e (by simp) hr, h.mono fun cs e he => hm cs e (by simp [he])⟩
theorem All.drop : ∀ {l : List α} {xs : List Value}, All sz R xs l → ∀ k, All sz R (xs.drop (k * sz)) (l.drop k)
  | [], _, h, k => by cases h; simp [All]
  | e :: l, xs, h, 0 => by simpa using h
  | e :: l, xs, ⟨cs, ys, hx, hc, hr, h⟩, k + 1 => by
    subst hx
    rw [List.drop_append, List.drop_eq_nil_of_le (by rw [hc, Nat.add_mul]; omega), List.nil_append, show (k + 1) * sz - cs.length = k * sz by rw [hc, Nat.add_mul]; omega, List.drop_succ_cons]
    exact h.drop k
theorem All.take : ∀ {l : List α} {xs : List Value}, All sz R xs l → ∀ k, All sz R (xs.take (k * sz)) (l.take k)
  | [], _, h, k => by cases h; simp [All]
  | e :: l, xs, h, 0 => by simp [All]
  | e :: l, xs, ⟨cs, ys, hx, hc, hr, h⟩, k + 1 => by
    subst hx
    refine ⟨cs, _, ?_, hc, hr, h.take k⟩
    rw [List.take_append, List.take_of_length_le (by rw [hc, Nat.add_mul]; omega), show (k + 1) * sz - cs.length = k * sz by rw [hc, Nat.add_mul]; omega]
theorem All.flat {f : α → List Value} : ∀ {l : List α} {xs : List Value}, All sz (fun cs e => cs = f e) xs l → xs = l.flatMap f
  | [], _, h => h
  | _ :: _, _, ⟨_, _, hx, _, hr, h⟩ => by rw [hx, hr, h.flat]; rfl
theorem All.of_flat {f : α → List Value} : ∀ (l : List α), (∀ e ∈ l, (f e).length = sz) → All sz (fun cs e => cs = f e) (l.flatMap f) l
  | [], _ => rfl
  | e :: l, h => ⟨f e, _, rfl, h e (by simp), rfl, All.of_flat l fun e he => h e (by simp [he])⟩
end

/-- A slice that starts at A reads as a list. -/
def RdL {α : Type} (sz : Nat) (R : List Value → α → Prop) (w : World) (A : Option Addr) (l : List α) : Prop := ∃ xs, Rd w A xs ∧ All sz R xs l
theorem RdL.nil {α : Type} (sz : Nat) (R : List Value → α → Prop) (w : World) (A : Option Addr) : RdL sz R w A [] := ⟨[], Rd.nil _ _, rfl⟩
theorem RdL.at_ {α : Type} {sz : Nat} {R : List Value → α → Prop} {w : World} {A : Option Addr} {l : List α} (h : RdL sz R w A l) (hs : 0 < sz) {j : Nat} {e : α} (he : l[j]? = some e) :
    ∃ g o cs, A = some ⟨g, o, none⟩ ∧ cs.length = sz ∧ R cs e ∧ ∀ i u, cs[i]? = some u → w.cell? ⟨g, o + j * sz + i, none⟩ = some u := by
  obtain ⟨xs, hr, ha⟩ := h
  obtain ⟨cs, hc, hR, hx⟩ := ha.at_ he
  rcases hr with rfl | ⟨g, o, hA, hcell⟩
  · have h0 := hx 0 (cs[0]'(by omega)) (List.getElem?_eq_getElem _)
    simp at h0
  · exact ⟨g, o, cs, hA, hc, hR, fun i u hu => by rw [show o + j * sz + i = o + (j * sz + i) by omega]; exact hcell _ u (hx i u hu)⟩
theorem RdL.mono {α : Type} {sz : Nat} {R R' : List Value → α → Prop} {w w' : World} {A : Option Addr} {l : List α} (h : RdL sz R w A l) (hb : Below w.heap.size w w') (hm : ∀ cs e, e ∈ l → R cs e → R' cs e) : RdL sz R' w' A l := by
  obtain ⟨xs, hr, ha⟩ := h
  exact ⟨xs, hr.below hb (Nat.le_refl _), ha.mono hm⟩

/-- A condition of depth n at most: kind, variable, term, kids. -/
def ExT : Nat → Type
  | 0 => Empty
  | n + 1 => Int × ByteArray × Tm × List (ExT n)

/-- What a condition's cells read as. -/
def RdE : (n : Nat) → World → List Value → ExT n → Prop
  | 0, _, _, _ => False
  | n + 1, w, cs, (k, s, t, kids) => ∃ (A : Option Addr) (c : Nat), cs = [.int .i64 k, .string s, .int .i64 t.k, .string t.x, .string t.l, .string t.y, .slice A kids.length c] ∧ kids.length ≤ c ∧ RdL 7 (RdE n w) w A kids
abbrev RdEs (n : Nat) (w : World) (A : Option Addr) (l : List (ExT n)) : Prop := RdL 7 (RdE n w) w A l

theorem RdE.later : ∀ {n : Nat} {w w' : World} {v : List Value} {e : ExT n}, RdE n w v e → Below w.heap.size w w' → RdE n w' v e
  | 0, _, _, _, _, h, _ => h.elim
  | _n + 1, _w, _w', _v, (_k, _s, _t, _kids), ⟨A, c, hv, hc, hk⟩, hb => ⟨A, c, hv, hc, hk.mono hb fun _ _ _ h => h.later hb⟩
theorem RdEs.later {n : Nat} {w w' : World} {A : Option Addr} {l : List (ExT n)} (h : RdEs n w A l) (hb : Below w.heap.size w w') : RdEs n w' A l := h.mono hb fun _ _ _ h => h.later hb
theorem RdE.len : ∀ {n : Nat} {w : World} {v : List Value} {e : ExT n}, RdE n w v e → v.length = 7
  | 0, _, _, _, h => h.elim
  | n + 1, w, v, (k, s, t, kids), ⟨A, c, hv, hc, hk⟩ => by rw [hv]; rfl
/-- One of them, as it lies. -/
theorem RdEs.at_ {n : Nat} {w : World} {A : Option Addr} {l : List (ExT (n + 1))} (h : RdEs (n + 1) w A l) {j : Nat} {k : Int} {s : ByteArray} {t : Tm} {kids : List (ExT n)} (he : l[j]? = some ((k, s, t, kids) : ExT (n + 1))) :
    ∃ g o A' c', A = some ⟨g, o, none⟩ ∧ kids.length ≤ c' ∧ RdEs n w A' kids ∧ w.cell? ⟨g, o + j * 7, none⟩ = some (.int .i64 k) ∧ w.cell? ⟨g, o + j * 7 + 1, none⟩ = some (.string s) ∧
      w.cell? ⟨g, o + j * 7 + 2, none⟩ = some (.int .i64 t.k) ∧ w.cell? ⟨g, o + j * 7 + 3, none⟩ = some (.string t.x) ∧ w.cell? ⟨g, o + j * 7 + 4, none⟩ = some (.string t.l) ∧ w.cell? ⟨g, o + j * 7 + 5, none⟩ = some (.string t.y) ∧
      w.cell? ⟨g, o + j * 7 + 6, none⟩ = some (.slice A' kids.length c') := by
  obtain ⟨g, o, cs, hA, hc, ⟨A', c', hcs, hle, hk⟩, hx⟩ := RdL.at_ h (by omega) he
  subst hcs
  exact ⟨g, o, A', c', hA, hle, hk, hx 0 _ rfl, hx 1 _ rfl, hx 2 _ rfl, hx 3 _ rfl, hx 4 _ rfl, hx 5 _ rfl, hx 6 _ rfl⟩
/-- The cells of one of them, and what they read as. -/
theorem RdEs.at7 {n : Nat} {w : World} {A : Option Addr} {l : List (ExT n)} (h : RdEs n w A l) {j : Nat} {e : ExT n} (he : l[j]? = some e) :
    ∃ g o u0 u1 u2 u3 u4 u5 u6, A = some ⟨g, o, none⟩ ∧ RdE n w [u0, u1, u2, u3, u4, u5, u6] e ∧ w.cell? ⟨g, o + j * 7, none⟩ = some u0 ∧ w.cell? ⟨g, o + j * 7 + 1, none⟩ = some u1 ∧
      w.cell? ⟨g, o + j * 7 + 2, none⟩ = some u2 ∧ w.cell? ⟨g, o + j * 7 + 3, none⟩ = some u3 ∧ w.cell? ⟨g, o + j * 7 + 4, none⟩ = some u4 ∧ w.cell? ⟨g, o + j * 7 + 5, none⟩ = some u5 ∧
      w.cell? ⟨g, o + j * 7 + 6, none⟩ = some u6 := by
  obtain ⟨g, o, cs, hA, hc, hR, hx⟩ := RdL.at_ h (by omega) he
  match cs, hc, hR, hx with
  | [u0, u1, u2, u3, u4, u5, u6], _, hR, hx => exact ⟨g, o, u0, u1, u2, u3, u4, u5, u6, hA, hR, hx 0 _ rfl, hx 1 _ rfl, hx 2 _ rfl, hx 3 _ rfl, hx 4 _ rfl, hx 5 _ rfl, hx 6 _ rfl⟩
/-- The cells of one of them, spelled, and what they read as. -/
theorem RdEs.atv {n : Nat} {w : World} {A : Option Addr} {l : List (ExT n)} (h : RdEs n w A l) {j : Nat} {e : ExT n} (he : l[j]? = some e) :
    ∃ (g o : Nat) (k : Int) (s : ByteArray) (t : Tm) (A' : Option Addr) (m c : Nat), A = some ⟨g, o, none⟩ ∧ RdE n w [.int .i64 k, .string s, .int .i64 t.k, .string t.x, .string t.l, .string t.y, .slice A' m c] e ∧
      w.cell? ⟨g, o + j * 7, none⟩ = some (.int .i64 k) ∧ w.cell? ⟨g, o + j * 7 + 1, none⟩ = some (.string s) ∧
      w.cell? ⟨g, o + j * 7 + 2, none⟩ = some (.int .i64 t.k) ∧ w.cell? ⟨g, o + j * 7 + 3, none⟩ = some (.string t.x) ∧ w.cell? ⟨g, o + j * 7 + 4, none⟩ = some (.string t.l) ∧ w.cell? ⟨g, o + j * 7 + 5, none⟩ = some (.string t.y) ∧
      w.cell? ⟨g, o + j * 7 + 6, none⟩ = some (.slice A' m c) := by
  obtain ⟨g, o, cs, hA, hc, hR, hx⟩ := RdL.at_ h (by omega) he
  match n, e, hR with
  | n + 1, (k, s, t, kids), hR =>
    have hR' := hR
    obtain ⟨A', c', hcs, hle, hk⟩ := hR'
    subst hcs
    exact ⟨g, o, k, s, t, A', kids.length, c', hA, hR, hx 0 _ rfl, hx 1 _ rfl, hx 2 _ rfl, hx 3 _ rfl, hx 4 _ rfl, hx 5 _ rfl, hx 6 _ rfl⟩
theorem ExT.none {l : List (ExT 0)} : l = [] := by
  cases l with
  | nil => rfl
  | cons a r => exact nomatch (show Empty from a)

/-- Strings and lists of a condition are no longer than memory may hold. -/
def szE : (n : Nat) → ExT n → Prop
  | 0, _ => True
  | n + 1, (_, s, t, kids) => s.size ≤ 140737488351232 ∧ t.x.size ≤ 140737488351232 ∧ kids.length ≤ 1353245080300 ∧ ∀ x ∈ kids, szE n x
end Go.Proofs.YtffpgandgajihaaGreatDoor
namespace Go.Proofs.YtffpgandgajihaaGreatDoor
open Go Go.RowKit Fm

/-- A kid's term. -/
def termP (vars : List ByteArray) (row : List Tm) (k : Int) (s : ByteArray) (t : Tm) (bare : Bool) : Option Tm :=
  if bare then (if k == 2 then some t else if k == 1 then (if Lib.idxOfS vars s < 0 then none else row[(Lib.idxOfS vars s).toNat]?) else none) else none
def termOf (vars : List ByteArray) (row : List Tm) : (n : Nat) → ExT n → Option Tm
  | 0, _ => none
  | _ + 1, (k, s, t, kids) => termP vars row k s t kids.isEmpty
def cmpK (k : Int) (a b : Tm) : Int :=
  if k == 6 then sameI a b else if k == 7 then notI (sameI a b) else if k == 8 then lessI a b else if k == 10 then lessI b a else if k == 9 then notI (lessI b a) else notI (lessI a b)
def kindK (k : Int) (t : Tm) : Int := if k == 12 then toldI (t.k == 1) else if k == 13 then toldI (litB t) else toldI (t.k == 2)
/-- A variable's, a term's truth; a comparison's; that of what a term is. -/
def leafI : Option Tm → Int
  | some t => aloneI t
  | none => 3
def twoI (k : Int) : List (Option Tm) → Int
  | [some a, some b] => cmpK k a b
  | _ => 3
def oneI (k : Int) : List (Option Tm) → Int
  | [some a] => kindK k a
  | _ => 3
def noI : List Int → Int
  | [x] => notI x
  | _ => 3
def isCmp (k : Int) : Bool := decide (6 ≤ k) && decide (k ≤ 11)
def isKind (k : Int) : Bool := decide (12 ≤ k) && decide (k ≤ 14)
/-- What a condition is. -/
def ofI (vars : List ByteArray) (row : List Tm) : (n : Nat) → ExT n → Int
  | 0, _ => 3
  | n + 1, (k, s, t, kids) =>
    if k == 1 || k == 2 then leafI (termP vars row k s t kids.isEmpty)
    else if k == 3 then noI (kids.map (ofI vars row n))
    else if k == 4 then andI (kids.map (ofI vars row n))
    else if k == 5 then orI (kids.map (ofI vars row n))
    else if isCmp k then twoI k (kids.map (termOf vars row n))
    else if isKind k then oneI k (kids.map (termOf vars row n))
    else 3
def hasV (v : ByteArray) : (n : Nat) → ExT n → Bool
  | 0, _ => false
  | n + 1, (k, s, _, kids) => kids.any (hasV v n) || (k == 1 && s.toList == v.toList)

theorem idxFromS_succ (x : ByteArray) : ∀ (zs : List ByteArray) (i : Nat), Lib.idxFromS zs x (i + 1) = if Lib.idxFromS zs x i < 0 then -1 else Lib.idxFromS zs x i + 1
  | [], _ => rfl
  | z :: zs, i => by
    unfold Lib.idxFromS
    by_cases h : z = x
    · simp only [h, if_true]; rw [if_neg (by omega)]; omega
    · simp only [h, if_false]; exact idxFromS_succ x zs (i + 1)
theorem idxFromS_neg (x : ByteArray) : ∀ (zs : List ByteArray) (i : Nat), Lib.idxFromS zs x i < 0 → Lib.idxFromS zs x i = -1
  | [], _, _ => rfl
  | z :: zs, i, h => by
    unfold Lib.idxFromS at h ⊢
    by_cases hz : z = x
    · simp only [hz, if_true] at h; omega
    · simp only [hz, if_false] at h ⊢; exact idxFromS_neg x zs (i + 1) h
theorem idxOfS_cons (z x : ByteArray) (zs : List ByteArray) (h : z ≠ x) : Lib.idxOfS (z :: zs) x = if Lib.idxOfS zs x < 0 then -1 else Lib.idxOfS zs x + 1 := by
  unfold Lib.idxOfS
  rw [Lib.idxFromS, if_neg h, idxFromS_succ]
theorem termP_more {v : ByteArray} {t : Tm} {vars : List ByteArray} {row : List Tm} (k : Int) (s : ByteArray) (u : Tm) (b : Bool) (h : (k == 1 && s.toList == v.toList) = false) : termP (v :: vars) (t :: row) k s u b = termP vars row k s u b := by
    unfold termP
    by_cases h2 : (k == 1) = true
    · have hs : v ≠ s := by
        intro e; subst e
        simp [h2] at h
      rw [idxOfS_cons _ _ _ hs]
      by_cases h3 : Lib.idxOfS vars s < 0
      · simp [h3]
      · have h4 : ¬ (Lib.idxOfS vars s + 1 < 0) := by omega
        simp only [h3, if_false, h4]
        rw [show (Lib.idxOfS vars s + 1).toNat = (Lib.idxOfS vars s).toNat + 1 by omega, List.getElem?_cons_succ]
    · simp [h2]
theorem hasV_parts {v : ByteArray} {n : Nat} {k : Int} {s : ByteArray} {u : Tm} {kids : List (ExT n)} (h : hasV v (n + 1) (k, s, u, kids) = false) : (∀ x ∈ kids, hasV v n x = false) ∧ (k == 1 && s.toList == v.toList) = false := by
  rw [hasV, Bool.or_eq_false_iff] at h
  exact ⟨fun x hx => by have := List.any_eq_false.1 h.1 x hx; simpa using this, h.2⟩
theorem termOf_more {v : ByteArray} {t : Tm} {vars : List ByteArray} {row : List Tm} : ∀ (n : Nat) (x : ExT n), hasV v n x = false → termOf (v :: vars) (t :: row) n x = termOf vars row n x
  | 0, _, _ => rfl
  | _ + 1, (k, s, u, _kids), h => termP_more k s u _ (hasV_parts h).2
theorem ofI_more {v : ByteArray} {t : Tm} {vars : List ByteArray} {row : List Tm} : ∀ {n : Nat} (x : ExT n), hasV v n x = false → ofI (v :: vars) (t :: row) n x = ofI vars row n x
  | 0, _, _ => rfl
  | n + 1, (k, s, u, kids), h => by
    have ht := termP_more (t := t) (vars := vars) (row := row) k s u kids.isEmpty (hasV_parts h).2
    have hk := (hasV_parts h).1
    have m1 : kids.map (ofI (v :: vars) (t :: row) n) = kids.map (ofI vars row n) := List.map_congr_left fun x hx => ofI_more x (hk x hx)
    have m2 : kids.map (termOf (v :: vars) (t :: row) n) = kids.map (termOf vars row n) := List.map_congr_left fun x hx => termOf_more n x (hk x hx)
    rw [ofI, ofI, ht, m1, m2]
theorem toldI_range (b : Bool) : 1 ≤ toldI b ∧ toldI b ≤ 3 := by cases b <;> decide
theorem notI_range (x : Int) : 1 ≤ notI x ∧ notI x ≤ 3 := by unfold notI; repeat (split <;> try omega)
theorem cmpK_range (k : Int) (a b : Tm) : 1 ≤ cmpK k a b ∧ cmpK k a b ≤ 3 := by
  have s : 1 ≤ sameI a b ∧ sameI a b ≤ 3 := by unfold sameI; repeat (split <;> try first | omega | exact toldI_range _)
  have l : ∀ a b : Tm, 1 ≤ lessI a b ∧ lessI a b ≤ 3 := fun a b => by unfold lessI; repeat (split <;> try first | omega | exact toldI_range _)
  unfold cmpK
  repeat (split <;> try first | exact s | exact l _ _ | exact notI_range _)
theorem either_range (s : Int) (hs : 1 ≤ s ∧ s ≤ 3) (l : List Int) : 1 ≤ eitherI s l ∧ eitherI s l ≤ 3 := by
  unfold eitherI; repeat (split <;> try first | omega | exact notI_range _)
theorem ofI_range (vars : List ByteArray) (row : List Tm) : ∀ (n : Nat) (x : ExT n), 1 ≤ ofI vars row n x ∧ ofI vars row n x ≤ 3
  | 0, _ => by rw [ofI]; omega
  | n + 1, (k, s, u, kids) => by
    rw [ofI]
    split
    · unfold leafI; split
      · unfold aloneI; repeat (split <;> try first | omega | exact toldI_range _)
      · omega
    split
    · unfold noI; split <;> first | omega | exact notI_range _
    split
    · exact either_range 2 (by omega) _
    split
    · exact either_range 1 (by omega) _
    split
    · unfold twoI; split <;> first | omega | exact cmpK_range _ _ _
    split
    · unfold oneI kindK; repeat (split <;> try first | omega | exact toldI_range _)
    · omega
end Go.Proofs.YtffpgandgajihaaGreatDoor
namespace Go.Proofs.YtffpgandgajihaaGreatDoor
open Go Go.RowKit Fm

def zTm : Tm := ⟨0, ⟨#[]⟩, ⟨#[]⟩, ⟨#[]⟩⟩
def tmC (t : Tm) : List Value := [.int .i64 t.k, .string t.x, .string t.l, .string t.y]
def tmV (t : Tm) : Value := .agg #[.int .i64 t.k, .string t.x, .string t.l, .string t.y]
def optV (o : Option Tm) : Value := .tuple #[tmV (o.getD zTm), .bool o.isSome]
abbrev RdTs (w : World) (A : Option Addr) (l : List Tm) : Prop := RdL 4 (fun cs t => cs = tmC t) w A l
theorem RdTs.at4 {w : World} {A : Option Addr} {l : List Tm} (h : RdTs w A l) {j : Nat} {t : Tm} (he : l[j]? = some t) :
    ∃ g o, A = some ⟨g, o, none⟩ ∧ w.cell? ⟨g, o + j * 4, none⟩ = some (.int .i64 t.k) ∧ w.cell? ⟨g, o + j * 4 + 1, none⟩ = some (.string t.x) ∧
      w.cell? ⟨g, o + j * 4 + 2, none⟩ = some (.string t.l) ∧ w.cell? ⟨g, o + j * 4 + 3, none⟩ = some (.string t.y) := by
  obtain ⟨g, o, cs, hA, _, hcs, hx⟩ := RdL.at_ h (by omega) he
  subst hcs
  exact ⟨g, o, hA, hx 0 _ rfl, hx 1 _ rfl, hx 2 _ rfl, hx 3 _ rfl⟩
theorem RdTs.later {w w' : World} {A : Option Addr} {l : List Tm} (h : RdTs w A l) (hb : Below w.heap.size w w') : RdTs w' A l := h.mono hb fun _ _ _ h => h
theorem idxOfS_lt (l : List ByteArray) (x : ByteArray) : -1 ≤ Lib.idxOfS l x ∧ Lib.idxOfS l x < l.length := by
  have key : ∀ (l : List ByteArray) (i : Nat), -1 ≤ Lib.idxFromS l x i ∧ Lib.idxFromS l x i < i + l.length ∨ l = [] ∧ Lib.idxFromS l x i = -1 := by
    intro l
    induction l with
    | nil => intro i; exact .inr ⟨rfl, rfl⟩
    | cons z zs ih =>
      intro i
      unfold Lib.idxFromS
      split
      · left; simp; omega
      · rcases ih (i + 1) with h | ⟨h1, h2⟩
        · left; simp; omega
        · left; rw [h2]; simp; omega
  rcases key l 0 with h | ⟨h1, h2⟩
  · unfold Lib.idxOfS; omega
  · unfold Lib.idxOfS; rw [h2, h1]; simp
end Go.Proofs.YtffpgandgajihaaGreatDoor
