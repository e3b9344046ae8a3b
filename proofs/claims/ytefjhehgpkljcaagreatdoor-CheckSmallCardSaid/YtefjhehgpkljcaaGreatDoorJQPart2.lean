/- The program's package query, walked: leaf, part. The program's package query, walked: part. -/
import Derived.Test.YtefjhehgpkljcaaGreatDoorJQRules
import Derived.Test.YtefjhehgpkljcaaGreatDoorJQSlot
import Derived.Test.YtefjhehgpkljcaaGreatDoorJFilMath
import Derived.Test.YtefjhehgpkljcaaGreatDoorJMet
import Derived.Laws.EntriesVeiled
namespace Go.Proofs.YtefjhehgpkljcaaGreatDoor
open Go Go.RowKit Go.Maps Go.ChangeMaps Go.Shelf Um Fm

def leafK (k : Int) : Bool := k == 1 || k == 2
def leafB : (n : Nat) → ExT n → Bool
  | 0, _ => false
  | _ + 1, (k, _, _, _) => leafK k
theorem qLeaf (k : Int) (s : ByteArray) (t : Tm) (A : Option Addr) (m c : Nat) (w : World) :
    Calls Tryz.prog 190 #[.agg #[.int .i64 k, .string s, .int .i64 t.k, .string t.x, .string t.l, .string t.y, .slice A m c]] w fun e w' => e = .returned (.bool (leafK k)) ∧ Below w.heap.size w w' := by
  obtain ⟨q, hq⟩ : ∃ q, leafK k = q := ⟨_, rfl⟩
  rw [hq]
  have Hq := Lib.hid hq
  clear hq
  by_cases h1 : k = 1
  · subst h1
    go_enter Tryz.func190, Tryz.ntmps190
    go_wp2
    go_ret
    exact ⟨by rw [← Hq.out]; rfl, (by repeat (first | exact Below.refl _ _ | assumption | exact (Below.refl _ _).alloc (Nat.le_refl _) _ | refine below_tr ?_ (by assumption) | refine below_alloc ?_ | refine below_tr ?_ (below_regrown _ _ _)))⟩
  · have h1' : (k == 1) = false := by simpa using h1
    by_cases h2 : k = 2
    · subst h2
      go_enter Tryz.func190, Tryz.ntmps190
      go_wp2
      go_ret
      exact ⟨by rw [← Hq.out]; rfl, (by repeat (first | exact Below.refl _ _ | assumption | exact (Below.refl _ _).alloc (Nat.le_refl _) _ | refine below_tr ?_ (by assumption) | refine below_alloc ?_ | refine below_tr ?_ (below_regrown _ _ _)))⟩
    · have h2' : (k == 2) = false := by simpa using h2
      go_enter Tryz.func190, Tryz.ntmps190
      go_wp2
      go_ret
      exact ⟨by rw [← Hq.out]; unfold leafK; rw [h1', h2']; rfl, (by repeat (first | exact Below.refl _ _ | assumption | exact (Below.refl _ _).alloc (Nat.le_refl _) _ | refine below_tr ?_ (by assumption) | refine below_alloc ?_ | refine below_tr ?_ (below_regrown _ _ _)))⟩
theorem rd_spell {n : Nat} {w : World} {cs : List Value} {x : ExT n} (h : RdE n w cs x) : ∃ (k : Int) (s : ByteArray) (t : Tm) (A : Option Addr) (m c : Nat), cs = [.int .i64 k, .string s, .int .i64 t.k, .string t.x, .string t.l, .string t.y, .slice A m c] ∧ leafB n x = leafK k := by
  match n, x, h with
  | n + 1, (k, s, t, kids), ⟨A, c, h, _⟩ => exact ⟨k, s, t, A, _, c, h, rfl⟩
theorem qPart1 (n : Nat) (x : ExT n) (cs : List Value) (w : World) (hr : RdE n w cs x) : Calls Tryz.prog 191 #[.agg cs.toArray] w fun e w' => e = .returned (.bool (!leafB n x)) ∧ Below w.heap.size w w' := by
  obtain ⟨k, s, t, A, m, c, rfl, hk⟩ := rd_spell hr
  have hB0 : Below w.heap.size w (w.alloc (.cells #[.int .i64 k, .string s, .int .i64 t.k, .string t.x, .string t.l, .string t.y, .slice A m c] 31)) := (by repeat (first | exact Below.refl _ _ | assumption | exact (Below.refl _ _).alloc (Nat.le_refl _) _ | refine below_tr ?_ (by assumption) | refine below_alloc ?_ | refine below_tr ?_ (below_regrown _ _ _)))
  have hL := qLeaf k s t A m c (w.alloc (.cells #[.int .i64 k, .string s, .int .i64 t.k, .string t.x, .string t.l, .string t.y, .slice A m c] 31))
  rw [hk]
  clear hk hr
  generalize leafK k = q at *
  cases q <;> (go_enter Tryz.func191, Tryz.ntmps191; go_wp2_with (go_at_call 190; refine hL.mono ?_; rintro e w2 ⟨rfl, hb2⟩); go_ret; exact ⟨rfl, below_tr hB0 hb2⟩)

/-! slices.ContainsFunc over conditions, at whatever predicate. -/
def FnSays (F : FuncId) (caps : Array Value) (n : Nat) (p : ExT n → Bool) (w : World) (x : ExT n) : Prop :=
  ∀ (cs : List Value) (W : World), Below w.heap.size w W → RdE n W cs x → Calls Tryz.prog F (#[.agg cs.toArray] ++ caps) W fun e w' => e = .returned (.bool (p x)) ∧ Below W.heap.size W w'
set_option maxRecDepth 10000 in
set_option maxHeartbeats 1000000 in
theorem idxExpr (F : FuncId) (caps : Array Value) (eg : ∀ args W, (callFunc F args).run Tryz.prog W = .ok (.enter F args) W) (n : Nat) (p : ExT n → Bool) (l : List (ExT n)) (A : Option Addr) (c : Nat) (w : World) (hl : l.length ≤ 1353245080300) (hr : RdEs n w A l)
    (hS : ∀ x ∈ l, FnSays F caps n p w x) :
    Calls Tryz.prog 153 #[.slice A l.length c, .func (.func F) #[] caps] w fun e w' => ∃ i : Int, e = .returned (.int .i64 i) ∧ IdxIs i (l.any p) ∧ Below w.heap.size w w' := by
  have hl' : (l.length : Int) ≤ 1353245080300 := by omega
  go_enter Tryz.func153, Tryz.ntmps153
  go_wp2
  go_loopw [8] (fun i wr => ∃ k : Nat, k ≤ l.length ∧ i = .int .i64 k ∧ Hid (l.any p = (l.drop k).any p) ∧ Below w.heap.size w wr) (fun i _ => l.length - (intOf i).toNat)
  case atStart => exact ⟨0, by omega, rfl, rfl, Below.refl _ _⟩
  case round =>
    obtain ⟨k, hk, rfl, H, hB⟩ := hrel
    by_cases hlt : k < l.length
    · obtain ⟨y, hx⟩ : ∃ x, l[k]? = some x := ⟨_, List.getElem?_eq_getElem hlt⟩
      obtain ⟨g, o, k', s', t', A', m', d', rfl, hR, c0, c1, c2, c3, c4, c5, c6⟩ := (RdEs.later hr hB).atv hx
      have hd := drop_cons_of hx
      have hc := hS y (List.mem_of_getElem? hx) _ wr hB hR
      have H2 : Hid (l.any p = (p y || (l.drop (k+1)).any p)) := by
        show _ = _
        rw [H.out, hd, List.any_cons]
      have HBB := Lib.hid hB
      clear hx hd H hr hR hS hB
      generalize p y = q at *
      cases q
      · go_wp2_with (go_at_fn F; refine hc.mono ?_; rintro e w1 ⟨rfl, hb1⟩)
        go_roundw
        case rel => exact ⟨k+1, by omega, by go_num, by show _ = _; rw [H2.out]; rfl, below_tr HBB.out hb1⟩
        case measure => simp [intOf]; omega
      · go_wp2_with (go_at_fn F; refine hc.mono ?_; rintro e w1 ⟨rfl, hb1⟩)
        go_ret
        exact ⟨k, rfl, by show decide _ = _; rw [H2.out]; simp, below_tr HBB.out hb1⟩
    · have H2 : Hid (l.any p = false) := by
        show _ = _
        rw [H.out, List.drop_eq_nil_of_le (by omega)]; rfl
      clear H hS hr
      go_wp2
      go_ret
      exact ⟨-1, rfl, by show decide _ = _; rw [H2.out]; rfl, hB⟩
theorem hasExpr (F : FuncId) (caps : Array Value) (eg : ∀ args W, (callFunc F args).run Tryz.prog W = .ok (.enter F args) W) (n : Nat) (p : ExT n → Bool) (l : List (ExT n)) (A : Option Addr) (c : Nat) (w : World) (hl : l.length ≤ 1353245080300) (hr : RdEs n w A l)
    (hS : ∀ x ∈ l, FnSays F caps n p w x) :
    Calls Tryz.prog 101 #[.slice A l.length c, .func (.func F) #[] caps] w fun e w' => e = .returned (.bool (l.any p)) ∧ Below w.heap.size w w' := by
  have hi := idxExpr F caps eg n p l A c w hl hr hS
  clear hr hS
  go_enter Tryz.func101, Tryz.ntmps101
  go_wp2_with (go_at_call 153; refine hi.mono ?_; rintro e w1 ⟨i, rfl, hd, hb1⟩; have Hd := Lib.hid hd; clear hd)
  go_ret
  exact ⟨by have := Hd.out; unfold IdxIs at this; rw [← this]; rfl, hb1⟩

/-! part -/
set_option maxRecDepth 10000 in
theorem run_eqTm (a b : Tm) (W : World) : (binOp .eql 28 (.agg #[.int .i64 a.k, .string a.x, .string a.l, .string a.y]) (.agg #[.int .i64 b.k, .string b.x, .string b.l, .string b.y])).run Tryz.prog W = .ok (.bool (sameTm a b)) W := by
  have hu := Tryz.underlying28
  have hk := Tryz.underlying26
  have hs := Tryz.underlying9
  simp only [go_sem, hu]
  simp [go_sem, hu, hk, hs]
  unfold sameTm
  by_cases h1 : a.k = b.k
  · by_cases h2 : a.x.toList = b.x.toList
    · by_cases h3 : a.l.toList = b.l.toList
      · by_cases h4 : a.y.toList = b.y.toList <;> simp [h1, h2, h3, h4]
      · simp [h1, h2, h3]
    · simp [h1, h2]
  · simp [h1]
theorem sameTm_zero (t : Tm) : sameTm t zTm = zeroB t := by
  have e : (⟨#[]⟩ : ByteArray).toList = [] := by rw [ByteArray.toList_eq]
  have b : ∀ l : List UInt8, (l == []) = l.isEmpty := fun l => by cases l <;> rfl
  unfold sameTm zeroB zTm
  simp only [e, b]

def ruleOf (k : Int) : Option (Int × Int × Bool) := if k == 3 then some (1, 1, false) else if k == 4 || k == 5 then some (2, 40, false) else if decide (6 ≤ k) && decide (k ≤ 11) then some (2, 2, true) else if decide (12 ≤ k) && decide (k ≤ 14) then some (1, 1, true) else none
def ruleVO (o : Option (Int × Int × Bool)) : Value := match o with | some (a, b, q) => .tuple #[ruleV a b q, .bool true] | none => .tuple #[ruleV 0 0 false, .bool false]
theorem rulesL_find (k : Int) : Value.tuple #[((rulesL.find? (fun p => p.1 == k)).map (·.2)).getD (ruleV 0 0 false), .bool (rulesL.find? (fun p => p.1 == k)).isSome] = ruleVO (ruleOf k) := by
  by_cases h : 3 ≤ k ∧ k ≤ 14
  · obtain ⟨n, rfl⟩ : ∃ n : Nat, k = n := ⟨k.toNat, by omega⟩
    have hn : n < 15 := by omega
    have hn0 : 2 < n := by omega
    clear h
    match n, hn, hn0 with
    | 3, _, _ => rfl
    | 4, _, _ => rfl
    | 5, _, _ => rfl
    | 6, _, _ => rfl
    | 7, _, _ => rfl
    | 8, _, _ => rfl
    | 9, _, _ => rfl
    | 10, _, _ => rfl
    | 11, _, _ => rfl
    | 12, _, _ => rfl
    | 13, _, _ => rfl
    | 14, _, _ => rfl
  · have hne : rulesL.find? (fun p => p.1 == k) = none := by
      rw [List.find?_eq_none]
      intro p hp
      have hp2 : p.1 ∈ rulesL.map (·.1) := List.mem_map_of_mem hp
      rw [show rulesL.map (·.1) = [3, 4, 5, 6, 7, 8, 9, 10, 11, 12, 13, 14] from rfl] at hp2
      simp only [List.mem_cons, List.not_mem_nil, or_false] at hp2
      simp only [beq_iff_eq]
      omega
    have hr : ruleOf k = none := by
      unfold ruleOf
      have h3 : (k == 3) = false := by simp; omega
      have h4 : (k == 4) = false := by simp; omega
      have h5 : (k == 5) = false := by simp; omega
      have h6 : (decide (6 ≤ k) && decide (k ≤ 11)) = false := by simp; omega
      have h7 : (decide (12 ≤ k) && decide (k ≤ 14)) = false := by simp; omega
      simp [h3, h4, h5, h6, h7]
    rw [hne, hr]; rfl
def partK (k : Int) (s : ByteArray) (t : Tm) (m : Nat) (inner : Bool) : Bool :=
  if leafK k then m == 0 && ((k == 1 && nameB s && zeroB t) || (k == 2 && s.toList.isEmpty && toldB t))
  else match ruleOf k with
    | none => false
    | some (a, b, q) => s.toList.isEmpty && zeroB t && decide (a ≤ m) && decide ((m : Int) ≤ b) && !(q && inner)
def partB : (n : Nat) → ExT n → Bool
  | 0, _ => false
  | n + 1, (k, s, t, kids) => partK k s t kids.length (kids.any fun y => !leafB n y)
end Go.Proofs.YtefjhehgpkljcaaGreatDoor
namespace Go.Proofs.YtefjhehgpkljcaaGreatDoor
open Go Go.RowKit Go.Maps Go.ChangeMaps Go.Shelf Um Fm

set_option maxRecDepth 20000 in
set_option maxHeartbeats 4000000 in
theorem qPartK (k : Int) (s : ByteArray) (t : Tm) (A : Option Addr) (m c r : Nat) (inner : Bool) (w : World) (hC : Ctx w) (hs : s.size ≤ 281474976710656) (ht : szT t) (hm : m ≤ 281474976710656) (hM : MapOf w .i64 r rulesL)
    (hI : ∀ W, Below w.heap.size w W → Calls Tryz.prog 101 #[.slice A m c, .func (.func 191) #[] #[]] W fun e w' => e = .returned (.bool inner) ∧ Below W.heap.size W w') :
    Calls Tryz.prog 165 #[.map (some r), .agg #[.int .i64 k, .string s, .int .i64 t.k, .string t.x, .string t.l, .string t.y, .slice A m c]] w fun e w' => e = .returned (.bool (partK k s t m inner)) ∧ Below w.heap.size w w' := by
  have hm' : (m : Int) ≤ 281474976710656 := by omega
  obtain ⟨res, hres⟩ : ∃ r, partK k s t m inner = r := ⟨_, rfl⟩
  rw [hres]
  have Hres := Lib.hid hres
  clear hres
  have heq : ∀ W : World, (binOp .eql 28 (.agg #[.int .i64 t.k, .string t.x, .string t.l, .string t.y]) (.agg #[.int .i64 0, .string ⟨#[]⟩, .string ⟨#[]⟩, .string ⟨#[]⟩])).run Tryz.prog W = .ok (.bool (zeroB t)) W := fun W => by
    have := run_eqTm t zTm W
    rw [sameTm_zero] at this
    exact this
  have hB0 : Below w.heap.size w (w.alloc (.cells #[.int .i64 k, .string s, .int .i64 t.k, .string t.x, .string t.l, .string t.y, .slice A m c] 31)) := (by repeat (first | exact Below.refl _ _ | assumption | exact (Below.refl _ _).alloc (Nat.le_refl _) _ | refine below_tr ?_ (by assumption) | refine below_alloc ?_ | refine below_tr ?_ (below_regrown _ _ _)))
  have hL := qLeaf k s t A m c (w.alloc (.cells #[.int .i64 k, .string s, .int .i64 t.k, .string t.x, .string t.l, .string t.y, .slice A m c] 31))
  have hN := fun W (_ : Below w.heap.size w W) => qName s W hs
  have hT := fun W hb => qTold t W (hC.step hb) ht
  have hlk : ∀ W, Below w.heap.size w W → (Instr.lookup 183 (.map (some r)) (.int .i64 k) true).run Tryz.prog W = .ok (ruleVO (ruleOf k)) W := fun W hb => by
    have h := run_lookup_fn2 (P := Tryz.prog) Tryz.underlying183 Tryz.underlying25 (z := ruleV 0 0 false) (w := W) (by kernel_rfl) (hM.later hb) k
    rw [rulesL_find] at h
    exact h
  have Heq := Lib.hid heq
  have Hlk := Lib.hid hlk
  have HN := Lib.hid hN
  have HT := Lib.hid hT
  have HI := Lib.hid hI
  clear hlk hN hT hI hM hC hs ht heq
  generalize hbare : zeroB t = bare at *
  have Hbare := Lib.hid hbare
  clear hbare
  have heq := Heq.out
  by_cases hlf : leafK k = true
  · rw [hlf] at hL
    by_cases h1 : k = 1
    · subst h1
      have hv : partK 1 s t m inner = (m == 0 && (nameB s && bare)) := by rw [← Hbare.out]; simp [partK, leafK]
      have Hv := Lib.hid hv
      clear hlf hv
      go_enter Tryz.func165, Tryz.ntmps165
      go_wp2_with fail
      refine hL.mono ?_
      rintro e w2 ⟨rfl, hb2⟩
      obtain ⟨hc, hf⟩ := bcell hb2
      have hb02 := below_tr hB0 hb2
      have hNm := HN.out w2 hb02
      generalize nameB s = q2 at *
      go_wp2_with fail
      refine hNm.mono ?_
      rintro e w3 ⟨rfl, hb3⟩
      have hb03 := Lib.hid (below_tr hb02 hb3)
      have hb23 := below_tr hb2 hb3
      clear hc hf hb2 hb3 hL hNm
      obtain ⟨hc, hf⟩ := bcell hb23
      by_cases h0 : (m : Int) = 0
      · have h0' : (m == 0) = true := by simp; omega
        have Hw : Hid (res = (q2 && bare)) := by show _ = _; rw [← Hres.out, Hv.out, h0']; rfl
        clear h0'
        cases q2 <;> cases bare
        all_goals
          go_wp2
          go_ret
          exact ⟨by rw [Hw.out]; rfl, hb03.out⟩
      · have h0' : (m == 0) = false := by simp; omega
        have Hw : Hid (res = false) := by show _ = _; rw [← Hres.out, Hv.out, h0']; rfl
        clear h0'
        cases q2 <;> cases bare
        all_goals
          go_wp2
          go_ret
          exact ⟨by rw [Hw.out]; rfl, hb03.out⟩
    · have h2 : k = 2 := by simp [leafK] at hlf; omega
      subst h2
      have hv : partK 2 s t m inner = (m == 0 && (s.toList.isEmpty && toldB t)) := by simp [partK, leafK]
      have Hv := Lib.hid hv
      clear hlf hv h1
      go_enter Tryz.func165, Tryz.ntmps165
      go_wp2_with fail
      refine hL.mono ?_
      rintro e w2 ⟨rfl, hb2⟩
      obtain ⟨hc, hf⟩ := bcell hb2
      have hb02 := below_tr hB0 hb2
      have hTd := HT.out w2 hb02
      generalize toldB t = q2 at *
      by_cases h0 : (m : Int) = 0
      · have h0' : (m == 0) = true := by simp; omega
        cases he : s.toList.isEmpty
        · have Hw : Hid (res = false) := by show _ = _; rw [← Hres.out, Hv.out, he]; simp
          clear h0'
          go_wp2
          go_ret
          exact ⟨by rw [Hw.out]; rfl, hb02⟩
        · have Hw : Hid (res = q2) := by show _ = _; rw [← Hres.out, Hv.out, he, h0']; rfl
          clear h0'
          go_wp2_with (go_at_call 189; refine hTd.mono ?_; rintro e w3 ⟨rfl, hb3⟩)
          go_ret
          exact ⟨by rw [Hw.out]; rfl, below_tr hb02 hb3⟩
      · have h0' : (m == 0) = false := by simp; omega
        have Hw : Hid (res = false) := by show _ = _; rw [← Hres.out, Hv.out, h0']; rfl
        clear h0'
        go_wp2
        go_ret
        exact ⟨by rw [Hw.out]; rfl, hb02⟩
  · have hlf2 : leafK k = false := by simpa using hlf
    rw [hlf2] at hL
    have k1 : (k == 1) = false := by simp [leafK] at hlf2; simpa using hlf2.1
    have k2 : (k == 2) = false := by simp [leafK] at hlf2; simpa using hlf2.2
    have Hlf := Lib.hid hlf2
    clear hlf hlf2
    go_enter Tryz.func165, Tryz.ntmps165
    go_wp2_with fail
    refine hL.mono ?_
    rintro e w2 ⟨rfl, hb2⟩
    obtain ⟨hc, hf⟩ := bcell hb2
    have hb02 := below_tr hB0 hb2
    have hlk := Hlk.out w2 hb02
    cases hr : ruleOf k with
    | none =>
      have Hw : Hid (res = false) := by show _ = _; rw [← Hres.out, partK, Hlf.out, hr]; rfl
      rw [hr] at hlk
      simp only [ruleVO, ruleV] at hlk
      clear hr
      go_wp2
      go_ret
      exact ⟨by rw [Hw.out]; rfl, (by repeat (first | exact Below.refl _ _ | assumption | exact (Below.refl _ _).alloc (Nat.le_refl _) _ | refine below_tr ?_ (by assumption) | refine below_alloc ?_ | refine below_tr ?_ (below_regrown _ _ _)))⟩
    | some abq =>
      obtain ⟨a, b, q⟩ := abq
      have Hw : Hid (res = (s.toList.isEmpty && bare && decide (a ≤ m) && decide ((m : Int) ≤ b) && !(q && inner))) := by show _ = _; rw [← Hres.out, partK, Hlf.out, hr, Hbare.out]; rfl
      rw [hr] at hlk
      simp only [ruleVO, ruleV] at hlk
      clear hr
      have hz2 : w.heap.size < w2.heap.size := by have := hb2.size; simp at this; omega
      have hb2a : Below w2.heap.size w2 (w2.alloc (.cells #[.int .i64 a, .int .i64 b, .bool q] 203)) := (by repeat (first | exact Below.refl _ _ | assumption | exact (Below.refl _ _).alloc (Nat.le_refl _) _ | refine below_tr ?_ (by assumption) | refine below_alloc ?_ | refine below_tr ?_ (below_regrown _ _ _)))
      have hIn := HI.out _ (below_tr hb02 hb2a)
      have HB := Lib.hid (below_tr hb02 hb2a)
      clear hb2a
      cases he : s.toList.isEmpty
      · go_wp2
        go_ret
        exact ⟨by rw [Hw.out, he]; rfl, HB.out⟩
      cases bare
      · go_wp2
        go_ret
        exact ⟨by rw [Hw.out]; simp, HB.out⟩
      by_cases ha : a ≤ (m : Int)
      case neg =>
        go_wp2
        go_ret
        exact ⟨by rw [Hw.out, decide_eq_false (show ¬ a ≤ (m : Int) by omega)]; simp, HB.out⟩
      by_cases hb : (m : Int) ≤ b
      case neg =>
        go_wp2
        go_ret
        exact ⟨by rw [Hw.out, decide_eq_false (show ¬ (m : Int) ≤ b by omega)]; simp, HB.out⟩
      have Hw2 : Hid (res = !(q && inner)) := by show _ = _; rw [Hw.out, he, decide_eq_true ha, decide_eq_true hb]; simp
      cases q
      · go_wp2
        go_ret
        exact ⟨by rw [Hw2.out]; rfl, HB.out⟩
      cases inner
      all_goals
        go_wp2_with (go_at_call 101; refine hIn.mono ?_; rintro e w3 ⟨rfl, hb3⟩)
        go_ret
        exact ⟨by rw [Hw2.out]; rfl, below_tr HB.out hb3⟩

/-- Texts of a condition are short enough. -/
def szX : (n : Nat) → ExT n → Prop
  | 0, _ => True
  | n + 1, (_, s, t, kids) => s.size ≤ 281474976710656 ∧ szT t ∧ kids.length ≤ 1353245080300 ∧ ∀ x ∈ kids, szX n x
theorem enters_part1 : ∀ args W, (callFunc 191 args).run Tryz.prog W = .ok (.enter 191 args) W := enters_of Tryz.func191 (by kernel_rfl) rfl
theorem qPart (n : Nat) (x : ExT n) (cs : List Value) (r : Nat) (w : World) (hC : Ctx w) (hr : RdE n w cs x) (hz : szX n x) (hM : MapOf w .i64 r rulesL) :
    Calls Tryz.prog 165 #[.map (some r), .agg cs.toArray] w fun e w' => e = .returned (.bool (partB n x)) ∧ Below w.heap.size w w' := by
  match n, x, hr, hz with
  | n + 1, (k, s, t, kids), ⟨A, c, he, hle, hk⟩, ⟨hs, ht, hl, hkz⟩ =>
    subst he
    refine qPartK k s t A kids.length c r (kids.any fun y => !leafB n y) w hC hs ht (by omega) hM fun W hW => ?_
    exact hasExpr 191 #[] enters_part1 n (fun y => !leafB n y) kids A c W hl (RdEs.later hk hW) fun x hx cs W' hW' hr => qPart1 n x cs W' hr
end Go.Proofs.YtefjhehgpkljcaaGreatDoor
