/- Slices without their first. The program's package lines: a reader's tokens in memory; is, place. The program's package lines: must, named. The program's package lines: object. -/
import Derived.Test.YtffpgandgajihaaGreatDoorJMem
import Derived.Test.YtffpgandgajihaaGreatDoorJTms
import Derived.Test.YtffpgandgajihaaGreatDoorJLn5
namespace Go.Proofs.YtffpgandgajihaaGreatDoor
open Go Go.RowKit
/-- A slice from its second on. -/
def subA (sz c : Nat) (s : Option Addr) : Option Addr := if c = 1 then s else s.map fun x => { block := x.block, off := x.off + sz }
theorem Rd.sub {w : World} {s : Option Addr} {xs : List Value} (h : Rd w s xs) (sz : Nat) : Rd w (s.map fun x => { block := x.block, off := x.off + sz }) (xs.drop sz) := by
  rcases h with rfl | ⟨g, o, rfl, hx⟩
  · exact .inl (by simp)
  · refine .inr ⟨g, o + sz, rfl, fun j u hu => ?_⟩
    rw [Nat.add_assoc]
    exact hx (sz + j) u (by simpa using hu)
theorem RdL.sub {α : Type} {sz : Nat} {R : List Value → α → Prop} {w : World} {s : Option Addr} {l : List α} {c : Nat} (h : RdL sz R w s l) (hl : l.length ≤ c) : RdL sz R w (subA sz c s) l.tail ∧ l.tail.length ≤ c - 1 := by
  refine ⟨?_, by rw [List.length_tail]; omega⟩
  unfold subA
  split
  · have : l.tail = [] := List.eq_nil_of_length_eq_zero (by rw [List.length_tail]; omega)
    rw [this]; exact RdL.nil _ _ _ _
  · obtain ⟨xs, hr, ha⟩ := h
    have h2 := ha.drop 1
    rw [Nat.one_mul] at h2
    exact ⟨_, hr.sub sz, by rw [← List.drop_one]; exact h2⟩
theorem Rd.subS {w : World} {s : Option Addr} {l : List ByteArray} {c : Nat} (h : Rd w s (l.map Value.string)) (hl : l.length ≤ c) : Rd w (subA 1 c s) (l.tail.map Value.string) ∧ l.tail.length ≤ c - 1 := by
  refine ⟨?_, by rw [List.length_tail]; omega⟩
  unfold subA
  split
  · have : l.tail = [] := List.eq_nil_of_length_eq_zero (by rw [List.length_tail]; omega)
    rw [this]; exact Rd.nil _ _
  · have := h.sub 1
    rw [← List.map_drop, List.drop_one] at this
    exact this
end Go.Proofs.YtffpgandgajihaaGreatDoor
namespace Go.Proofs.YtffpgandgajihaaGreatDoor
open Go Go.RowKit Um Fm Lx Tx

def idxN : List Nat → Nat → Int
  | [], _ => -1
  | y :: r, x => if x = y then 0 else if idxN r x = -1 then -1 else idxN r x + 1
theorem idxN_mem : ∀ (l : List Nat) (x : Nat), -1 ≤ idxN l x ∧ (0 ≤ idxN l x ↔ x ∈ l)
  | [], x => by simp [idxN]
  | y :: r, x => by
    obtain ⟨h1, h2⟩ := idxN_mem r x
    unfold idxN
    by_cases e : x = y
    · rw [if_pos e]; simp [e]
    · rw [if_neg e]
      by_cases e2 : idxN r x = -1
      · rw [if_pos e2]
        have : x ∉ r := fun h => by have := h2.2 h; omega
        simp [e, this]
      · rw [if_neg e2]
        have : x ∈ r := h2.1 (by omega)
        simp [this]; omega
def idxAt (l : List Nat) (x k : Nat) : Prop := idxN l x = if idxN (l.drop k) x = -1 then -1 else idxN (l.drop k) x + k
theorem idxAt_next {l : List Nat} {x k y : Nat} (h : idxAt l x k) (hy : l[k]? = some y) (hne : x ≠ y) : idxAt l x (k + 1) := by
  unfold idxAt at h ⊢
  have hm := (idxN_mem (l.drop (k + 1)) x).1
  rw [h, drop_cons_of hy, idxN, if_neg hne]
  split <;> split <;> omega
theorem kindIndex (ks : List Nat) (x c : Nat) (A : Option Addr) (w : World) (hr : Rd w A (ks.map fun k : Nat => Value.int .i64 k)) (hl : ks.length ≤ 1000) :
    Calls Tryz.prog 143 #[.slice A ks.length c, .int .i64 x] w fun e w' => e = .returned (.int .i64 (idxN ks x)) ∧ w = w' := by
  go_enter Tryz.func143, Tryz.ntmps143
  go_wp2
  go_loop [5, 8] (fun v i => ∃ k : Nat, k ≤ ks.length ∧ i = .int .i64 k ∧ Hid (idxAt ks x k)) (fun _ i => ks.length - (intOf i).toNat)
  case atStart => exact ⟨0, by omega, rfl, by show idxAt _ _ _; unfold idxAt; rw [List.drop_zero]; split <;> omega⟩
  case round =>
    obtain ⟨k, hk, rfl, H⟩ := hrel
    by_cases hlt : k < ks.length
    · obtain ⟨y, hy⟩ : ∃ y, ks[k]? = some y := ⟨_, List.getElem?_eq_getElem hlt⟩
      obtain ⟨g, o, rfl, hcx⟩ := hr.at_ (j := k) (u := .int .i64 y) (by rw [List.getElem?_map, hy]; rfl)
      by_cases hq : x = y
      · have H2 : Hid (idxN ks x = k) := by
          have h0 := H.out
          unfold idxAt at h0
          rw [drop_cons_of hy, idxN, if_pos hq] at h0
          show _ = _
          rw [h0]; simp
        clear H hy hr
        have hq1 : ((x : Int) == (y : Int)) = true := by simp [hq]
        clear hq
        go_wp2
        go_ret
        exact ⟨by rw [H2.out]; rfl, rfl⟩
      · have H2 := Lib.hid (idxAt_next H.out hy hq)
        have hq1 : ((x : Int) == (y : Int)) = false := by simp; omega
        clear H hy hr hq
        go_wp2
        go_round
        case rel => exact ⟨k + 1, by omega, by go_num, H2⟩
        case measure => simp [intOf]; omega
    · have H2 : Hid (idxN ks x = -1) := by
        have h0 := H.out
        unfold idxAt at h0
        rw [List.drop_eq_nil_of_le (by omega)] at h0
        show _ = _
        rw [h0]; rfl
      clear H hr
      go_wp2
      go_ret
      exact ⟨by rw [H2.out]; rfl, rfl⟩
theorem kindIn (ks : List Nat) (x c : Nat) (A : Option Addr) (w : World) (hr : Rd w A (ks.map fun k : Nat => Value.int .i64 k)) (hl : ks.length ≤ 1000) :
    Calls Tryz.prog 111 #[.slice A ks.length c, .int .i64 x] w fun e w' => e = .returned (.bool (decide (x ∈ ks))) ∧ w = w' := by
  have hI := kindIndex ks x c A w hr hl
  have hm := (idxN_mem ks x).2
  have hd : Hid (decide (x ∈ ks) = decide (0 ≤ idxN ks x)) := by show _ = _; rw [decide_eq_decide]; exact hm.symm
  clear hm
  generalize idxN ks x = z at *
  go_enter Tryz.func111, Tryz.ntmps111
  go_wp2_with (go_at_call 143; refine hI.mono ?_; rintro e w1 ⟨rfl, rfl⟩)
  go_ret
  exact ⟨by rw [hd.out]; rfl, rfl⟩
/-- The program's reader in memory: what is left, the line's length, whether it is stuck, and where. -/
def CrAt (w : World) (b n : Nat) (s : Ls) : Prop := ∃ (A : Option Addr) (c : Nat) (z : Int), w.heap[b]? = some (.cells #[.slice A s.r.length c, .int .i64 n, .bool s.bad.isSome, .int .i64 z] 93 (0, 0)) ∧
  (∀ p, s.bad = some p → z = (p : Int)) ∧ (∀ a, A = some a → a.block < b) ∧ s.r.length ≤ c ∧ RdL 3 (fun cs t => cs = tokC t) w A s.r
theorem CrAt.lt {w : World} {b n : Nat} {s : Ls} (h : CrAt w b n s) : b < w.heap.size := by
  obtain ⟨A, c, z, hb, _⟩ := h
  exact (Array.getElem?_eq_some_iff.1 hb).1
theorem CrAt.below {w w' : World} {b n : Nat} {s : Ls} (h : CrAt w b n s) (hB : Below w.heap.size w w') : CrAt w' b n s := by
  have hlt := h.lt
  obtain ⟨A, c, z, hb, hz, hA, hc, hR⟩ := h
  exact ⟨A, c, z, by rw [hB.block b hlt]; exact hb, hz, hA, hc, hR.mono hB fun _ _ _ h => h⟩
theorem CrAt.other {w : World} {b n : Nat} {s : Ls} (h : CrAt w b n s) {tb : Nat} (ht : b < tb) (i : Nat) (v : Value) : CrAt (w.setCell ⟨tb, i, none⟩ v) b n s := by
  obtain ⟨A, c, z, hb, hz, hA, hc, hR⟩ := h
  exact ⟨A, c, z, by rw [Below.heap_setCell w ⟨tb, i, none⟩ v b (fun e => by simp only at e; omega)]; exact hb, hz, hA, hc, rdl_set hR (fun a e => by have := hA a e; omega) i _⟩
theorem CrAt.fz {w : World} {b n : Nat} {s : Ls} (h : CrAt w b n s) (i : Nat) : w.frozen? ⟨b, i, none⟩ = false := by
  obtain ⟨A, c, z, hb, _⟩ := h
  simp [World.frozen?, hb]
theorem CrAt.plain {w : World} {b n : Nat} {s : Ls} (h : CrAt w b n s) : ∃ (A : Option Addr) (c : Nat) (z : Int), w.cell? ⟨b, 0, none⟩ = some (.slice A s.r.length c) ∧ w.cell? ⟨b, 1, none⟩ = some (.int .i64 n) ∧ w.cell? ⟨b, 2, none⟩ = some (.bool s.bad.isSome) ∧ w.cell? ⟨b, 3, none⟩ = some (.int .i64 z) ∧
    (∀ p, s.bad = some p → z = (p : Int)) ∧ s.r.length ≤ c ∧ RdL 3 (fun cs t => cs = tokC t) w A s.r := by
  obtain ⟨A, c, z, hb, hz, _, hc, hR⟩ := h
  exact ⟨A, c, z, by simp [World.cell?, hb], by simp [World.cell?, hb], by simp [World.cell?, hb], by simp [World.cell?, hb], hz, hc, hR⟩
/-- It is stuck. -/
theorem CrAt.stick {w : World} {b n : Nat} {s : Ls} (h : CrAt w b n s) {p : Nat} {y : Int} (hy : y = p) : CrAt ((w.setCell ⟨b, 2, none⟩ (.bool true)).setCell ⟨b, 3, none⟩ (.int .i64 y)) b n ⟨s.r, some p⟩ := by
  subst hy
  obtain ⟨A, c, z, hb, hz, hA, hc, hR⟩ := h
  refine ⟨A, c, p, by simp [World.setCell, Array.getElem?_modify, hb], fun q hq => by injection hq with hq; rw [hq], hA, hc, rdl_set (rdl_set hR (fun a e => Nat.ne_of_lt (hA a e)) 2 _) (fun a e => Nat.ne_of_lt (hA a e)) 3 _⟩
/-- It goes behind a token. -/
theorem CrAt.next {w : World} {b n : Nat} {t : LTok} {r : List LTok} (h : CrAt w b n ⟨t :: r, none⟩) {A : Option Addr} {c : Nat} (hc : w.cell? ⟨b, 0, none⟩ = some (.slice A (r.length + 1) c)) : CrAt (w.setCell ⟨b, 0, none⟩ (.slice (subA 3 c A) r.length (c - 1))) b n ⟨r, none⟩ := by
  obtain ⟨A', c', z, hb, hz, hA, hcl, hR⟩ := h
  have e : (Value.slice A' (t :: r).length c') = .slice A (r.length + 1) c := by
    have : w.cell? ⟨b, 0, none⟩ = some (.slice A' (t :: r).length c') := by simp [World.cell?, hb]
    rw [this] at hc
    injection hc
  injection e with e1 e2 e3
  subst e1; subst e3
  obtain ⟨s1, s2⟩ := hR.sub hcl
  have hA' : ∀ a, subA 3 c' A' = some a → a.block < b := by
    intro a ha
    unfold subA at ha
    split at ha
    · exact hA a ha
    · cases A' with
      | none => cases ha
      | some x =>
        simp only [Option.map_some, Option.some.injEq] at ha
        subst ha
        exact hA x rfl
  exact ⟨_, _, z, by simp [World.setCell, Array.getElem?_modify, hb], fun p hp => (by cases hp), hA', s2, rdl_set s1 (fun a e => Nat.ne_of_lt (hA' a e)) 0 _⟩
theorem toksIs (ks : List Nat) (c b n : Nat) (A : Option Addr) (s : Ls) (w : World) (h : CrAt w b n s) (hr : Rd w A (ks.map fun k : Nat => Value.int .i64 k)) (hl : ks.length ≤ 1000) (hk : 0 ∉ ks) :
    Calls Tryz.prog 67 #[.pointer (some ⟨b, 0, none⟩), .slice A ks.length c] w fun e w' => e = .returned (.bool (decide (headK s.r ∈ ks))) ∧ w = w' := by
  obtain ⟨A1, c1, z, h0, h1, h2, h3, hz, hc, hR⟩ := h.plain
  cases hx : s.r with
  | nil =>
    have hd : Hid (decide (headK [] ∈ ks) = false) := decide_eq_false hk
    rw [hx] at h0
    simp only [List.length_nil] at h0
    clear hR h1 h2 h3 h
    go_enter Tryz.func67, Tryz.ntmps67
    go_wp2
    go_ret
    exact ⟨by rw [hd.out]; rfl, rfl⟩
  | cons t r =>
    rw [hx] at h0 hR
    simp only [List.length_cons] at h0
    obtain ⟨g, o, rfl, e1, _, _⟩ := tok_at hR (j := 0) (t := t) rfl
    simp only [Nat.zero_mul, Nat.add_zero] at e1
    have hI := kindIn ks t.k c A w hr hl
    have hd : Hid (headK (t :: r) = t.k) := rfl
    clear hR h1 h2 h3 h
    go_enter Tryz.func67, Tryz.ntmps67
    go_wp2_with (go_at_call 111; refine hI.mono ?_; rintro e w1 ⟨rfl, rfl⟩)
    go_ret
    exact ⟨by rw [hd.out]; rfl, rfl⟩
theorem toksPlace (b n : Nat) (s : Ls) (w : World) (h : CrAt w b n s) :
    Calls Tryz.prog 73 #[.pointer (some ⟨b, 0, none⟩)] w fun e w' => e = .returned (.int .i64 (placeP n s.r)) ∧ w = w' := by
  obtain ⟨A1, c1, z, h0, h1, h2, h3, hz, hc, hR⟩ := h.plain
  cases hx : s.r with
  | nil =>
    rw [hx] at h0
    simp only [List.length_nil] at h0
    clear hR h2 h3 h
    go_enter Tryz.func73, Tryz.ntmps73
    go_wp2
    go_ret
    exact ⟨rfl, rfl⟩
  | cons t r =>
    rw [hx] at h0 hR
    simp only [List.length_cons] at h0
    obtain ⟨g, o, rfl, _, _, e1⟩ := tok_at hR (j := 0) (t := t) rfl
    simp only [Nat.zero_mul, Nat.add_zero] at e1
    clear hR h2 h3 h
    go_enter Tryz.func73, Tryz.ntmps73
    go_wp2
    go_ret
    exact ⟨rfl, rfl⟩
end Go.Proofs.YtffpgandgajihaaGreatDoor
namespace Go.Proofs.YtffpgandgajihaaGreatDoor
open Go Go.RowKit Um Fm Lx Tx
/-- A token as the value that it is. -/
abbrev kA (t : LTok) : Value := .agg #[.int .i64 t.k, .string t.x, .int .i64 t.p]
theorem gr_own {w wx : World} {b : Nat} (h : w.grownBy wx (some b)) (i : Nat) (v : Value) : w.grownBy (wx.setCell ⟨b, i, none⟩ v) (some b) :=
  ⟨h.os, h.tape, h.output, by simpa [World.setCell] using h.size, fun j hj hne => (Below.heap_setCell wx ⟨b, i, none⟩ v j (fun e => hne (by rw [e]))).trans (h.block j hj hne)⟩
def zK (w V : World) : Prop := V.heap[w.heap.size]? = some (.cells #[.int .i64 0, .string ⟨#[]⟩, .int .i64 0] 72 (0, 0))
theorem zK.new (w : World) : zK w (w.alloc (.cells #[.int .i64 0, .string ⟨#[]⟩, .int .i64 0] 72)) := heap_alloc_new w _
theorem zK.d {w V : World} (h : zK w V) : V.cell? ⟨w.heap.size, 0, none⟩ = some (.int .i64 0) ∧ V.cell? ⟨w.heap.size, 1, none⟩ = some (.string ⟨#[]⟩) ∧ V.cell? ⟨w.heap.size, 2, none⟩ = some (.int .i64 0) ∧ ∀ i, V.frozen? ⟨w.heap.size, i, none⟩ = false :=
  ⟨by rw [Lib.cell_of_heap h]; rfl, by rw [Lib.cell_of_heap h]; rfl, by rw [Lib.cell_of_heap h]; rfl, fun i => Lib.frozen_of_heap h i⟩
theorem zK.set {w V : World} (h : zK w V) {b : Nat} (hb : b ≠ w.heap.size) (i : Nat) (v : Value) : zK w (V.setCell ⟨b, i, none⟩ v) := by
  unfold zK at *
  rw [← h]
  exact Below.heap_setCell _ _ _ _ (by simp; omega)
set_option maxHeartbeats 2000000 in
theorem rMust (ks : List Nat) (c b n : Nat) (A : Option Addr) (s : Ls) (w : World) (h : CrAt w b n s) (hr : Rd w A (ks.map fun k : Nat => Value.int .i64 k)) (hl : ks.length ≤ 1000) (hk : 0 ∉ ks) :
    Calls Tryz.prog 39 #[.pointer (some ⟨b, 0, none⟩), .slice A ks.length c] w fun e w' => e = .returned (kA (mustP ks n s).1) ∧ CrAt w' b n (mustP ks n s).2 ∧ w.grownBy w' (some b) := by
  have hb0 : b < w.heap.size := h.lt
  have hB0 : Below w.heap.size w (w.alloc (.cells #[.int .i64 0, .string ⟨#[]⟩, .int .i64 0] 72)) := (Below.refl _ _).alloc (Nat.le_refl _) _
  have hlt := h.lt
  have hz := zK.new w
  have h' := h.below hB0
  have hI := toksIs ks c b n A s _ h' (hr.later hB0) hl hk
  have hP := toksPlace b n s _ h'
  obtain ⟨A1, c1, z, h0, h1, h2, h3, hzz, hc, hR⟩ := h.plain
  obtain ⟨d0, d1, d2, f0⟩ := hz.d
  have hf := fun i => h.fz i
  have H := Lib.hid h'
  have Hw := Lib.hid h
  have HB := Lib.hid hB0
  have Hz := Lib.hid hz
  clear h h' hr hz
  have hsz : (w.alloc (.cells #[.int .i64 0, .string ⟨#[]⟩, .int .i64 0] 72)).heap.size = w.heap.size + 1 := by simp
  cases hb : s.bad with
  | some p =>
    have hm : Hid (mustP ks n s = (tok0, s)) := mustP_bad hb
    rw [hb] at h2
    clear hR hI hP h0 h1 h3 hzz hB0
    go_enter Tryz.func39, Tryz.ntmps39
    go_wp2
    refine bodyPost_ret (v := kA tok0) (by simp [results, Tryz.results39, go_sem, tok0]) rfl ?_
    rw [hm.out]
    exact ⟨rfl, H.out, gr_of_below HB.out⟩
  | none =>
    rw [hb] at h2
    by_cases hq : headK s.r ∈ ks
    · obtain ⟨t, r, hx⟩ : ∃ t r, s.r = t :: r := by
        cases hx : s.r with
        | nil => rw [hx] at hq; exact absurd hq hk
        | cons t r => exact ⟨t, r, rfl⟩
      have hm : Hid (mustP ks n s = (t, ⟨r, none⟩)) := by
        show _ = _
        unfold mustP
        rw [hb, hx]
        dsimp only
        rw [if_pos (by rw [hx] at hq; simpa [headK] using hq)]
      have hd : decide (headK s.r ∈ ks) = true := decide_eq_true hq
      rw [hd] at hI
      have hs : s = ⟨t :: r, none⟩ := by obtain ⟨sr, sb⟩ := s; simp only at hx hb; rw [hx, hb]
      have Hs := Lib.hid hs
      rw [hx] at h0 hR hc
      simp only [List.length_cons] at h0 hc
      obtain ⟨g, o, rfl, e1, e2, e3⟩ := tok_at hR (j := 0) (t := t) rfl
      simp only [Nat.zero_mul, Nat.add_zero] at e1 e2 e3
      have hg := cell_lt e1
      have hN := CrAt.next (Hs.out ▸ Hw.out) h0
      have HN1 : Hid (c1 = 1 → CrAt (w.setCell ⟨b, 0, none⟩ (.slice (some ⟨g, o, none⟩) r.length 0)) b n ⟨r, none⟩) := fun e => by
        have h2 := hN
        unfold subA at h2
        rw [if_pos e, e] at h2
        exact h2
      have HN2 : Hid (¬ c1 = 1 → CrAt (w.setCell ⟨b, 0, none⟩ (.slice (some ⟨g, o + 3, none⟩) r.length (c1 - 1))) b n ⟨r, none⟩) := fun e => by
        have h2 := hN
        unfold subA at h2
        rw [if_neg e] at h2
        exact h2
      clear hN
      simp only at hg
      clear hR h1 h3 hzz hB0 hP hx hb hq hs
      go_enter Tryz.func39, Tryz.ntmps39
      go_wp2_with (go_at_call 67; refine hI.mono ?_; rintro e w1 ⟨rfl, rfl⟩)
      go_region
      all_goals go_wp2
      all_goals (refine bodyPost_ret (v := kA t) (by simp [results, Tryz.results39, go_sem]) rfl ?_)
      · rw [hm.out]
        exact ⟨rfl, (HN1.out (by assumption)).below ((Below.refl _ _).alloc (Nat.le_refl _) _).drew, (gr_own (gr_of_below (Below.refl _ w)) 0 _).trans (gr_of_below ((Below.refl _ _).alloc (Nat.le_refl _) _).drew)⟩
      · rw [hm.out]
        exact ⟨rfl, (HN2.out (by assumption)).below ((Below.refl _ _).alloc (Nat.le_refl _) _).drew, (gr_own (gr_of_below (Below.refl _ w)) 0 _).trans (gr_of_below ((Below.refl _ _).alloc (Nat.le_refl _) _).drew)⟩
    · have hm : Hid (mustP ks n s = (tok0, ⟨s.r, some (placeP n s.r)⟩)) := by
        show _ = _
        unfold mustP
        rw [hb]
        dsimp only
        cases hx : s.r with
        | nil => rfl
        | cons t r => rw [hx] at hq; dsimp only; rw [if_neg (by simpa [headK] using hq)]; rfl
      have hd : decide (headK s.r ∈ ks) = false := decide_eq_false hq
      rw [hd] at hI
      have hne : b ≠ w.heap.size := by omega
      clear hR h0 h1 hzz hB0 hb hq
      go_enter Tryz.func39, Tryz.ntmps39
      go_wp2_with (first | (go_at_call 67; refine hI.mono ?_; rintro e w1 ⟨rfl, rfl⟩) | (go_at_call 73; refine hP.mono ?_; rintro e w2 ⟨rfl, rfl⟩))
      refine bodyPost_ret (v := kA tok0) (by simp [results, Tryz.results39, go_sem, tok0]) rfl ?_
      rw [hm.out]
      exact ⟨rfl, (Hw.out.stick (p := placeP n s.r) rfl).below ((Below.refl _ _).alloc (Nat.le_refl _) _), (gr_own (gr_own (gr_of_below (Below.refl _ w)) 2 _) 3 _).trans (gr_of_below ((Below.refl _ _).alloc (Nat.le_refl _) _))⟩
/-- The term of an IRI's, or a blank node's token. -/
theorem linesNamed (t : LTok) (w : World) : Calls Tryz.prog 40 #[kA t] w fun e w' => e = .returned (tA (namedP t)) ∧ Below w.heap.size w w' := by
  have hB0 : Below w.heap.size w (w.alloc (.cells #[.int .i64 t.k, .string t.x, .int .i64 t.p] 72)) := (Below.refl _ w).alloc (Nat.le_refl _) _
  have hblk := zT.new (w.alloc (.cells #[.int .i64 t.k, .string t.x, .int .i64 t.p] 72))
  have hB1 := below_alloc (o := .cells #[.int .i64 0, .string ⟨#[]⟩, .string ⟨#[]⟩, .string ⟨#[]⟩] 35) hB0
  have hsz : (w.alloc (.cells #[.int .i64 t.k, .string t.x, .int .i64 t.p] 72)).heap.size = w.heap.size + 1 := by simp
  have hBl := fun W => termBlank t.x W
  have hIr := fun W => termIri t.x W
  have HX := fun V (hb : Below ((w.alloc (.cells #[.int .i64 t.k, .string t.x, .int .i64 t.p] 72)).alloc (.cells #[.int .i64 0, .string ⟨#[]⟩, .string ⟨#[]⟩, .string ⟨#[]⟩] 35)).heap.size ((w.alloc (.cells #[.int .i64 t.k, .string t.x, .int .i64 t.p] 72)).alloc (.cells #[.int .i64 0, .string ⟨#[]⟩, .string ⟨#[]⟩, .string ⟨#[]⟩] 35)) V) => zT.d (hblk.step hb)
  rw [hsz] at HX
  unfold namedP
  by_cases h2 : t.k = 2
  · rw [if_pos h2]
    have hq : ((t.k : Int) == 2) = true := by simp [h2]
    clear h2
    go_enter Tryz.func40, Tryz.ntmps40
    go_wp2_with (go_at_call 15; refine (hBl _).mono ?_; rintro e w1 ⟨rfl, k1⟩; obtain ⟨d0, d1, d2, d3, f0⟩ := HX _ k1; have k2 := below_tr hB1 k1)
    refine bodyPost_ret (v := tA ⟨2, t.x, ⟨#[]⟩, ⟨#[]⟩⟩) (by simp [results, Tryz.results40, go_sem, d0, d1, d2, d3]) rfl ⟨rfl, ?_⟩
    exact k2.trans (below_set4 (by omega) _ _ _ _)
  · rw [if_neg h2]
    have hq : ((t.k : Int) == 2) = false := by simp; omega
    go_enter Tryz.func40, Tryz.ntmps40
    go_wp2_with (go_at_call 16; refine (hIr _).mono ?_; rintro e w1 ⟨rfl, k1⟩; obtain ⟨d0, d1, d2, d3, f0⟩ := HX _ k1; have k2 := below_tr hB1 k1)
    refine bodyPost_ret (v := tA ⟨1, t.x, ⟨#[]⟩, ⟨#[]⟩⟩) (by simp [results, Tryz.results40, go_sem, d0, d1, d2, d3]) rfl ⟨rfl, ?_⟩
    exact k2.trans (below_set4 (by omega) _ _ _ _)
end Go.Proofs.YtffpgandgajihaaGreatDoor
namespace Go.Proofs.YtffpgandgajihaaGreatDoor
open Go Go.RowKit Um Fm Lx Tx
/-- The next token, that has to be of one of some kinds, told in a slice made for it. -/
theorem rMustK (ks : List Nat) (cs : Array Value) (hcs : cs.toList = ks.map fun k : Nat => Value.int .i64 k) (T : TypeId) (m : Nat) (hm : m = ks.length) (b n : Nat) (s : Ls) (V : World) (h : CrAt V b n s) (hl : ks.length ≤ 1000) (hk : 0 ∉ ks) :
    Calls Tryz.prog 39 #[.pointer (some ⟨b, 0, none⟩), .slice (some ⟨V.heap.size, 0, none⟩) m m] (V.alloc (.cells cs T)) fun e w' => e = .returned (kA (mustP ks n s).1) ∧ CrAt w' b n (mustP ks n s).2 ∧ V.grownBy w' (some b) := by
  subst hm
  have hb : Below V.heap.size V (V.alloc (.cells cs T)) := (Below.refl _ V).alloc (Nat.le_refl _) _
  refine (rMust ks ks.length b n _ s _ (h.below hb) (Rd.of_block (heap_alloc_new V _) hcs) hl hk).mono ?_
  rintro e w' ⟨rfl, h1, h2⟩
  exact ⟨rfl, h1, (gr_of_below hb).trans h2⟩
theorem rMustD (ks : List Nat) (cs : Array Value) (hcs : cs.toList = ks.map fun k : Nat => Value.int .i64 k) (T : TypeId) (m : Nat) (hm : m = ks.length) (b n : Nat) (s : Ls) (W : World) (h : CrAt W b n s) (hl : ks.length ≤ 1000) (hk : 0 ∉ ks) :
    Calls Tryz.prog 39 #[.pointer (some ⟨b, 0, none⟩), .slice (some ⟨W.heap.size, 0, none⟩) m m] (W.drew.alloc (.cells cs T)) fun e w' => e = .returned (kA (mustP ks n s).1) ∧ CrAt w' b n (mustP ks n s).2 ∧ W.drew.grownBy w' (some b) :=
  rMustK ks cs hcs T m hm b n s W.drew (h.below (Below.refl _ _).drew) hl hk
theorem toksIsK (ks : List Nat) (cs : Array Value) (hcs : cs.toList = ks.map fun k : Nat => Value.int .i64 k) (T : TypeId) (m : Nat) (hm : m = ks.length) (b n : Nat) (s : Ls) (V : World) (h : CrAt V b n s) (hl : ks.length ≤ 1000) (hk : 0 ∉ ks) :
    Calls Tryz.prog 67 #[.pointer (some ⟨b, 0, none⟩), .slice (some ⟨V.heap.size, 0, none⟩) m m] (V.alloc (.cells cs T)) fun e w' => e = .returned (.bool (decide (headK s.r ∈ ks))) ∧ V.alloc (.cells cs T) = w' := by
  subst hm
  have hb : Below V.heap.size V (V.alloc (.cells cs T)) := (Below.refl _ V).alloc (Nat.le_refl _) _
  exact toksIs ks ks.length b n _ s _ (h.below hb) (Rd.of_block (heap_alloc_new V _) hcs) hl hk
def TsOk (r : List LTok) : Prop := ∀ t ∈ r, t.x.size ≤ 1000000
theorem must_ok {ks : List Nat} {n : Nat} {s : Ls} (h : TsOk s.r) : (mustP ks n s).1.x.size ≤ 1000000 ∧ TsOk (mustP ks n s).2.r := by
  obtain ⟨r, bad⟩ := s
  unfold mustP
  cases bad with
  | some p => exact ⟨by show (0 : Nat) ≤ 1000000; decide, h⟩
  | none =>
    cases r with
    | nil => exact ⟨by show (0 : Nat) ≤ 1000000; decide, h⟩
    | cons t r =>
      dsimp only
      split
      · exact ⟨h t (by simp), fun u hu => h u (by simp [hu])⟩
      · exact ⟨by show (0 : Nat) ≤ 1000000; decide, h⟩
/-- A token in its own block. -/
def kT (B : Nat) (t : LTok) (V : World) : Prop := V.heap[B]? = some (.cells #[.int .i64 t.k, .string t.x, .int .i64 t.p] 72 (0, 0))
theorem kT.d {B : Nat} {t : LTok} {V : World} (h : kT B t V) : V.cell? ⟨B, 0, none⟩ = some (.int .i64 t.k) ∧ V.cell? ⟨B, 1, none⟩ = some (.string t.x) ∧ V.cell? ⟨B, 2, none⟩ = some (.int .i64 t.p) :=
  ⟨by rw [Lib.cell_of_heap h]; rfl, by rw [Lib.cell_of_heap h]; rfl, by rw [Lib.cell_of_heap h]; rfl⟩
theorem kT.lt {B : Nat} {t : LTok} {V : World} (h : kT B t V) : B < V.heap.size := (Array.getElem?_eq_some_iff.1 h).1
theorem kT.grown {B b : Nat} {t : LTok} {V V' : World} (h : kT B t V) (hg : V.grownBy V' (some b)) (hb : b ≠ B) : kT B t V' := by
  have hlt := h.lt
  show V'.heap[B]? = _
  rw [hg.block _ hlt (by intro e; cases e; exact hb rfl)]
  exact h
theorem zT.gr {w V V' : World} {b : Nat} (h : zT w V) (hg : V.grownBy V' (some b)) (hb : b < w.heap.size) : zT w V' := h.grown hg hb
set_option maxHeartbeats 4000000 in
set_option maxRecDepth 20000 in
theorem rObject (b n : Nat) (s : Ls) (w : World) (h : CrAt w b n s) (ho : TsOk s.r) :
    Calls Tryz.prog 34 #[.pointer (some ⟨b, 0, none⟩)] w fun e w' => e = .returned (tA (objC n s).1) ∧ CrAt w' b n (objC n s).2 ∧ w.grownBy w' (some b) := by
  obtain ⟨hx, ho2⟩ := must_ok (ks := [1, 2, 3]) (n := n) ho
  have hlt := h.lt
  obtain ⟨W0, hW0⟩ : ∃ W0, W0 = w.alloc (.cells #[.int .i64 0, .string ⟨#[]⟩, .string ⟨#[]⟩, .string ⟨#[]⟩] 35) := ⟨_, rfl⟩
  have hB0 : Below w.heap.size w W0 := hW0 ▸ (Below.refl _ w).alloc (Nat.le_refl _) _
  have hz0 : zT w W0 := hW0 ▸ zT.new w
  have hs0 : W0.heap.size = w.heap.size + 1 := by rw [hW0]; simp
  have hm1 := rMustK [1, 2, 3] #[.int .i64 1, .int .i64 2, .int .i64 3] rfl 70 3 rfl b n s W0 (h.below hB0) (by decide) (by decide)
  have Hz0 := Lib.hid hz0
  have HB0 := Lib.hid hB0
  have Hs0 := Lib.hid hs0
  obtain ⟨res, hres⟩ : ∃ r, objC n s = r := ⟨_, rfl⟩
  rw [hres]
  have Hm : Hid (res = objC n s) := hres.symm
  clear hres
  unfold objC at Hm
  dsimp only at Hm
  generalize hma : mustP [1, 2, 3] n s = a at *
  obtain ⟨ta, s2⟩ := a
  simp only at hx ho2 hm1 Hm
  clear hB0 hz0 hs0 hma h ho
  rw [hW0] at hm1
  rw [show (w.alloc (.cells #[.int .i64 0, .string ⟨#[]⟩, .string ⟨#[]⟩, .string ⟨#[]⟩] 35)).heap.size = w.heap.size + 1 by simp] at hm1
  have HW0 := Lib.hid hW0
  clear hW0
  go_enter Tryz.func34, Tryz.ntmps34
  go_wp2_with fail
  refine hm1.mono ?_
  rintro e W1 ⟨rfl, hC1, hG1⟩
  rw [← HW0.out] at hG1
  have hB2 : Below W1.heap.size W1 (W1.alloc (.cells #[.int .i64 ta.k, .string ta.x, .int .i64 ta.p] 72)) := (Below.refl _ _).alloc (Nat.le_refl _) _
  have HC2 := Lib.hid (hC1.below hB2)
  have HZ2 := Lib.hid ((Hz0.out.grown hG1 hlt).step hB2)
  have HG2 := Lib.hid (((gr_of_below (b := b) HB0.out).trans hG1).trans (gr_of_below hB2))
  have hK2 : kT W1.heap.size ta (W1.alloc (.cells #[.int .i64 ta.k, .string ta.x, .int .i64 ta.p] 72)) := heap_alloc_new W1 _
  have hbB : b ≠ W1.heap.size := by have := hC1.lt; omega
  have HbB := Lib.hid hbB
  have hzB : w.heap.size ≠ W1.heap.size := by have := hG1.size; have := Hs0.out; omega
  have hlt2 : w.heap.size < (W1.alloc (.cells #[.int .i64 ta.k, .string ta.x, .int .i64 ta.p] 72)).heap.size := (Array.getElem?_eq_some_iff.1 HZ2.out).1
  go_upto_region 2 with fail
  change Code.wp _ _ _ _ (W1.alloc (.cells #[.int .i64 ta.k, .string ta.x, .int .i64 ta.p] 72))
  have hltB : W1.heap.size < (W1.alloc (.cells #[.int .i64 ta.k, .string ta.x, .int .i64 ta.p] 72)).heap.size := hK2.lt
  generalize W1.alloc (.cells #[.int .i64 ta.k, .string ta.x, .int .i64 ta.p] 72) = W2 at *
  generalize W1.heap.size = B at *
  obtain ⟨k0, k1, k2⟩ := hK2.d
  have HK2 := Lib.hid hK2
  clear hC1 hG1 hB2 hK2 HB0 Hz0 HW0 Hs0
  by_cases h3 : ta.k = 3
  · have hq3 : ((ta.k : Int) != 3) = false := by simp [h3]
    have hi4 := toksIsK [4] #[.int .i64 4] rfl 70 1 rfl b n s2 W2 HC2.out (by decide) (by decide)
    have hb4 : Below W2.heap.size W2 (W2.alloc (.cells #[.int .i64 4] 70)) := (Below.refl _ _).alloc (Nat.le_refl _) _
    rw [if_pos h3] at Hm
    by_cases h4 : headK s2.r = 4
    · rw [if_pos h4] at Hm
      have hd4 : decide (headK s2.r ∈ [4]) = true := by simp [h4]
      rw [hd4] at hi4
      obtain ⟨W3, hW3⟩ : ∃ W3, W3 = W2.alloc (.cells #[.int .i64 4] 70) := ⟨_, rfl⟩
      rw [← hW3] at hb4
      have HW3 := Lib.hid hW3
      have hs3 : W2.heap.size < W3.heap.size := by rw [hW3]; simp
      clear hW3
      have HC3 := Lib.hid (HC2.out.below hb4)
      have HZ3 := Lib.hid (HZ2.out.step hb4)
      have HG3 := Lib.hid (HG2.out.trans (gr_of_below hb4))
      have HK3 := Lib.hid (HK2.out.grown (gr_of_below (b := b) hb4) hbB)
      have hm4 := rMustD [4] #[.int .i64 4] rfl 70 1 rfl b n s2 W3 HC3.out (by decide) (by decide)
      have hx4 := (must_ok (ks := [4]) (n := n) ho2).1
      generalize mustP [4] n s2 = a4 at *
      obtain ⟨t4, s4⟩ := a4
      simp only at hm4 hx4 Hm
      have hfd : ∀ W : World, (Instr.field 72 (kA t4) 1).run Tryz.prog W = .ok (.string t4.x) W := fun W => by kernel_rfl
      have htg := fun W => termTagged ta.x t4.x W hx4
      clear h3 h4 hd4 hb4 hbB
      go_wp2_with fail
      refine hi4.mono ?_
      rintro e w3 ⟨rfl, hw3⟩
      rw [← HW3.out] at hw3
      subst hw3
      go_wp2_with fail
      have l1 := HK3.out.d.2.1
      have hltB3 := HK3.out.lt
      clear k0 k1 k2 hltB hlt2
      go_region_with (first
        | (go_at_call 39; refine hm4.mono ?_; rintro e W5 ⟨rfl, hC5, hG5⟩; have HC5 := Lib.hid hC5; have HG5 := Lib.hid ((HG3.out.trans (gr_of_below (b := b) (Below.refl _ _).drew)).trans hG5); have HZ5 := Lib.hid ((HZ3.out.step (Below.refl _ _).drew).grown hG5 hlt); have m1 := ((HK3.out.grown (gr_of_below (b := b) (Below.refl _ _).drew) HbB.out).grown hG5 HbB.out).d.2.1; clear hC5 hG5)
        | (go_at_call 68; refine (htg _).mono ?_; rintro e W6 ⟨rfl, hB6⟩; have HC6 := Lib.hid (HC5.out.below hB6); have HG6 := Lib.hid (HG5.out.trans (gr_of_below (b := b) hB6)); obtain ⟨d0, d1, d2, d3, f0⟩ := (HZ5.out.step hB6).d; clear hB6))
      all_goals
        go_wp2
        refine bodyPost_ret (v := tmA 3 ta.x (lowS t4.x) ⟨#[]⟩) (by simp [results, Tryz.results34, go_sem, d0, d1, d2, d3]) rfl ?_
        rw [Hm.out]
        refine ⟨rfl, ?_, ?_⟩
        · exact (((HC6.out.other hlt _ _).other hlt _ _).other hlt _ _).other hlt _ _
        · exact gr_set (gr_set (gr_set (gr_set HG6.out (Nat.le_refl _) _ _) (Nat.le_refl _) _ _) (Nat.le_refl _) _ _) (Nat.le_refl _) _ _
    · rw [if_neg h4] at Hm
      have hd4 : decide (headK s2.r ∈ [4]) = false := by simp [h4]
      rw [hd4] at hi4
      obtain ⟨W3, hW3⟩ : ∃ W3, W3 = W2.alloc (.cells #[.int .i64 4] 70) := ⟨_, rfl⟩
      rw [← hW3] at hb4
      have HW3 := Lib.hid hW3
      have hs3 : W2.heap.size < W3.heap.size := by rw [hW3]; simp
      clear hW3
      have HC3 := Lib.hid (HC2.out.below hb4)
      have HZ3 := Lib.hid (HZ2.out.step hb4)
      have HG3 := Lib.hid (HG2.out.trans (gr_of_below hb4))
      have HK3 := Lib.hid (HK2.out.grown (gr_of_below (b := b) hb4) hbB)
      have hi5 := toksIsK [5] #[.int .i64 5] rfl 70 1 rfl b n s2 W3 HC3.out (by decide) (by decide)
      have hb5 : Below W3.heap.size W3 (W3.alloc (.cells #[.int .i64 5] 70)) := (Below.refl _ _).alloc (Nat.le_refl _) _
      obtain ⟨W4, hW4⟩ : ∃ W4, W4 = W3.alloc (.cells #[.int .i64 5] 70) := ⟨_, rfl⟩
      rw [← hW4] at hb5
      have HW4 := Lib.hid hW4
      have hs4 : W3.heap.size < W4.heap.size := by rw [hW4]; simp
      clear hW4
      have HC4 := Lib.hid (HC3.out.below hb5)
      have HZ4 := Lib.hid (HZ3.out.step hb5)
      have HG4 := Lib.hid (HG3.out.trans (gr_of_below hb5))
      have HK4 := Lib.hid (HK3.out.grown (gr_of_below (b := b) hb5) hbB)
      by_cases h5 : headK s2.r = 5
      · rw [if_pos h5] at Hm
        have hd5 : decide (headK s2.r ∈ [5]) = true := by simp [h5]
        rw [hd5] at hi5
        have hm5 := rMustK [5] #[.int .i64 5] rfl 70 1 rfl b n s2 W4 HC4.out (by decide) (by decide)
        have ho5 := (must_ok (ks := [5]) (n := n) ho2).2
        generalize mustP [5] n s2 = a5 at *
        obtain ⟨t5, s5⟩ := a5
        simp only at hm5 ho5 Hm
        have hm6 := fun W hC => rMustD [1] #[.int .i64 1] rfl 70 1 rfl b n s5 W hC (by decide) (by decide)
        have hx6 := (must_ok (ks := [1]) (n := n) ho5).1
        generalize mustP [1] n s5 = a6 at *
        obtain ⟨t6, s6⟩ := a6
        simp only at hm6 hx6 Hm
        have hfd : ∀ W : World, (Instr.field 72 (kA t6) 1).run Tryz.prog W = .ok (.string t6.x) W := fun W => by kernel_rfl
        have htg := fun W => termTyped ta.x t6.x W
        clear h3 h4 h5 hd4 hd5 hb4 hb5 hbB
        go_wp2_with fail
        refine hi4.mono ?_
        rintro e w3 ⟨rfl, hw3⟩
        rw [← HW3.out] at hw3
        subst hw3
        go_wp2_with fail
        refine hi5.mono ?_
        rintro e w4 ⟨rfl, hw4⟩
        rw [← HW4.out] at hw4
        subst hw4
        go_wp2_with fail
        refine hm5.mono ?_
        rintro e W5 ⟨rfl, hC5, hG5⟩
        have HC5 := Lib.hid hC5
        have HG5 := Lib.hid (HG4.out.trans hG5)
        have HZ5 := Lib.hid (HZ4.out.grown hG5 hlt)
        have HK5 := Lib.hid (HK4.out.grown hG5 HbB.out)
        have hm6 := hm6 W5 hC5
        clear hC5 hG5
        go_wp2_with fail
        have l1 := HK5.out.d.2.1
        have hltB5 := HK5.out.lt
        clear k0 k1 k2 hltB hlt2
        go_region_with (first
          | (go_at_call 39; refine hm6.mono ?_; rintro e W6 ⟨rfl, hC6, hG6⟩; have HC6 := Lib.hid hC6; have HG6 := Lib.hid ((HG5.out.trans (gr_of_below (b := b) (Below.refl _ _).drew)).trans hG6); have HZ6 := Lib.hid ((HZ5.out.step (Below.refl _ _).drew).grown hG6 hlt); have m1 := ((HK5.out.grown (gr_of_below (b := b) (Below.refl _ _).drew) HbB.out).grown hG6 HbB.out).d.2.1; clear hC6 hG6)
          | (go_at_call 69; refine (htg _).mono ?_; rintro e W7 ⟨rfl, hB7⟩; have HC7 := Lib.hid (HC6.out.below hB7); have HG7 := Lib.hid (HG6.out.trans (gr_of_below (b := b) hB7)); obtain ⟨d0, d1, d2, d3, f0⟩ := (HZ6.out.step hB7).d; clear hB7))
        all_goals
          go_wp2
          refine bodyPost_ret (v := tA (typedT ta.x t6.x)) (by simp [results, Tryz.results34, go_sem, d0, d1, d2, d3]) rfl ?_
          rw [Hm.out]
          refine ⟨rfl, ?_, ?_⟩
          · exact (((HC7.out.other hlt _ _).other hlt _ _).other hlt _ _).other hlt _ _
          · exact gr_set (gr_set (gr_set (gr_set HG7.out (Nat.le_refl _) _ _) (Nat.le_refl _) _ _) (Nat.le_refl _) _ _) (Nat.le_refl _) _ _
      · rw [if_neg h5] at Hm
        have hd5 : decide (headK s2.r ∈ [5]) = false := by simp [h5]
        rw [hd5] at hi5
        have htg := fun W => termLiteral ta.x W
        clear h3 h4 h5 hd4 hd5 hb4 hb5 hbB
        go_wp2_with fail
        refine hi4.mono ?_
        rintro e w3 ⟨rfl, hw3⟩
        rw [← HW3.out] at hw3
        subst hw3
        go_wp2_with fail
        refine hi5.mono ?_
        rintro e w4 ⟨rfl, hw4⟩
        rw [← HW4.out] at hw4
        subst hw4
        have l1 := HK4.out.d.2.1
        clear k0 k1 k2 hltB hlt2
        go_wp2_with fail
        refine (htg _).mono ?_
        rintro e W7 ⟨rfl, hB7⟩
        have HC7 := Lib.hid (HC4.out.below hB7)
        have HG7 := Lib.hid (HG4.out.trans (gr_of_below (b := b) hB7))
        obtain ⟨d0, d1, d2, d3, f0⟩ := (HZ4.out.step hB7).d
        clear hB7
        go_wp2
        refine bodyPost_ret (v := tA ⟨3, ta.x, ⟨#[]⟩, ⟨#[]⟩⟩) (by simp [results, Tryz.results34, go_sem, d0, d1, d2, d3]) rfl ?_
        rw [Hm.out]
        refine ⟨rfl, ?_, ?_⟩
        · exact (((HC7.out.other hlt _ _).other hlt _ _).other hlt _ _).other hlt _ _
        · exact gr_set (gr_set (gr_set (gr_set HG7.out (Nat.le_refl _) _ _) (Nat.le_refl _) _ _) (Nat.le_refl _) _ _) (Nat.le_refl _) _ _
  · rw [if_neg h3] at Hm
    have hq3 : ((ta.k : Int) != 3) = true := by simp; omega
    have hnm := linesNamed ta W2
    clear h3
    go_wp2_with fail
    refine hnm.mono ?_
    rintro e W3 ⟨rfl, hB3⟩
    have HC3 := Lib.hid (HC2.out.below hB3)
    have HG3 := Lib.hid (HG2.out.trans (gr_of_below hB3))
    obtain ⟨d0, d1, d2, d3, f0⟩ := (HZ2.out.step hB3).d
    clear hB3
    go_wp2
    refine bodyPost_ret (v := tA (namedP ta)) (by simp [results, Tryz.results34, go_sem, d0, d1, d2, d3]) rfl ?_
    rw [Hm.out]
    refine ⟨rfl, ?_, ?_⟩
    · exact (((HC3.out.other hlt _ _).other hlt _ _).other hlt _ _).other hlt _ _
    · exact gr_set (gr_set (gr_set (gr_set HG3.out (Nat.le_refl _) _ _) (Nat.le_refl _) _ _) (Nat.le_refl _) _ _) (Nat.le_refl _) _ _
end Go.Proofs.YtffpgandgajihaaGreatDoor
