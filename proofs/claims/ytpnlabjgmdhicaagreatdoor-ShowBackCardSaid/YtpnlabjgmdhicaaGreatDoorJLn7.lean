/- Lines, plain: tokens read one by one, with a place at which one can't go on; the two readers of an object, of a triple, tell the same. The answer for lines (ossuaryref10): the reader of tokens. The answer for lines: fail. The answer for lines: take. The answer for lines: node. The answer for lines: object, end. Slices without their first. The program's package lines: a reader's tokens in memory; is, place. The program's package lines: must, named. -/
import Derived.Test.YtpnlabjgmdhicaaGreatDoorJTxRd
import Derived.Test.YtpnlabjgmdhicaaGreatDoorJR8g
import Derived.Test.YtpnlabjgmdhicaaGreatDoorJLex8
import Derived.Great.Walk
import Derived.Test.YtpnlabjgmdhicaaGreatDoorJMem
import Derived.Test.YtpnlabjgmdhicaaGreatDoorJTms
namespace Go.Proofs.YtpnlabjgmdhicaaGreatDoor
open Go Go.RowKit Um Fm Lx Tx

/-- What is left of a line, and where it can't go on. -/
structure Ls where
  r : List LTok
  bad : Option Nat
def headK : List LTok → Nat
  | [] => 0
  | t :: _ => t.k
def placeP (n : Nat) : List LTok → Nat
  | [] => n
  | t :: _ => t.p
def tok0 : LTok := ⟨0, ⟨#[]⟩, 0⟩
/-- The next token, if it is of one of some kinds. -/
def mustP (ks : List Nat) (n : Nat) (s : Ls) : LTok × Ls :=
  match s.bad with
  | some _ => (tok0, s)
  | none => match s.r with
    | [] => (tok0, ⟨[], some n⟩)
    | t :: r => if t.k ∈ ks then (t, ⟨r, none⟩) else (tok0, ⟨t :: r, some t.p⟩)
def namedP (t : LTok) : Tm := if t.k = 2 then ⟨2, t.x, ⟨#[]⟩, ⟨#[]⟩⟩ else ⟨1, t.x, ⟨#[]⟩, ⟨#[]⟩⟩
def objC (n : Nat) (s : Ls) : Tm × Ls :=
  let a := mustP [1, 2, 3] n s
  if a.1.k = 3 then
    if headK a.2.r = 4 then
      let b := mustP [4] n a.2
      (⟨3, a.1.x, lowS b.1.x, ⟨#[]⟩⟩, b.2)
    else if headK a.2.r = 5 then
      let b := mustP [5] n a.2
      let c := mustP [1] n b.2
      (typedT a.1.x c.1.x, c.2)
    else (⟨3, a.1.x, ⟨#[]⟩, ⟨#[]⟩⟩, a.2)
  else (namedP a.1, a.2)
def stopP (s : Ls) : Ls :=
  match s.bad, s.r with
  | none, t :: r => ⟨t :: r, some t.p⟩
  | _, _ => s
theorem mustP_bad {ks : List Nat} {n : Nat} {s : Ls} {p : Nat} (h : s.bad = some p) : mustP ks n s = (tok0, s) := by
  unfold mustP; rw [h]
def tripC (n : Nat) (s : Ls) : (Tm × Tm × Tm) × Ls :=
  let a := mustP [1, 2] n s
  let b := mustP [1] n a.2
  let c := objC n b.2
  let d := mustP [6] n c.2
  ((namedP a.1, namedP b.1, c.1), d.2)
end Go.Proofs.YtpnlabjgmdhicaaGreatDoor
namespace Go.Proofs.YtpnlabjgmdhicaaGreatDoor
open Go Go.RowKit Um Fm Lx Tx
theorem tok_at {w : World} {A : Option Addr} {l : List LTok} (h : RdL 3 (fun cs t => cs = tokC t) w A l) {j : Nat} {t : LTok} (he : l[j]? = some t) :
    ∃ g o, A = some ⟨g, o, none⟩ ∧ w.cell? ⟨g, o + j * 3, none⟩ = some (.int .i64 t.k) ∧ w.cell? ⟨g, o + j * 3 + 1, none⟩ = some (.string t.x) ∧
      w.cell? ⟨g, o + j * 3 + 2, none⟩ = some (.int .i64 t.p) := by
  obtain ⟨g, o, cs, hA, _, hcs, hx⟩ := RdL.at_ h (by omega) he
  subst hcs
  exact ⟨g, o, hA, hx 0 _ rfl, hx 1 _ rfl, hx 2 _ rfl⟩
theorem rdl_set {w : World} {A : Option Addr} {l : List LTok} (h : RdL 3 (fun cs t => cs = tokC t) w A l) {b : Nat} (hA : ∀ a, A = some a → a.block ≠ b) (i : Nat) (v : Value) : RdL 3 (fun cs t => cs = tokC t) (w.setCell ⟨b, i, none⟩ v) A l := by
  obtain ⟨xs, hr, ha⟩ := h
  exact ⟨xs, rd_set hr hA i v, ha⟩
end Go.Proofs.YtpnlabjgmdhicaaGreatDoor
namespace Go.Proofs.YtpnlabjgmdhicaaGreatDoor
open Go Go.RowKit Um Fm Lx Tx
end Go.Proofs.YtpnlabjgmdhicaaGreatDoor
namespace Go.Proofs.YtpnlabjgmdhicaaGreatDoor
open Go Go.RowKit Um Fm Lx Tx
end Go.Proofs.YtpnlabjgmdhicaaGreatDoor
namespace Go.Proofs.YtpnlabjgmdhicaaGreatDoor
open Go Go.RowKit Um Fm Lx Tx
theorem zT.grown {w V V' : World} {b : Nat} (h : zT w V) (hg : V.grownBy V' (some b)) (hb : b < w.heap.size) : zT w V' := by
  have hlt : w.heap.size < V.heap.size := (Array.getElem?_eq_some_iff.1 h).1
  show V'.heap[w.heap.size]? = _
  rw [hg.block _ hlt (by intro e; cases e; omega)]
  exact h
end Go.Proofs.YtpnlabjgmdhicaaGreatDoor
namespace Go.Proofs.YtpnlabjgmdhicaaGreatDoor
open Go Go.RowKit Um Fm Lx Tx
end Go.Proofs.YtpnlabjgmdhicaaGreatDoor
namespace Go.Proofs.YtpnlabjgmdhicaaGreatDoor
open Go Go.RowKit
/-- A slice from its second on. -/
def subA (sz c : Nat) (s : Option Addr) : Option Addr := if c = 1 then s else s.map fun x => { block := x.block, off := x.off + sz }
theorem Rd.sub {w : World} {s : Option Addr} {xs : List Value} (h : Rd w s xs) (sz : Nat) : Rd w (s.map fun x => { block := x.block, off := x.off + sz }) (xs.drop sz) := by
  rcases h with rfl | ⟨g, o, rfl, hx⟩
  · exact .inl (by simp)
  · refine .inr ⟨g, o + sz, rfl, fun j u hu => ?_⟩
    rw [Nat.add_assoc]
    exact hx (sz + j) u (by simpa using hu)
theorem RdL.sub {α : Type} {sz : Nat} {R : List Value → α → Prop} {w : World} {s : Option Addr} {l : List α} {c : Nat} (h : RdL sz R w s l) (hl : l.length ≤ c) : RdL sz R w (subA sz c s) l.tail ∧ l.tail.length ≤ c - 1 := by
  refine ⟨?_, by rw [List.length_tail]; omega⟩
  unfold subA
  split
  · have : l.tail = [] := List.eq_nil_of_length_eq_zero (by rw [List.length_tail]; omega)
    rw [this]; exact RdL.nil _ _ _ _
  · obtain ⟨xs, hr, ha⟩ := h
    have h2 := ha.drop 1
    rw [Nat.one_mul] at h2
    exact ⟨_, hr.sub sz, by rw [← List.drop_one]; exact h2⟩
end Go.Proofs.YtpnlabjgmdhicaaGreatDoor
namespace Go.Proofs.YtpnlabjgmdhicaaGreatDoor
open Go Go.RowKit Um Fm Lx Tx

def idxN : List Nat → Nat → Int
  | [], _ => -1
  | y :: r, x => if x = y then 0 else if idxN r x = -1 then -1 else idxN r x + 1
theorem idxN_mem : ∀ (l : List Nat) (x : Nat), -1 ≤ idxN l x ∧ (0 ≤ idxN l x ↔ x ∈ l)
  | [], x => by simp [idxN]
  | y :: r, x => by
    obtain ⟨h1, h2⟩ := idxN_mem r x
    unfold idxN
    by_cases e : x = y
    · rw [if_pos e]; simp [e]
    · rw [if_neg e]
      by_cases e2 : idxN r x = -1
      · rw [if_pos e2]
        have : x ∉ r := fun h => by have := h2.2 h; omega
        simp [e, this]
      · rw [if_neg e2]
        have : x ∈ r := h2.1 (by omega)
        simp [this]; omega
def idxAt (l : List Nat) (x k : Nat) : Prop := idxN l x = if idxN (l.drop k) x = -1 then -1 else idxN (l.drop k) x + k
theorem idxAt_next {l : List Nat} {x k y : Nat} (h : idxAt l x k) (hy : l[k]? = some y) (hne : x ≠ y) : idxAt l x (k + 1) := by
  unfold idxAt at h ⊢
  have hm := (idxN_mem (l.drop (k + 1)) x).1
  rw [h, drop_cons_of hy, idxN, if_neg hne]
  split <;> split <;> omega
theorem kindIndex (ks : List Nat) (x c : Nat) (A : Option Addr) (w : World) (hr : Rd w A (ks.map fun k : Nat => Value.int .i64 k)) (hl : ks.length ≤ 1000) :
    Calls Tryz.prog 179 #[.slice A ks.length c, .int .i64 x] w fun e w' => e = .returned (.int .i64 (idxN ks x)) ∧ w = w' := by
  go_enter Tryz.func179, Tryz.ntmps179
  go_wp2
  go_loop [5, 8] (fun v i => ∃ k : Nat, k ≤ ks.length ∧ i = .int .i64 k ∧ Hid (idxAt ks x k)) (fun _ i => ks.length - (intOf i).toNat)
  case atStart => exact ⟨0, by omega, rfl, by show idxAt _ _ _; unfold idxAt; rw [List.drop_zero]; split <;> omega⟩
  case round =>
    obtain ⟨k, hk, rfl, H⟩ := hrel
    by_cases hlt : k < ks.length
    · obtain ⟨y, hy⟩ : ∃ y, ks[k]? = some y := ⟨_, List.getElem?_eq_getElem hlt⟩
      obtain ⟨g, o, rfl, hcx⟩ := hr.at_ (j := k) (u := .int .i64 y) (by rw [List.getElem?_map, hy]; rfl)
      by_cases hq : x = y
      · have H2 : Hid (idxN ks x = k) := by
          have h0 := H.out
          unfold idxAt at h0
          rw [drop_cons_of hy, idxN, if_pos hq] at h0
          show _ = _
          rw [h0]; simp
        clear H hy hr
        have hq1 : ((x : Int) == (y : Int)) = true := by simp [hq]
        clear hq
        go_wp2
        go_ret
        exact ⟨by rw [H2.out]; rfl, rfl⟩
      · have H2 := Lib.hid (idxAt_next H.out hy hq)
        have hq1 : ((x : Int) == (y : Int)) = false := by simp; omega
        clear H hy hr hq
        go_wp2
        go_round
        case rel => exact ⟨k + 1, by omega, by go_num, H2⟩
        case measure => simp [intOf]; omega
    · have H2 : Hid (idxN ks x = -1) := by
        have h0 := H.out
        unfold idxAt at h0
        rw [List.drop_eq_nil_of_le (by omega)] at h0
        show _ = _
        rw [h0]; rfl
      clear H hr
      go_wp2
      go_ret
      exact ⟨by rw [H2.out]; rfl, rfl⟩
theorem kindIn (ks : List Nat) (x c : Nat) (A : Option Addr) (w : World) (hr : Rd w A (ks.map fun k : Nat => Value.int .i64 k)) (hl : ks.length ≤ 1000) :
    Calls Tryz.prog 145 #[.slice A ks.length c, .int .i64 x] w fun e w' => e = .returned (.bool (decide (x ∈ ks))) ∧ w = w' := by
  have hI := kindIndex ks x c A w hr hl
  have hm := (idxN_mem ks x).2
  have hd : Hid (decide (x ∈ ks) = decide (0 ≤ idxN ks x)) := by show _ = _; rw [decide_eq_decide]; exact hm.symm
  clear hm
  generalize idxN ks x = z at *
  go_enter Tryz.func145, Tryz.ntmps145
  go_wp2_with (go_at_call 179; refine hI.mono ?_; rintro e w1 ⟨rfl, rfl⟩)
  go_ret
  exact ⟨by rw [hd.out]; rfl, rfl⟩
/-- The program's reader in memory: what is left, the line's length, whether it is stuck, and where. -/
def CrAt (w : World) (b n : Nat) (s : Ls) : Prop := ∃ (A : Option Addr) (c : Nat) (z : Int), w.heap[b]? = some (.cells #[.slice A s.r.length c, .int .i64 n, .bool s.bad.isSome, .int .i64 z] 99 (0, 0)) ∧
  (∀ p, s.bad = some p → z = (p : Int)) ∧ (∀ a, A = some a → a.block < b) ∧ s.r.length ≤ c ∧ RdL 3 (fun cs t => cs = tokC t) w A s.r
theorem CrAt.lt {w : World} {b n : Nat} {s : Ls} (h : CrAt w b n s) : b < w.heap.size := by
  obtain ⟨A, c, z, hb, _⟩ := h
  exact (Array.getElem?_eq_some_iff.1 hb).1
theorem CrAt.below {w w' : World} {b n : Nat} {s : Ls} (h : CrAt w b n s) (hB : Below w.heap.size w w') : CrAt w' b n s := by
  have hlt := h.lt
  obtain ⟨A, c, z, hb, hz, hA, hc, hR⟩ := h
  exact ⟨A, c, z, by rw [hB.block b hlt]; exact hb, hz, hA, hc, hR.mono hB fun _ _ _ h => h⟩
theorem CrAt.other {w : World} {b n : Nat} {s : Ls} (h : CrAt w b n s) {tb : Nat} (ht : b < tb) (i : Nat) (v : Value) : CrAt (w.setCell ⟨tb, i, none⟩ v) b n s := by
  obtain ⟨A, c, z, hb, hz, hA, hc, hR⟩ := h
  exact ⟨A, c, z, by rw [Below.heap_setCell w ⟨tb, i, none⟩ v b (fun e => by simp only at e; omega)]; exact hb, hz, hA, hc, rdl_set hR (fun a e => by have := hA a e; omega) i _⟩
theorem CrAt.fz {w : World} {b n : Nat} {s : Ls} (h : CrAt w b n s) (i : Nat) : w.frozen? ⟨b, i, none⟩ = false := by
  obtain ⟨A, c, z, hb, _⟩ := h
  simp [World.frozen?, hb]
theorem CrAt.plain {w : World} {b n : Nat} {s : Ls} (h : CrAt w b n s) : ∃ (A : Option Addr) (c : Nat) (z : Int), w.cell? ⟨b, 0, none⟩ = some (.slice A s.r.length c) ∧ w.cell? ⟨b, 1, none⟩ = some (.int .i64 n) ∧ w.cell? ⟨b, 2, none⟩ = some (.bool s.bad.isSome) ∧ w.cell? ⟨b, 3, none⟩ = some (.int .i64 z) ∧
    (∀ p, s.bad = some p → z = (p : Int)) ∧ s.r.length ≤ c ∧ RdL 3 (fun cs t => cs = tokC t) w A s.r := by
  obtain ⟨A, c, z, hb, hz, _, hc, hR⟩ := h
  exact ⟨A, c, z, by simp [World.cell?, hb], by simp [World.cell?, hb], by simp [World.cell?, hb], by simp [World.cell?, hb], hz, hc, hR⟩
/-- It is stuck. -/
theorem CrAt.stick {w : World} {b n : Nat} {s : Ls} (h : CrAt w b n s) {p : Nat} {y : Int} (hy : y = p) : CrAt ((w.setCell ⟨b, 2, none⟩ (.bool true)).setCell ⟨b, 3, none⟩ (.int .i64 y)) b n ⟨s.r, some p⟩ := by
  subst hy
  obtain ⟨A, c, z, hb, hz, hA, hc, hR⟩ := h
  refine ⟨A, c, p, by simp [World.setCell, Array.getElem?_modify, hb], fun q hq => by injection hq with hq; rw [hq], hA, hc, rdl_set (rdl_set hR (fun a e => Nat.ne_of_lt (hA a e)) 2 _) (fun a e => Nat.ne_of_lt (hA a e)) 3 _⟩
/-- It goes behind a token. -/
theorem CrAt.next {w : World} {b n : Nat} {t : LTok} {r : List LTok} (h : CrAt w b n ⟨t :: r, none⟩) {A : Option Addr} {c : Nat} (hc : w.cell? ⟨b, 0, none⟩ = some (.slice A (r.length + 1) c)) : CrAt (w.setCell ⟨b, 0, none⟩ (.slice (subA 3 c A) r.length (c - 1))) b n ⟨r, none⟩ := by
  obtain ⟨A', c', z, hb, hz, hA, hcl, hR⟩ := h
  have e : (Value.slice A' (t :: r).length c') = .slice A (r.length + 1) c := by
    have : w.cell? ⟨b, 0, none⟩ = some (.slice A' (t :: r).length c') := by simp [World.cell?, hb]
    rw [this] at hc
    injection hc
  injection e with e1 e2 e3
  subst e1; subst e3
  obtain ⟨s1, s2⟩ := hR.sub hcl
  have hA' : ∀ a, subA 3 c' A' = some a → a.block < b := by
    intro a ha
    unfold subA at ha
    split at ha
    · exact hA a ha
    · cases A' with
      | none => cases ha
      | some x =>
        simp only [Option.map_some, Option.some.injEq] at ha
        subst ha
        exact hA x rfl
  exact ⟨_, _, z, by simp [World.setCell, Array.getElem?_modify, hb], fun p hp => (by cases hp), hA', s2, rdl_set s1 (fun a e => Nat.ne_of_lt (hA' a e)) 0 _⟩
theorem toksIs (ks : List Nat) (c b n : Nat) (A : Option Addr) (s : Ls) (w : World) (h : CrAt w b n s) (hr : Rd w A (ks.map fun k : Nat => Value.int .i64 k)) (hl : ks.length ≤ 1000) (hk : 0 ∉ ks) :
    Calls Tryz.prog 104 #[.pointer (some ⟨b, 0, none⟩), .slice A ks.length c] w fun e w' => e = .returned (.bool (decide (headK s.r ∈ ks))) ∧ w = w' := by
  obtain ⟨A1, c1, z, h0, h1, h2, h3, hz, hc, hR⟩ := h.plain
  cases hx : s.r with
  | nil =>
    have hd : Hid (decide (headK [] ∈ ks) = false) := decide_eq_false hk
    rw [hx] at h0
    simp only [List.length_nil] at h0
    clear hR h1 h2 h3 h
    go_enter Tryz.func104, Tryz.ntmps104
    go_wp2
    go_ret
    exact ⟨by rw [hd.out]; rfl, rfl⟩
  | cons t r =>
    rw [hx] at h0 hR
    simp only [List.length_cons] at h0
    obtain ⟨g, o, rfl, e1, _, _⟩ := tok_at hR (j := 0) (t := t) rfl
    simp only [Nat.zero_mul, Nat.add_zero] at e1
    have hI := kindIn ks t.k c A w hr hl
    have hd : Hid (headK (t :: r) = t.k) := rfl
    clear hR h1 h2 h3 h
    go_enter Tryz.func104, Tryz.ntmps104
    go_wp2_with (go_at_call 145; refine hI.mono ?_; rintro e w1 ⟨rfl, rfl⟩)
    go_ret
    exact ⟨by rw [hd.out]; rfl, rfl⟩
theorem toksPlace (b n : Nat) (s : Ls) (w : World) (h : CrAt w b n s) :
    Calls Tryz.prog 105 #[.pointer (some ⟨b, 0, none⟩)] w fun e w' => e = .returned (.int .i64 (placeP n s.r)) ∧ w = w' := by
  obtain ⟨A1, c1, z, h0, h1, h2, h3, hz, hc, hR⟩ := h.plain
  cases hx : s.r with
  | nil =>
    rw [hx] at h0
    simp only [List.length_nil] at h0
    clear hR h2 h3 h
    go_enter Tryz.func105, Tryz.ntmps105
    go_wp2
    go_ret
    exact ⟨rfl, rfl⟩
  | cons t r =>
    rw [hx] at h0 hR
    simp only [List.length_cons] at h0
    obtain ⟨g, o, rfl, _, _, e1⟩ := tok_at hR (j := 0) (t := t) rfl
    simp only [Nat.zero_mul, Nat.add_zero] at e1
    clear hR h2 h3 h
    go_enter Tryz.func105, Tryz.ntmps105
    go_wp2
    go_ret
    exact ⟨rfl, rfl⟩
end Go.Proofs.YtpnlabjgmdhicaaGreatDoor
namespace Go.Proofs.YtpnlabjgmdhicaaGreatDoor
open Go Go.RowKit Um Fm Lx Tx
/-- A token as the value that it is. -/
abbrev kA (t : LTok) : Value := .agg #[.int .i64 t.k, .string t.x, .int .i64 t.p]
theorem gr_own {w wx : World} {b : Nat} (h : w.grownBy wx (some b)) (i : Nat) (v : Value) : w.grownBy (wx.setCell ⟨b, i, none⟩ v) (some b) :=
  ⟨h.os, h.tape, h.output, by simpa [World.setCell] using h.size, fun j hj hne => (Below.heap_setCell wx ⟨b, i, none⟩ v j (fun e => hne (by rw [e]))).trans (h.block j hj hne)⟩
def zK (w V : World) : Prop := V.heap[w.heap.size]? = some (.cells #[.int .i64 0, .string ⟨#[]⟩, .int .i64 0] 102 (0, 0))
theorem zK.new (w : World) : zK w (w.alloc (.cells #[.int .i64 0, .string ⟨#[]⟩, .int .i64 0] 102)) := heap_alloc_new w _
theorem zK.d {w V : World} (h : zK w V) : V.cell? ⟨w.heap.size, 0, none⟩ = some (.int .i64 0) ∧ V.cell? ⟨w.heap.size, 1, none⟩ = some (.string ⟨#[]⟩) ∧ V.cell? ⟨w.heap.size, 2, none⟩ = some (.int .i64 0) ∧ ∀ i, V.frozen? ⟨w.heap.size, i, none⟩ = false :=
  ⟨by rw [Lib.cell_of_heap h]; rfl, by rw [Lib.cell_of_heap h]; rfl, by rw [Lib.cell_of_heap h]; rfl, fun i => Lib.frozen_of_heap h i⟩
theorem zK.set {w V : World} (h : zK w V) {b : Nat} (hb : b ≠ w.heap.size) (i : Nat) (v : Value) : zK w (V.setCell ⟨b, i, none⟩ v) := by
  unfold zK at *
  rw [← h]
  exact Below.heap_setCell _ _ _ _ (by simp; omega)
set_option maxHeartbeats 2000000 in
theorem rMust (ks : List Nat) (c b n : Nat) (A : Option Addr) (s : Ls) (w : World) (h : CrAt w b n s) (hr : Rd w A (ks.map fun k : Nat => Value.int .i64 k)) (hl : ks.length ≤ 1000) (hk : 0 ∉ ks) :
    Calls Tryz.prog 64 #[.pointer (some ⟨b, 0, none⟩), .slice A ks.length c] w fun e w' => e = .returned (kA (mustP ks n s).1) ∧ CrAt w' b n (mustP ks n s).2 ∧ w.grownBy w' (some b) := by
  have hb0 : b < w.heap.size := h.lt
  have hB0 : Below w.heap.size w (w.alloc (.cells #[.int .i64 0, .string ⟨#[]⟩, .int .i64 0] 102)) := (Below.refl _ _).alloc (Nat.le_refl _) _
  have hlt := h.lt
  have hz := zK.new w
  have h' := h.below hB0
  have hI := toksIs ks c b n A s _ h' (hr.later hB0) hl hk
  have hP := toksPlace b n s _ h'
  obtain ⟨A1, c1, z, h0, h1, h2, h3, hzz, hc, hR⟩ := h.plain
  obtain ⟨d0, d1, d2, f0⟩ := hz.d
  have hf := fun i => h.fz i
  have H := Lib.hid h'
  have Hw := Lib.hid h
  have HB := Lib.hid hB0
  have Hz := Lib.hid hz
  clear h h' hr hz
  have hsz : (w.alloc (.cells #[.int .i64 0, .string ⟨#[]⟩, .int .i64 0] 102)).heap.size = w.heap.size + 1 := by simp
  cases hb : s.bad with
  | some p =>
    have hm : Hid (mustP ks n s = (tok0, s)) := mustP_bad hb
    rw [hb] at h2
    clear hR hI hP h0 h1 h3 hzz hB0
    go_enter Tryz.func64, Tryz.ntmps64
    go_wp2
    refine bodyPost_ret (v := kA tok0) (by simp [results, Tryz.results64, go_sem, tok0]) rfl ?_
    rw [hm.out]
    exact ⟨rfl, H.out, gr_of_below HB.out⟩
  | none =>
    rw [hb] at h2
    by_cases hq : headK s.r ∈ ks
    · obtain ⟨t, r, hx⟩ : ∃ t r, s.r = t :: r := by
        cases hx : s.r with
        | nil => rw [hx] at hq; exact absurd hq hk
        | cons t r => exact ⟨t, r, rfl⟩
      have hm : Hid (mustP ks n s = (t, ⟨r, none⟩)) := by
        show _ = _
        unfold mustP
        rw [hb, hx]
        dsimp only
        rw [if_pos (by rw [hx] at hq; simpa [headK] using hq)]
      have hd : decide (headK s.r ∈ ks) = true := decide_eq_true hq
      rw [hd] at hI
      have hs : s = ⟨t :: r, none⟩ := by obtain ⟨sr, sb⟩ := s; simp only at hx hb; rw [hx, hb]
      have Hs := Lib.hid hs
      rw [hx] at h0 hR hc
      simp only [List.length_cons] at h0 hc
      obtain ⟨g, o, rfl, e1, e2, e3⟩ := tok_at hR (j := 0) (t := t) rfl
      simp only [Nat.zero_mul, Nat.add_zero] at e1 e2 e3
      have hg := cell_lt e1
      have hN := CrAt.next (Hs.out ▸ Hw.out) h0
      have HN1 : Hid (c1 = 1 → CrAt (w.setCell ⟨b, 0, none⟩ (.slice (some ⟨g, o, none⟩) r.length 0)) b n ⟨r, none⟩) := fun e => by
        have h2 := hN
        unfold subA at h2
        rw [if_pos e, e] at h2
        exact h2
      have HN2 : Hid (¬ c1 = 1 → CrAt (w.setCell ⟨b, 0, none⟩ (.slice (some ⟨g, o + 3, none⟩) r.length (c1 - 1))) b n ⟨r, none⟩) := fun e => by
        have h2 := hN
        unfold subA at h2
        rw [if_neg e] at h2
        exact h2
      clear hN
      simp only at hg
      clear hR h1 h3 hzz hB0 hP hx hb hq hs
      go_enter Tryz.func64, Tryz.ntmps64
      go_wp2_with (go_at_call 104; refine hI.mono ?_; rintro e w1 ⟨rfl, rfl⟩)
      go_region
      all_goals go_wp2
      all_goals (refine bodyPost_ret (v := kA t) (by simp [results, Tryz.results64, go_sem]) rfl ?_)
      · rw [hm.out]
        exact ⟨rfl, (HN1.out (by assumption)).below ((Below.refl _ _).alloc (Nat.le_refl _) _).drew, (gr_own (gr_of_below (Below.refl _ w)) 0 _).trans (gr_of_below ((Below.refl _ _).alloc (Nat.le_refl _) _).drew)⟩
      · rw [hm.out]
        exact ⟨rfl, (HN2.out (by assumption)).below ((Below.refl _ _).alloc (Nat.le_refl _) _).drew, (gr_own (gr_of_below (Below.refl _ w)) 0 _).trans (gr_of_below ((Below.refl _ _).alloc (Nat.le_refl _) _).drew)⟩
    · have hm : Hid (mustP ks n s = (tok0, ⟨s.r, some (placeP n s.r)⟩)) := by
        show _ = _
        unfold mustP
        rw [hb]
        dsimp only
        cases hx : s.r with
        | nil => rfl
        | cons t r => rw [hx] at hq; dsimp only; rw [if_neg (by simpa [headK] using hq)]; rfl
      have hd : decide (headK s.r ∈ ks) = false := decide_eq_false hq
      rw [hd] at hI
      have hne : b ≠ w.heap.size := by omega
      clear hR h0 h1 hzz hB0 hb hq
      go_enter Tryz.func64, Tryz.ntmps64
      go_wp2_with (first | (go_at_call 104; refine hI.mono ?_; rintro e w1 ⟨rfl, rfl⟩) | (go_at_call 105; refine hP.mono ?_; rintro e w2 ⟨rfl, rfl⟩))
      refine bodyPost_ret (v := kA tok0) (by simp [results, Tryz.results64, go_sem, tok0]) rfl ?_
      rw [hm.out]
      exact ⟨rfl, (Hw.out.stick (p := placeP n s.r) rfl).below ((Below.refl _ _).alloc (Nat.le_refl _) _), (gr_own (gr_own (gr_of_below (Below.refl _ w)) 2 _) 3 _).trans (gr_of_below ((Below.refl _ _).alloc (Nat.le_refl _) _))⟩
/-- The term of an IRI's, or a blank node's token. -/
theorem linesNamed (t : LTok) (w : World) : Calls Tryz.prog 65 #[kA t] w fun e w' => e = .returned (tA (namedP t)) ∧ Below w.heap.size w w' := by
  have hB0 : Below w.heap.size w (w.alloc (.cells #[.int .i64 t.k, .string t.x, .int .i64 t.p] 102)) := (Below.refl _ w).alloc (Nat.le_refl _) _
  have hblk := zT.new (w.alloc (.cells #[.int .i64 t.k, .string t.x, .int .i64 t.p] 102))
  have hB1 := below_alloc (o := .cells #[.int .i64 0, .string ⟨#[]⟩, .string ⟨#[]⟩, .string ⟨#[]⟩] 29) hB0
  have hsz : (w.alloc (.cells #[.int .i64 t.k, .string t.x, .int .i64 t.p] 102)).heap.size = w.heap.size + 1 := by simp
  have hBl := fun W => termBlank t.x W
  have hIr := fun W => termIri t.x W
  have HX := fun V (hb : Below ((w.alloc (.cells #[.int .i64 t.k, .string t.x, .int .i64 t.p] 102)).alloc (.cells #[.int .i64 0, .string ⟨#[]⟩, .string ⟨#[]⟩, .string ⟨#[]⟩] 29)).heap.size ((w.alloc (.cells #[.int .i64 t.k, .string t.x, .int .i64 t.p] 102)).alloc (.cells #[.int .i64 0, .string ⟨#[]⟩, .string ⟨#[]⟩, .string ⟨#[]⟩] 29)) V) => zT.d (hblk.step hb)
  rw [hsz] at HX
  unfold namedP
  by_cases h2 : t.k = 2
  · rw [if_pos h2]
    have hq : ((t.k : Int) == 2) = true := by simp [h2]
    clear h2
    go_enter Tryz.func65, Tryz.ntmps65
    go_wp2_with (go_at_call 23; refine (hBl _).mono ?_; rintro e w1 ⟨rfl, k1⟩; obtain ⟨d0, d1, d2, d3, f0⟩ := HX _ k1; have k2 := below_tr hB1 k1)
    refine bodyPost_ret (v := tA ⟨2, t.x, ⟨#[]⟩, ⟨#[]⟩⟩) (by simp [results, Tryz.results65, go_sem, d0, d1, d2, d3]) rfl ⟨rfl, ?_⟩
    exact k2.trans (below_set4 (by omega) _ _ _ _)
  · rw [if_neg h2]
    have hq : ((t.k : Int) == 2) = false := by simp; omega
    go_enter Tryz.func65, Tryz.ntmps65
    go_wp2_with (go_at_call 22; refine (hIr _).mono ?_; rintro e w1 ⟨rfl, k1⟩; obtain ⟨d0, d1, d2, d3, f0⟩ := HX _ k1; have k2 := below_tr hB1 k1)
    refine bodyPost_ret (v := tA ⟨1, t.x, ⟨#[]⟩, ⟨#[]⟩⟩) (by simp [results, Tryz.results65, go_sem, d0, d1, d2, d3]) rfl ⟨rfl, ?_⟩
    exact k2.trans (below_set4 (by omega) _ _ _ _)
end Go.Proofs.YtpnlabjgmdhicaaGreatDoor
