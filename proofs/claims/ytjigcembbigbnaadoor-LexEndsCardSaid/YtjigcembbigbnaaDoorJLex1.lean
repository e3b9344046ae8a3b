/- The program's package lex, walked: what a reader is; rest, eat, put. -/
import Derived.Test.YtjigcembbigbnaaDoorJUtfProg5
import Derived.Test.YtjigcembbigbnaaDoorJLexMath4
namespace Go.Proofs.YtjigcembbigbnaaDoor
open Go Go.RowKit Um

/-- What the error of numbers' texts is: some error. -/
def ErrV (w : World) : Prop := ∃ ev : Value, w.cell? ⟨3, 0, none⟩ = some ev ∧ (ev = .nilIface ∨ ∃ te pe, ev = .iface te pe)
def CtxL (w : World) : Prop := Ctx w ∧ ErrV w
theorem ErrV.step {w w' : World} (h : ErrV w) (hb : Below w.heap.size w w') : ErrV w' := by
  obtain ⟨ev, h1, h2⟩ := h
  exact ⟨ev, by rw [hb.cell (cell_lt h1)]; exact h1, h2⟩
theorem CtxL.step {w w' : World} (h : CtxL w) (hb : Below w.heap.size w w') : CtxL w' := ⟨h.1.step hb, h.2.step hb⟩
/-- A reader of s at k, with the bytes xs so far, in block b; all older blocks but b stay from w0 on. -/
structure RI (w0 : World) (b : Nat) (s : ByteArray) (k : Nat) (xs : List Int) (w : World) : Prop where
  gr : w0.grownBy w (some b)
  bk : ∃ (v : Value) (n : Nat), w.heap[b]? = some (.cells #[.string s, .int .i64 k, v] 48 (0, 0)) ∧ w.ownsRow w0.heap.size 5 1 v n (xs.map (Value.int .u8))
  lt : b < w0.heap.size
  cx : ∀ w', w0.grownBy w' (some b) → CtxL w'
theorem RI.ctx {w0 w : World} {b : Nat} {s : ByteArray} {k : Nat} {xs : List Int} (h : RI w0 b s k xs w) : Ctx w := (h.cx w h.gr).1
theorem RI.err {w0 w : World} {b : Nat} {s : ByteArray} {k : Nat} {xs : List Int} (h : RI w0 b s k xs w) : ErrV w := (h.cx w h.gr).2
theorem RI.size {w0 w : World} {b : Nat} {s : ByteArray} {k : Nat} {xs : List Int} (h : RI w0 b s k xs w) : w0.heap.size ≤ w.heap.size := h.gr.size
theorem RI.c0 {w0 w : World} {b : Nat} {s : ByteArray} {k : Nat} {xs : List Int} (h : RI w0 b s k xs w) : w.cell? ⟨b, 0, none⟩ = some (.string s) := by
  obtain ⟨v, n, h1, _⟩ := h.bk; rw [World.cell?, h1]; rfl
theorem RI.c1 {w0 w : World} {b : Nat} {s : ByteArray} {k : Nat} {xs : List Int} (h : RI w0 b s k xs w) : w.cell? ⟨b, 1, none⟩ = some (.int .i64 k) := by
  obtain ⟨v, n, h1, _⟩ := h.bk; rw [World.cell?, h1]; rfl
theorem RI.c2 {w0 w : World} {b : Nat} {s : ByteArray} {k : Nat} {xs : List Int} (h : RI w0 b s k xs w) : ∃ (v : Value) (n : Nat), w.cell? ⟨b, 2, none⟩ = some v ∧ w.ownsRow w0.heap.size 5 1 v n (xs.map (Value.int .u8)) := by
  obtain ⟨v, n, h1, h2⟩ := h.bk; exact ⟨v, n, by rw [World.cell?, h1]; rfl, h2⟩
theorem RI.fz {w0 w : World} {b : Nat} {s : ByteArray} {k : Nat} {xs : List Int} (h : RI w0 b s k xs w) (i : Nat) : w.frozen? ⟨b, i, none⟩ = false := by
  obtain ⟨v, n, h1, _⟩ := h.bk; simp [World.frozen?, h1]
theorem RI.blt {w0 w : World} {b : Nat} {s : ByteArray} {k : Nat} {xs : List Int} (h : RI w0 b s k xs w) : b < w.heap.size := cell_lt h.c0
theorem RI.step {w0 w w' : World} {b : Nat} {s : ByteArray} {k : Nat} {xs : List Int} (h : RI w0 b s k xs w) (hb : Below w.heap.size w w') : RI w0 b s k xs w' := by
  obtain ⟨v, n, h1, h2⟩ := h.bk
  refine ⟨⟨hb.os.trans h.gr.os, hb.tape.trans h.gr.tape, hb.output.trans h.gr.output, Nat.le_trans h.gr.size hb.size, fun j hj hne => ?_⟩, ⟨v, n, ?_, own_below h2 hb (Nat.le_refl _)⟩, h.lt, h.cx⟩
  · rw [hb.block j (Nat.lt_of_lt_of_le hj h.gr.size)]; exact h.gr.block j hj hne
  · rw [hb.block b h.blt]; exact h1
/-- The place moves. -/
theorem RI.move {w0 w : World} {b : Nat} {s : ByteArray} {k : Nat} {xs : List Int} (h : RI w0 b s k xs w) (k' : Nat) : RI w0 b s k' xs (w.setCell ⟨b, 1, none⟩ (.int .i64 k')) := by
  obtain ⟨v, n, h1, h2⟩ := h.bk
  have hg : w.grownBy (w.setCell ⟨b, 1, none⟩ (.int .i64 k')) (some b) := ⟨rfl, rfl, rfl, by simp [World.setCell], fun j _ hne => Below.heap_setCell w ⟨b, 1, none⟩ _ j (fun e => hne (by rw [e]))⟩
  refine ⟨h.gr.trans hg, ⟨v, n, ?_, own_grown h2 hg h.lt⟩, h.lt, h.cx⟩
  simp [World.setCell, Array.getElem?_modify, h1]
/-- A new row of bytes takes the old one's place. -/
theorem RI.text {w0 w w1 : World} {b : Nat} {s : ByteArray} {k : Nat} {xs : List Int} (h : RI w0 b s k xs w) (hb : Below w0.heap.size w w1) {v : Value} {n : Nat} {ys : List Int} (own : w1.ownsRow w0.heap.size 5 1 v n (ys.map (Value.int .u8))) : RI w0 b s k ys (w1.setCell ⟨b, 2, none⟩ v) := by
  obtain ⟨v0, n0, h1, h2⟩ := h.bk
  have h3 : w1.heap[b]? = some (.cells #[.string s, .int .i64 k, v0] 48 (0, 0)) := by rw [hb.block b h.lt]; exact h1
  have hg : w1.grownBy (w1.setCell ⟨b, 2, none⟩ v) (some b) := ⟨rfl, rfl, rfl, by simp [World.setCell], fun j _ hne => Below.heap_setCell w1 ⟨b, 2, none⟩ _ j (fun e => hne (by rw [e]))⟩
  have hg0 : w0.grownBy w1 (some b) := ⟨hb.os.trans h.gr.os, hb.tape.trans h.gr.tape, hb.output.trans h.gr.output, Nat.le_trans h.gr.size hb.size, fun j hj hne => by rw [hb.block j hj]; exact h.gr.block j hj hne⟩
  refine ⟨hg0.trans hg, ⟨v, n, ?_, own_grown own hg h.lt⟩, h.lt, h.cx⟩
  simp [World.setCell, Array.getElem?_modify, h3]

theorem lexRest (s : ByteArray) (k b : Nat) (w : World) (h0 : w.cell? ⟨b, 0, none⟩ = some (.string s)) (h1 : w.cell? ⟨b, 1, none⟩ = some (.int .i64 k)) (hk : k ≤ s.size) :
    Calls Tryd.prog 21 #[.pointer (some ⟨b, 0, none⟩)] w fun e w' => e = .returned (.string (s.extract k s.size)) ∧ Below w.heap.size w w' := by
  have hw0 : ∀ (d : Nat) (os : Array Obj), (Sort.grow (redrawn w d) os).cell? ⟨b, 0, none⟩ = some (.string s) := fun d os => cell_regrown h0 d os
  have hw1 : ∀ (d : Nat) (os : Array Obj), (Sort.grow (redrawn w d) os).cell? ⟨b, 1, none⟩ = some (.int .i64 k) := fun d os => cell_regrown h1 d os
  go_enter Tryd.func21, Tryd.ntmps21
  go_wp2
  refine wp_region_quiet_below (by kernel_rfl) (by kernel_rfl) ?_; (repeat (any_goals (go_big_quiet_step (fail)))); all_goals (refine wpQuiet_nil ?_; intro _ hw9; obtain ⟨⟨d9, os9⟩, hw8⟩ := hw9; subst hw8)
  clear hw0 hw1
  go_wp2
  go_ret
  exact ⟨rfl, below_regrown _ _ _⟩

/-- Does a text stand at a place? -/
def preB (what s : ByteArray) (k : Nat) : Bool := Lib.hasPrefix (from_ s k) what.data.toList
def eatK (what s : ByteArray) (k : Nat) : Nat := if preB what s k then k + what.size else k
/-- What eating says. -/
def EatR (w0 : World) (b : Nat) (what s : ByteArray) (k : Nat) (xs : List Int) (e : Ending) (w' : World) : Prop := e = .returned (.bool (preB what s k)) ∧ RI w0 b s (eatK what s k) xs w'
theorem lexEat (what s : ByteArray) (k b : Nat) (xs : List Int) (w0 w : World) (h : RI w0 b s k xs w) (hk : k ≤ s.size) (hs : s.size ≤ 1000000) (hw : what.size ≤ 1000) :
    Calls Tryd.prog 15 #[.pointer (some ⟨b, 0, none⟩), .string what] w (EatR w0 b what s k xs) := by
  have hr := lexRest s k b w h.c0 h.c1 hk
  have hp := fun W => Tryd.strings_HasPrefix (s.extract k s.size) what W
  have hl : (s.extract k s.size).data.toList = from_ s k := by
    rw [extract_toList, from_, List.take_of_length_le]
    simp
  rw [hl] at hp
  clear hl
  have Hp : Hid (preB what s k = Lib.hasPrefix (from_ s k) what.data.toList) := rfl
  cases hq : Lib.hasPrefix (from_ s k) what.data.toList
  · rw [hq] at hp
    have Hq := Lib.hid hq
    have H := Lib.hid h
    clear hq h
    go_enter Tryd.func15, Tryd.ntmps15
    go_wp2_with (first
      | (go_at_call 21; refine hr.mono ?_; rintro e w1 ⟨rfl, hb⟩)
      | (go_at_call 20; refine (hp _).mono ?_; rintro e w2 ⟨rfl, rfl⟩))
    go_ret
    exact ⟨by rw [Hp.out, Hq.out]; rfl, by unfold eatK; rw [Hp.out, Hq.out]; exact H.out.step hb⟩
  · rw [hq] at hp
    have Hq := Lib.hid hq
    have H := Lib.hid h
    clear hq h
    go_enter Tryd.func15, Tryd.ntmps15
    go_wp2_with (first
      | (go_at_call 21; refine hr.mono ?_; rintro e w1 ⟨rfl, hb⟩; have c1 := (H.out.step hb).c1; have f1 := (H.out.step hb).fz 1)
      | (go_at_call 20; refine (hp _).mono ?_; rintro e w2 ⟨rfl, rfl⟩))
    go_ret
    refine ⟨by rw [Hp.out, Hq.out]; rfl, ?_⟩
    unfold eatK
    rw [Hp.out, Hq.out]
    have e1 : ((k : Int) + (what.size : Int)) = ((k + what.size : Nat) : Int) := by omega
    rw [e1]
    exact (H.out.step hb).move (k + what.size)
end Go.Proofs.YtjigcembbigbnaaDoor
