/- The program's package lex, walked: what a token's call keeps. -/
import Derived.Test.YtjigcembbigbnaaDoorJLex7
namespace Go.Proofs.YtjigcembbigbnaaDoor
open Go Go.RowKit Um Lx

/-- A reader of s at k lies in block b. -/
def RdrAt (w : World) (b : Nat) (s : ByteArray) (k : Nat) : Prop := ∃ (A : Option Addr) (n c : Nat), w.heap[b]? = some (.cells #[.string s, .int .i64 k, .slice A n c] 48 (0, 0))
theorem gr_set {w wx : World} {b tb : Nat} (h : w.grownBy wx (some b)) (ht : w.heap.size ≤ tb) (i : Nat) (v : Value) : w.grownBy (wx.setCell ⟨tb, i, none⟩ v) (some b) :=
  ⟨h.os, h.tape, h.output, by simpa [World.setCell] using h.size, fun j hj hne => (Below.heap_setCell wx ⟨tb, i, none⟩ v j (by simp only; omega)).trans (h.block j hj hne)⟩
theorem RdrAt.set {w : World} {b tb : Nat} {s : ByteArray} {k : Nat} (h : RdrAt w b s k) (ht : b ≠ tb) (i : Nat) (v : Value) : RdrAt (w.setCell ⟨tb, i, none⟩ v) b s k := by
  obtain ⟨A, n, c, h1⟩ := h
  exact ⟨A, n, c, by rw [Below.heap_setCell w ⟨tb, i, none⟩ v b (fun e => ht e)]; exact h1⟩
theorem RdrAt.below {w w' : World} {b : Nat} {s : ByteArray} {k : Nat} (h : RdrAt w b s k) (hb : Below w.heap.size w w') : RdrAt w' b s k := by
  obtain ⟨A, n, c, h1⟩ := h
  have hlt := (Array.getElem?_eq_some_iff.1 h1).1
  exact ⟨A, n, c, by rw [hb.block b hlt]; exact h1⟩
theorem RdrAt.c0 {w : World} {b : Nat} {s : ByteArray} {k : Nat} (h : RdrAt w b s k) : w.cell? ⟨b, 0, none⟩ = some (.string s) := by obtain ⟨A, n, c, h1⟩ := h; rw [World.cell?, h1]; rfl
theorem RdrAt.c1 {w : World} {b : Nat} {s : ByteArray} {k : Nat} (h : RdrAt w b s k) : w.cell? ⟨b, 1, none⟩ = some (.int .i64 k) := by obtain ⟨A, n, c, h1⟩ := h; rw [World.cell?, h1]; rfl
theorem RdrAt.fz {w : World} {b : Nat} {s : ByteArray} {k : Nat} (h : RdrAt w b s k) (i : Nat) : w.frozen? ⟨b, i, none⟩ = false := by obtain ⟨A, n, c, h1⟩ := h; simp [World.frozen?, h1]
theorem RdrAt.lt {w : World} {b : Nat} {s : ByteArray} {k : Nat} (h : RdrAt w b s k) : b < w.heap.size := cell_lt h.c0
/-- A token under way, in block w.heap.size. -/
structure TkM (w : World) (b : Nat) (s : ByteArray) (k : Nat) (kd : Int) (k' : Nat) (xs : List Int) (wx : World) : Prop where
  gr : w.grownBy wx (some b)
  tk : wx.heap[w.heap.size]? = some (.cells #[.int .i64 kd, .string ⟨#[]⟩, .int .i64 k] 35 (0, 0))
  rd : ∃ (A : Option Addr) (n c : Nat), wx.heap[b]? = some (.cells #[.string s, .int .i64 k', .slice A n c] 48 (0, 0)) ∧ Rd wx A (xs.map (Value.int .u8)) ∧ xs.length = n
theorem rd_set {w : World} {A : Option Addr} {xs : List Value} (h : Rd w A xs) {tb : Nat} (hA : ∀ a, A = some a → a.block ≠ tb) (i : Nat) (v : Value) : Rd (w.setCell ⟨tb, i, none⟩ v) A xs := by
  rcases h with h0 | ⟨g, o, rfl, hx⟩
  · exact .inl h0
  · refine .inr ⟨g, o, rfl, fun j u hu => ?_⟩
    rw [World.cell?, Below.heap_setCell w ⟨tb, i, none⟩ v g (fun e => hA _ rfl e)]
    exact hx j u hu
/-- The world in which a token is begun: the token's block, the reader without a text. -/
def tkW (w : World) (b k : Nat) : World := (w.setCell ⟨b, 2, none⟩ (.slice none 0 0)).alloc (.cells #[.int .i64 0, .string ⟨#[]⟩, .int .i64 k] 35)
theorem tkW_size (w : World) (b k : Nat) : (tkW w b k).heap.size = w.heap.size + 1 := by simp [tkW, World.setCell]
theorem tkW_s0 (w : World) (b : Nat) : (w.setCell ⟨b, 2, none⟩ (.slice none 0 0)).heap.size = w.heap.size := by simp [World.setCell]
theorem tkW_gr (w : World) (b k : Nat) : w.grownBy (tkW w b k) (some b) := by
  refine ⟨rfl, rfl, rfl, by rw [tkW_size]; omega, fun j hj hne => ?_⟩
  unfold tkW
  rw [Below.heap_alloc _ _ _ (by rw [tkW_s0]; exact hj), Below.heap_setCell _ ⟨b, 2, none⟩ _ j (fun e => hne (by rw [e]))]
theorem tkW_tk (w : World) (b k : Nat) : (tkW w b k).heap[w.heap.size]? = some (.cells #[.int .i64 0, .string ⟨#[]⟩, .int .i64 k] 35 (0, 0)) := by
  have := heap_alloc_new (w.setCell ⟨b, 2, none⟩ (.slice none 0 0)) (.cells #[.int .i64 0, .string ⟨#[]⟩, .int .i64 k] 35)
  rw [tkW_s0] at this
  exact this
theorem tkW_ri (w : World) (b k : Nat) (s : ByteArray) (h : RdrAt w b s k) (hcx : ∀ w', w.grownBy w' (some b) → CtxL w') : RI (tkW w b k) b s k [] (tkW w b k) := by
  obtain ⟨A, n, c, h1⟩ := h
  have hlt := (Array.getElem?_eq_some_iff.1 h1).1
  refine ⟨World.grownBy.refl _ _, ⟨.slice none 0 0, 0, ?_, World.ownsRow_nil _ _ _ _⟩, by rw [tkW_size]; omega, fun w' hw' => hcx w' ((tkW_gr w b k).trans hw')⟩
  unfold tkW
  rw [Below.heap_alloc _ _ _ (by rw [tkW_s0]; exact hlt)]
  simp [World.setCell, Array.getElem?_modify, h1]
theorem TkM.of_ri {w wy : World} {b k k' : Nat} {s : ByteArray} {xs : List Int} (hb : b < w.heap.size) (h : RI (tkW w b k) b s k' xs wy) : TkM w b s k 0 k' xs wy := by
  obtain ⟨v, n, h1, h2⟩ := h.bk
  obtain ⟨A, c, rfl, _, hr⟩ := own_slice h2
  refine ⟨(tkW_gr w b k).trans h.gr, ?_, A, n, c, h1, hr, by have := h2.1; simpa using this⟩
  rw [h.gr.block _ (by rw [tkW_size]; omega) (by intro e; injection e with e; omega)]
  exact tkW_tk w b k
theorem TkM.of_set {w wy : World} {b k k' : Nat} {s : ByteArray} {xs : List Int} (kd : Int) (hb : b < w.heap.size) (h : RI (tkW w b k) b s k' xs wy) : TkM w b s k kd k' xs (wy.setCell ⟨w.heap.size, 0, none⟩ (.int .i64 kd)) := by
  obtain ⟨v, n, h1, h2⟩ := h.bk
  obtain ⟨A, c, rfl, _, hr⟩ := own_slice h2
  have h3 : wy.heap[w.heap.size]? = some (.cells #[.int .i64 0, .string ⟨#[]⟩, .int .i64 k] 35 (0, 0)) := by
    rw [h.gr.block _ (by rw [tkW_size]; omega) (by intro e; injection e with e; omega)]
    exact tkW_tk w b k
  refine ⟨gr_set ((tkW_gr w b k).trans h.gr) (Nat.le_refl _) _ _, ?_, A, n, c, ?_, rd_set hr ?_ _ _, by have := h2.1; simpa using this⟩
  · simp [World.setCell, Array.getElem?_modify, h3]
  · rw [Below.heap_setCell _ ⟨w.heap.size, 0, none⟩ _ _ (by simp only; omega)]; exact h1
  · intro a ha
    subst ha
    have := (h2.lt a.block rfl).1
    rw [tkW_size] at this
    omega
end Go.Proofs.YtjigcembbigbnaaDoor
