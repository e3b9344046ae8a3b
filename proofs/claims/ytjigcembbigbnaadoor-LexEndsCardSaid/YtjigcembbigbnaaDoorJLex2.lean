/- The program's package lex, walked: put. -/
import Derived.Test.YtjigcembbigbnaaDoorJLex1
import Derived.Test.YtjigcembbigbnaaDoorJMem
namespace Go.Proofs.YtjigcembbigbnaaDoor
open Go Go.RowKit Um

theorem RI.low {w0 w w1 : World} {b : Nat} {s : ByteArray} {k : Nat} {xs : List Int} (h : RI w0 b s k xs w) (hb : Below w0.heap.size w w1) (i : Nat) : w1.cell? ⟨b, i, none⟩ = w.cell? ⟨b, i, none⟩ ∧ w1.frozen? ⟨b, i, none⟩ = false :=
  ⟨hb.cell (p := ⟨b, i, none⟩) h.lt, by rw [hb.frozen (p := ⟨b, i, none⟩) h.lt]; exact h.fz i⟩
/-- What putting keeps, round by round. -/
def PutL (w0 : World) (b : Nat) (s : ByteArray) (k : Nat) (xs : List Int) (n : Int) (w : World) (i : Value) (wr : World) : Prop := (i = .int .i64 0 ∧ w = wr) ∨ (i = .int .i64 1 ∧ RI w0 b s k (xs ++ Lib.encodeRuneZ n) wr)
set_option maxRecDepth 10000 in
set_option maxHeartbeats 1000000 in
theorem lexPut (n : Int) (hn0 : 0 ≤ n) (hn1 : n ≤ 1114111) (s : ByteArray) (k b : Nat) (xs : List Int) (hx : xs.length ≤ 4000000) (g : Nat) (w0 w : World) (h : RI w0 b s k xs w) (hg : w.cell? ⟨g, 0, none⟩ = some (.int .i32 n)) :
    Calls Tryd.prog 37 #[.pointer (some ⟨b, 0, none⟩), .slice (some ⟨g, 0, none⟩) 1 1] w fun e w' => e = .returned (.bool true) ∧ RI w0 b s k (xs ++ Lib.encodeRuneZ n) w' := by
  have H := Lib.hid h
  clear h
  go_enter Tryd.func37, Tryd.ntmps37
  go_wp2
  go_loopw [9] (PutL w0 b s k xs n w) (fun i _ => 1 - (intOf i).toNat)
  case atStart => exact .inl ⟨rfl, rfl⟩
  case round =>
    rcases hrel with ⟨rfl, rfl⟩ | ⟨rfl, h2⟩
    · obtain ⟨v, m, c2, own⟩ := H.out.c2
      have hm : m ≤ 4000000 := by
        have := own.1
        simp at this; omega
      have f2 := H.out.fz 2
      have hap := Tryd.utf8_AppendRune_plain w0.heap.size v m _ n (by omega) (by omega) w own (by omega) H.out.size
      have Own := Lib.hid own
      clear own
      go_wp2_with (go_at_call 60; (refine hap.mono ?_; rintro e w1 ⟨v', rfl, own', ob, hgb⟩; have hb1 : Below w0.heap.size w w1 := ((Below.refl _ _).alloc H.out.size ob).grown hgb (by have := H.out.size; simp; omega) (fun q hq => (Own.out.lt q hq).1); obtain ⟨d2, d3⟩ := H.out.low hb1 2; rw [c2] at d2; obtain ⟨A4, c4, rfl, _, _⟩ := own_slice own'))
      go_roundw
      case rel =>
        refine .inr ⟨by go_num, ?_⟩
        exact H.out.text hb1 (n := m + (Lib.runeCells n).length) (by rw [List.map_append]; exact own')
      case measure => simp [intOf]
    · go_wp2
      go_ret
      exact ⟨rfl, h2⟩
end Go.Proofs.YtjigcembbigbnaaDoor
