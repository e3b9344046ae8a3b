/- Words of lines: where a text is not valid behind a valid one. The program's package lex, walked: what a reader is; rest, eat, put. The program's package lex, walked: put. strconv.ParseUint at base 16, of at most eight digits. The program's package lex, walked: number. The reference's functions of layer 7, walked. -/
import Derived.Test.YtpnlabjgmdhicaaGreatDoorJLexMath3
import Derived.Test.YtpnlabjgmdhicaaGreatDoorJUtfProg5
import Derived.Test.YtpnlabjgmdhicaaGreatDoorJMem
import Derived.Lib.ConvBytes
import Derived.Lib.AtoiAllMem
import Derived.Lib.Walk
import Derived.Laws.Closers25
import Derived.Laws.Closers25b
import Derived.BigCall
import Derived.BigGuard
import Derived.Test.YtpnlabjgmdhicaaGreatDoorJRegion
namespace Go.Proofs.YtpnlabjgmdhicaaGreatDoor
namespace Lx
open Go Go.Lib Um
theorem sgn_right (b : List UInt8) : ∀ a : List UInt8, vld a → (sgn (a ++ b)).2 = (a.length + (sgn b).2.1, (sgn b).2.2) := by
  refine sgn_ind ?_ ?_ ?_
  · intro _; simp
  · intro l h h0 hv; exact absurd h0 (vld_nx hv h).1
  · intro l h h0 ih hv
    have h1 := (nx_isB h0).2.1
    rw [sgn_cons (l ++ b) (by rw [List.length_append]; omega) (by rw [nx_app b h0]; exact h0), nx_app b h0, drop_app h1]
    have h2 := ih (vld_nx hv h).2
    have h3 : (nx l).2 + (sgn (l.drop (nx l).2 ++ b)).2.1 = l.length + (sgn b).2.1 := by
      rw [h2, List.length_drop]; omega
    rw [h3, h2]
/-- What a line says of a text behind blanks behind another. -/
theorem line_right {a b : List UInt8} (ha : vld a) (hb : (sgn b).2.2 = false) : lineL (a ++ b) = ([], a.length + (sgn b).2.1, 11) := by
  unfold lineL
  rw [sgn_right b a ha, hb]; rfl
end Lx
end Go.Proofs.YtpnlabjgmdhicaaGreatDoor
namespace Go.Proofs.YtpnlabjgmdhicaaGreatDoor
open Go Go.RowKit Um

/-- What the error of numbers' texts is: some error. -/
def ErrV (w : World) : Prop := ∃ ev : Value, w.cell? ⟨7, 0, none⟩ = some ev ∧ (ev = .nilIface ∨ ∃ te pe, ev = .iface te pe)
def CtxL (w : World) : Prop := Ctx w ∧ ErrV w
theorem ErrV.step {w w' : World} (h : ErrV w) (hb : Below w.heap.size w w') : ErrV w' := by
  obtain ⟨ev, h1, h2⟩ := h
  exact ⟨ev, by rw [hb.cell (cell_lt h1)]; exact h1, h2⟩
theorem CtxL.step {w w' : World} (h : CtxL w) (hb : Below w.heap.size w w') : CtxL w' := ⟨h.1.step hb, h.2.step hb⟩
/-- A reader of s at k, with the bytes xs so far, in block b; all older blocks but b stay from w0 on. -/
structure RI (w0 : World) (b : Nat) (s : ByteArray) (k : Nat) (xs : List Int) (w : World) : Prop where
  gr : w0.grownBy w (some b)
  bk : ∃ (v : Value) (n : Nat), w.heap[b]? = some (.cells #[.string s, .int .i64 k, v] 140 (0, 0)) ∧ w.ownsRow w0.heap.size 5 1 v n (xs.map (Value.int .u8))
  lt : b < w0.heap.size
  cx : ∀ w', w0.grownBy w' (some b) → CtxL w'
theorem RI.ctx {w0 w : World} {b : Nat} {s : ByteArray} {k : Nat} {xs : List Int} (h : RI w0 b s k xs w) : Ctx w := (h.cx w h.gr).1
theorem RI.err {w0 w : World} {b : Nat} {s : ByteArray} {k : Nat} {xs : List Int} (h : RI w0 b s k xs w) : ErrV w := (h.cx w h.gr).2
theorem RI.size {w0 w : World} {b : Nat} {s : ByteArray} {k : Nat} {xs : List Int} (h : RI w0 b s k xs w) : w0.heap.size ≤ w.heap.size := h.gr.size
theorem RI.c0 {w0 w : World} {b : Nat} {s : ByteArray} {k : Nat} {xs : List Int} (h : RI w0 b s k xs w) : w.cell? ⟨b, 0, none⟩ = some (.string s) := by
  obtain ⟨v, n, h1, _⟩ := h.bk; rw [World.cell?, h1]; rfl
theorem RI.c1 {w0 w : World} {b : Nat} {s : ByteArray} {k : Nat} {xs : List Int} (h : RI w0 b s k xs w) : w.cell? ⟨b, 1, none⟩ = some (.int .i64 k) := by
  obtain ⟨v, n, h1, _⟩ := h.bk; rw [World.cell?, h1]; rfl
theorem RI.c2 {w0 w : World} {b : Nat} {s : ByteArray} {k : Nat} {xs : List Int} (h : RI w0 b s k xs w) : ∃ (v : Value) (n : Nat), w.cell? ⟨b, 2, none⟩ = some v ∧ w.ownsRow w0.heap.size 5 1 v n (xs.map (Value.int .u8)) := by
  obtain ⟨v, n, h1, h2⟩ := h.bk; exact ⟨v, n, by rw [World.cell?, h1]; rfl, h2⟩
theorem RI.fz {w0 w : World} {b : Nat} {s : ByteArray} {k : Nat} {xs : List Int} (h : RI w0 b s k xs w) (i : Nat) : w.frozen? ⟨b, i, none⟩ = false := by
  obtain ⟨v, n, h1, _⟩ := h.bk; simp [World.frozen?, h1]
theorem RI.blt {w0 w : World} {b : Nat} {s : ByteArray} {k : Nat} {xs : List Int} (h : RI w0 b s k xs w) : b < w.heap.size := cell_lt h.c0
theorem RI.step {w0 w w' : World} {b : Nat} {s : ByteArray} {k : Nat} {xs : List Int} (h : RI w0 b s k xs w) (hb : Below w.heap.size w w') : RI w0 b s k xs w' := by
  obtain ⟨v, n, h1, h2⟩ := h.bk
  refine ⟨⟨hb.os.trans h.gr.os, hb.tape.trans h.gr.tape, hb.output.trans h.gr.output, Nat.le_trans h.gr.size hb.size, fun j hj hne => ?_⟩, ⟨v, n, ?_, own_below h2 hb (Nat.le_refl _)⟩, h.lt, h.cx⟩
  · rw [hb.block j (Nat.lt_of_lt_of_le hj h.gr.size)]; exact h.gr.block j hj hne
  · rw [hb.block b h.blt]; exact h1
/-- The place moves. -/
theorem RI.move {w0 w : World} {b : Nat} {s : ByteArray} {k : Nat} {xs : List Int} (h : RI w0 b s k xs w) (k' : Nat) : RI w0 b s k' xs (w.setCell ⟨b, 1, none⟩ (.int .i64 k')) := by
  obtain ⟨v, n, h1, h2⟩ := h.bk
  have hg : w.grownBy (w.setCell ⟨b, 1, none⟩ (.int .i64 k')) (some b) := ⟨rfl, rfl, rfl, by simp [World.setCell], fun j _ hne => Below.heap_setCell w ⟨b, 1, none⟩ _ j (fun e => hne (by rw [e]))⟩
  refine ⟨h.gr.trans hg, ⟨v, n, ?_, own_grown h2 hg h.lt⟩, h.lt, h.cx⟩
  simp [World.setCell, Array.getElem?_modify, h1]
/-- A new row of bytes takes the old one's place. -/
theorem RI.text {w0 w w1 : World} {b : Nat} {s : ByteArray} {k : Nat} {xs : List Int} (h : RI w0 b s k xs w) (hb : Below w0.heap.size w w1) {v : Value} {n : Nat} {ys : List Int} (own : w1.ownsRow w0.heap.size 5 1 v n (ys.map (Value.int .u8))) : RI w0 b s k ys (w1.setCell ⟨b, 2, none⟩ v) := by
  obtain ⟨v0, n0, h1, h2⟩ := h.bk
  have h3 : w1.heap[b]? = some (.cells #[.string s, .int .i64 k, v0] 140 (0, 0)) := by rw [hb.block b h.lt]; exact h1
  have hg : w1.grownBy (w1.setCell ⟨b, 2, none⟩ v) (some b) := ⟨rfl, rfl, rfl, by simp [World.setCell], fun j _ hne => Below.heap_setCell w1 ⟨b, 2, none⟩ _ j (fun e => hne (by rw [e]))⟩
  have hg0 : w0.grownBy w1 (some b) := ⟨hb.os.trans h.gr.os, hb.tape.trans h.gr.tape, hb.output.trans h.gr.output, Nat.le_trans h.gr.size hb.size, fun j hj hne => by rw [hb.block j hj]; exact h.gr.block j hj hne⟩
  refine ⟨hg0.trans hg, ⟨v, n, ?_, own_grown own hg h.lt⟩, h.lt, h.cx⟩
  simp [World.setCell, Array.getElem?_modify, h3]

theorem lexRest (s : ByteArray) (k b : Nat) (w : World) (h0 : w.cell? ⟨b, 0, none⟩ = some (.string s)) (h1 : w.cell? ⟨b, 1, none⟩ = some (.int .i64 k)) (hk : k ≤ s.size) :
    Calls Tryz.prog 140 #[.pointer (some ⟨b, 0, none⟩)] w fun e w' => e = .returned (.string (s.extract k s.size)) ∧ Below w.heap.size w w' := by
  have hw0 : ∀ (d : Nat) (os : Array Obj), (Sort.grow (redrawn w d) os).cell? ⟨b, 0, none⟩ = some (.string s) := fun d os => cell_regrown h0 d os
  have hw1 : ∀ (d : Nat) (os : Array Obj), (Sort.grow (redrawn w d) os).cell? ⟨b, 1, none⟩ = some (.int .i64 k) := fun d os => cell_regrown h1 d os
  go_enter Tryz.func140, Tryz.ntmps140
  go_wp2
  refine wp_region_quiet_below (by kernel_rfl) (by kernel_rfl) ?_; (repeat (any_goals (go_big_quiet_step (fail)))); all_goals (refine wpQuiet_nil ?_; intro _ hw9; obtain ⟨⟨d9, os9⟩, hw8⟩ := hw9; subst hw8)
  clear hw0 hw1
  go_wp2
  go_ret
  exact ⟨rfl, below_regrown _ _ _⟩

/-- Does a text stand at a place? -/
def preB (what s : ByteArray) (k : Nat) : Bool := Lib.hasPrefix (from_ s k) what.data.toList
def eatK (what s : ByteArray) (k : Nat) : Nat := if preB what s k then k + what.size else k
/-- What eating says. -/
def EatR (w0 : World) (b : Nat) (what s : ByteArray) (k : Nat) (xs : List Int) (e : Ending) (w' : World) : Prop := e = .returned (.bool (preB what s k)) ∧ RI w0 b s (eatK what s k) xs w'
theorem lexEat (what s : ByteArray) (k b : Nat) (xs : List Int) (w0 w : World) (h : RI w0 b s k xs w) (hk : k ≤ s.size) (hs : s.size ≤ 1000000) (hw : what.size ≤ 1000) :
    Calls Tryz.prog 102 #[.pointer (some ⟨b, 0, none⟩), .string what] w (EatR w0 b what s k xs) := by
  have hr := lexRest s k b w h.c0 h.c1 hk
  have hp := fun W => Tryz.strings_HasPrefix (s.extract k s.size) what W
  have hl : (s.extract k s.size).data.toList = from_ s k := by
    rw [extract_toList, from_, List.take_of_length_le]
    simp
  rw [hl] at hp
  clear hl
  have Hp : Hid (preB what s k = Lib.hasPrefix (from_ s k) what.data.toList) := rfl
  cases hq : Lib.hasPrefix (from_ s k) what.data.toList
  · rw [hq] at hp
    have Hq := Lib.hid hq
    have H := Lib.hid h
    clear hq h
    go_enter Tryz.func102, Tryz.ntmps102
    go_wp2_with (first
      | (go_at_call 140; refine hr.mono ?_; rintro e w1 ⟨rfl, hb⟩)
      | (go_at_call 139; refine (hp _).mono ?_; rintro e w2 ⟨rfl, rfl⟩))
    go_ret
    exact ⟨by rw [Hp.out, Hq.out]; rfl, by unfold eatK; rw [Hp.out, Hq.out]; exact H.out.step hb⟩
  · rw [hq] at hp
    have Hq := Lib.hid hq
    have H := Lib.hid h
    clear hq h
    go_enter Tryz.func102, Tryz.ntmps102
    go_wp2_with (first
      | (go_at_call 140; refine hr.mono ?_; rintro e w1 ⟨rfl, hb⟩; have c1 := (H.out.step hb).c1; have f1 := (H.out.step hb).fz 1)
      | (go_at_call 139; refine (hp _).mono ?_; rintro e w2 ⟨rfl, rfl⟩))
    go_ret
    refine ⟨by rw [Hp.out, Hq.out]; rfl, ?_⟩
    unfold eatK
    rw [Hp.out, Hq.out]
    have e1 : ((k : Int) + (what.size : Int)) = ((k + what.size : Nat) : Int) := by omega
    rw [e1]
    exact (H.out.step hb).move (k + what.size)
end Go.Proofs.YtpnlabjgmdhicaaGreatDoor
namespace Go.Proofs.YtpnlabjgmdhicaaGreatDoor
open Go Go.RowKit Um

theorem RI.low {w0 w w1 : World} {b : Nat} {s : ByteArray} {k : Nat} {xs : List Int} (h : RI w0 b s k xs w) (hb : Below w0.heap.size w w1) (i : Nat) : w1.cell? ⟨b, i, none⟩ = w.cell? ⟨b, i, none⟩ ∧ w1.frozen? ⟨b, i, none⟩ = false :=
  ⟨hb.cell (p := ⟨b, i, none⟩) h.lt, by rw [hb.frozen (p := ⟨b, i, none⟩) h.lt]; exact h.fz i⟩
/-- What putting keeps, round by round. -/
def PutL (w0 : World) (b : Nat) (s : ByteArray) (k : Nat) (xs : List Int) (n : Int) (w : World) (i : Value) (wr : World) : Prop := (i = .int .i64 0 ∧ w = wr) ∨ (i = .int .i64 1 ∧ RI w0 b s k (xs ++ Lib.encodeRuneZ n) wr)
set_option maxRecDepth 10000 in
set_option maxHeartbeats 1000000 in
theorem lexPut (n : Int) (hn0 : 0 ≤ n) (hn1 : n ≤ 1114111) (s : ByteArray) (k b : Nat) (xs : List Int) (hx : xs.length ≤ 4000000) (g : Nat) (w0 w : World) (h : RI w0 b s k xs w) (hg : w.cell? ⟨g, 0, none⟩ = some (.int .i32 n)) :
    Calls Tryz.prog 178 #[.pointer (some ⟨b, 0, none⟩), .slice (some ⟨g, 0, none⟩) 1 1] w fun e w' => e = .returned (.bool true) ∧ RI w0 b s k (xs ++ Lib.encodeRuneZ n) w' := by
  have H := Lib.hid h
  clear h
  go_enter Tryz.func178, Tryz.ntmps178
  go_wp2
  go_loopw [9] (PutL w0 b s k xs n w) (fun i _ => 1 - (intOf i).toNat)
  case atStart => exact .inl ⟨rfl, rfl⟩
  case round =>
    rcases hrel with ⟨rfl, rfl⟩ | ⟨rfl, h2⟩
    · obtain ⟨v, m, c2, own⟩ := H.out.c2
      have hm : m ≤ 4000000 := by
        have := own.1
        simp at this; omega
      have f2 := H.out.fz 2
      have hap := Tryz.utf8_AppendRune_plain w0.heap.size v m _ n (by omega) (by omega) w own (by omega) H.out.size
      have Own := Lib.hid own
      clear own
      go_wp2_with (go_at_call 161; (refine hap.mono ?_; rintro e w1 ⟨v', rfl, own', ob, hgb⟩; have hb1 : Below w0.heap.size w w1 := ((Below.refl _ _).alloc H.out.size ob).grown hgb (by have := H.out.size; simp; omega) (fun q hq => (Own.out.lt q hq).1); obtain ⟨d2, d3⟩ := H.out.low hb1 2; rw [c2] at d2; obtain ⟨A4, c4, rfl, _, _⟩ := own_slice own'))
      go_roundw
      case rel =>
        refine .inr ⟨by go_num, ?_⟩
        exact H.out.text hb1 (n := m + (Lib.runeCells n).length) (by rw [List.map_append]; exact own')
      case measure => simp [intOf]
    · go_wp2
      go_ret
      exact ⟨rfl, h2⟩
end Go.Proofs.YtpnlabjgmdhicaaGreatDoor
namespace Go.Proofs.YtpnlabjgmdhicaaGreatDoor
open Go Go.RowKit Um Lx

/-- What lower makes of a byte. -/
theorem low_hex : ∀ c : Fin 256, (48 ≤ c.val ∧ c.val ≤ 57) ∨ (∃ d, hexB c.val = some d ∧ 10 ≤ d ∧ d < 16 ∧ bits .or .u8 (c.val : Int) 32 = (d : Int) + 87) ∨ (hexB c.val = none ∧ (bits .or .u8 (c.val : Int) 32 < 97 ∨ 122 < bits .or .u8 (c.val : Int) 32 ∨ (103 ≤ bits .or .u8 (c.val : Int) 32 ∧ bits .or .u8 (c.val : Int) 32 ≤ 122))) := by
  intro c
  have h : ∀ c : Fin 256, (decide (48 ≤ c.val ∧ c.val ≤ 57) || (match hexB c.val with | some d => decide (10 ≤ d ∧ d < 16 ∧ bits .or .u8 (c.val : Int) 32 = (d : Int) + 87) | none => decide (bits .or .u8 (c.val : Int) 32 < 97 ∨ 122 < bits .or .u8 (c.val : Int) 32 ∨ (103 ≤ bits .or .u8 (c.val : Int) 32 ∧ bits .or .u8 (c.val : Int) 32 ≤ 122)))) = true := by decide +kernel
  have h1 := h c
  rw [Bool.or_eq_true, decide_eq_true_iff] at h1
  rcases h1 with h1 | h1
  · exact .inl h1
  · cases hx : hexB c.val with
    | some d => rw [hx] at h1; simp only [decide_eq_true_iff] at h1; exact .inr (.inl ⟨d, rfl, h1⟩)
    | none => rw [hx] at h1; simp only [decide_eq_true_iff] at h1; exact .inr (.inr ⟨rfl, h1⟩)
theorem hex_digit {c : Nat} (h0 : 48 ≤ c) (h1 : c ≤ 57) : hexB c = some (c - 48) := by unfold hexB; rw [if_pos ⟨h0, h1⟩]
/-- What a number's text is, as told. -/
def PuV (o : Option Nat) : Value := match o with
  | some n => .tuple #[.int .u64 (n : Int), .nilIface]
  | none => .tuple #[.int .u64 0, .iface 290 (.int .i64 2)]
set_option maxHeartbeats 32000000 in
set_option maxRecDepth 100000 in
theorem parse16i (t : ByteArray) (hne : t.size ≠ 0) (hmax : t.size ≤ 8) (w : World) :
    Calls Tryz.prog 231 #[.string t, .int .i64 16, .int .i64 32] w fun e w' => e = .returned (PuV (hexN t.data.toList 0)) ∧ w' = Lib.bytesWorld w 5 t := by
  have hemp : t.toList.isEmpty = false := by
    rw [← decide_eq_emptyBytes]
    exact decide_eq_false (fun h => hne (by rw [h]; rfl))
  have hcv := Lib.run_convert_string_bytes (P := Tryz.prog) w 9 54 5 t (u := .string) Tryz.underlying9 Tryz.underlying54 Tryz.underlying5
  have hB : ∀ j, j < t.size → (Lib.bytesWorld w 5 t).cell? ⟨w.heap.size, j, none⟩ = some (.int .u8 (t.data.toList.getD j 0).toNat) := fun j hj => Lib.bytesWorld_cell w 5 t j hj
  obtain ⟨W1, hW1⟩ : ∃ W1, W1 = Lib.bytesWorld w 5 t := ⟨_, rfl⟩
  rw [← hW1] at hcv hB ⊢
  clear hW1
  obtain ⟨bs, hL⟩ : ∃ bs, bs = t.data.toList := ⟨_, rfl⟩
  have hLn : bs.length = t.size := by rw [hL, Lib.size_eq]
  rw [← hL] at hB ⊢
  clear hL
  have hmv : IntKind.u64.wrap (IntKind.u64.wrap 4294967296 - 1) = 4294967295 := by
    rw [IntKind.wrap_u64, IntKind.wrap_u64]
    decide
  go_enter Tryz.func231, Tryz.ntmps231
  go_wp2
  go_loop [12, 13, 101] (fun vu vn vi => ∃ (k acc : Nat) (a : Int), vu = .bool false ∧ vn = .int .u64 a ∧ vi = .int .i64 k ∧ k ≤ t.size ∧ Hid (a = (acc : Int) ∧ acc < 16 ^ k ∧ hexN bs 0 = hexN (bs.drop k) acc))
    (fun _ _ vi => t.size - (intOf vi).toNat)
  case atStart => exact ⟨0, 0, 0, rfl, rfl, rfl, by omega, rfl, by decide, rfl⟩
  case round =>
    obtain ⟨k, acc, a, rfl, rfl, rfl, hk, hh⟩ := hrel
    obtain ⟨ha, hacc, hdec⟩ := hh.out
    clear hh
    by_cases hkn : k < t.size
    · have h7 : 16 ^ k ≤ 268435456 := Nat.pow_le_pow_right (by decide : 0 < 16) (by omega : k ≤ 7)
      have hp : 16 ^ (k + 1) = 16 ^ k * 16 := Nat.pow_succ _ _
      have a0 : 0 ≤ a := by omega
      have a1 : a < 268435456 := by omega
      have hc := hB k hkn
      have hdrop : bs.drop k = bs[k]'(by omega) :: bs.drop (k + 1) := List.drop_eq_getElem_cons (by omega)
      have hget : bs.getD k 0 = bs[k]'(by omega) := by simp [List.getD, List.getElem?_eq_getElem (show k < bs.length by omega)]
      rw [hdrop, hexN] at hdec
      rw [hget] at hc
      generalize bs[k]'(by omega) = c at hc hdec
      have hc256 : c.toNat < 256 := c.toNat_lt
      clear hB hdrop hget
      have hlow := fun W => Tryz.internal_strconv_lower (c.toNat : Int) W
      have hv0 := bits_lo_u8 .or (c.toNat : Int) 32
      have hv1 := bits_hi_u8 .or (c.toNat : Int) 32
      rcases low_hex ⟨c.toNat, hc256⟩ with hd | ⟨d, hx, hd1, hd2, hd3⟩ | ⟨hx, hd⟩
      · simp only at hd
        obtain ⟨hd0, hd1⟩ := hd
        rw [hex_digit hd0 hd1, Option.bind_some] at hdec
        have HN : Hid (a * 16 + ((c.toNat : Int) - 48) = ((16 * acc + (c.toNat - 48) : Nat) : Int) ∧ 16 * acc + (c.toNat - 48) < 16 ^ (k + 1) ∧ hexN bs 0 = hexN (bs.drop (k + 1)) (16 * acc + (c.toNat - 48))) := Lib.hid ⟨by omega, by omega, hdec⟩
        have iov : a * 16 + ((c.toNat : Int) - 48) < 4294967296 := by omega
        clear hacc hdec ha h7 hp hlow hv0 hv1
        go_wp2
        refine ⟨⟨k + 1, _, a * 16 + ((c.toNat : Int) - 48), rfl, (by first | rfl | (congr 1; omega)), (by first | rfl | (congr 1; omega)), by omega, HN⟩, by simp [intOf]; omega⟩
      · simp only at hx hd3
        rw [hx, Option.bind_some] at hdec
        have hnd : 57 < c.toNat ∧ c.toNat ≠ 95 := by
          unfold hexB at hx
          repeat' split at hx
          all_goals (first | (injection hx with hx; omega) | cases hx)
        obtain ⟨lo, hlo⟩ : ∃ lo, bits .or .u8 (c.toNat : Int) 32 = lo := ⟨_, rfl⟩
        rw [hlo] at hlow hv0 hv1 hd3
        obtain ⟨hn1, hn2⟩ := hnd
        have HN : Hid (a * 16 + (lo - 97 + 10) = ((16 * acc + d : Nat) : Int) ∧ 16 * acc + d < 16 ^ (k + 1) ∧ hexN bs 0 = hexN (bs.drop (k + 1)) (16 * acc + d)) := Lib.hid ⟨by omega, by omega, hdec⟩
        have l0 : 97 ≤ lo := by omega
        have l1 : lo ≤ 102 := by omega
        have h95 : ((c.toNat : Int) == 95) = false := by simp; omega
        have iov : a * 16 + (lo - 97 + 10) < 4294967296 := by omega
        generalize c.toNat = cn at *
        clear hacc hdec ha h7 hp hd3 hx hlo hn2 hv0 hv1 hd1 hd2
        go_wp2_with (go_at_call 240; refine (hlow _).mono ?_; rintro e w' ⟨rfl, rfl⟩)
        refine ⟨⟨k + 1, _, a * 16 + (lo - 97 + 10), rfl, (by first | rfl | (congr 1; omega)), (by first | rfl | (congr 1; omega)), by omega, HN⟩, by simp [intOf]; omega⟩
      · simp only at hx hd
        rw [hx, Option.bind_none] at hdec
        have Hdec := Lib.hid hdec
        have hnd : c.toNat < 48 ∨ 57 < c.toNat := by
          by_cases h : c.toNat < 48
          · exact .inl h
          · by_cases h2 : 57 < c.toNat
            · exact .inr h2
            · rw [hex_digit (by omega) (by omega)] at hx
              cases hx
        obtain ⟨lo, hlo⟩ : ∃ lo, bits .or .u8 (c.toNat : Int) 32 = lo := ⟨_, rfl⟩
        rw [hlo] at hlow hv0 hv1 hd
        by_cases hu : c.toNat = 95
        · rw [hu] at hlow hlo hc
          have hlo2 : lo = 127 := by rw [← hlo]; decide
          subst hlo2
          have hc2 : W1.cell? ⟨w.heap.size, k, none⟩ = some (.int .u8 95) := hc
          have hlow2 : ∀ W, Calls Tryz.prog 240 #[.int .u8 95] W fun e w' => e = .returned (.int .u8 127) ∧ w' = W := hlow
          clear hacc hdec ha h7 hp hx hlo hc hd hlow hv0 hv1 hnd hu
          go_wp2_with (go_at_call 240; refine (hlow2 _).mono ?_; rintro e w' ⟨rfl, rfl⟩)
          go_ret2
          exact ⟨by rw [Hdec.out]; rfl, rfl⟩
        · have h95 : ((c.toNat : Int) == 95) = false := by simp; omega
          generalize c.toNat = cn at *
          clear hacc hdec ha h7 hp hx hlo hu
          rcases hnd with hnd | hnd <;> rcases hd with hd | hd | ⟨hd, hdd⟩
          all_goals go_wp2_with (go_at_call 240; refine (hlow _).mono ?_; rintro e w' ⟨rfl, rfl⟩)
          all_goals go_ret2
          all_goals exact ⟨by rw [Hdec.out]; rfl, rfl⟩
    · have hkk : k = t.size := by omega
      subst hkk
      rw [List.drop_eq_nil_of_le (by omega), hexN] at hdec
      have Hdec := Lib.hid hdec
      subst ha
      clear hacc hdec
      go_wp2
      go_ret2
      exact ⟨by rw [Hdec.out]; rfl, rfl⟩
end Go.Proofs.YtpnlabjgmdhicaaGreatDoor
namespace Go.Proofs.YtpnlabjgmdhicaaGreatDoor
open Go Go.RowKit Um Lx

theorem below_bytes (w : World) (t : ByteArray) : Below w.heap.size w (Lib.bytesWorld w 5 t) := by
  exact Lib.bytesWorld_below w _ t
theorem parse16_some (t : ByteArray) (n : Nat) (hne : t.size ≠ 0) (hmax : t.size ≤ 8) (w : World) (h : hexN t.data.toList 0 = some n) :
    Calls Tryz.prog 217 #[.string t, .int .i64 16, .int .i64 32] w fun e w' => e = .returned (.tuple #[.int .u64 (n : Int), .nilIface]) ∧ Below w.heap.size w w' := by
  have hp := parse16i t hne hmax w
  rw [h] at hp
  have HB := Lib.hid (below_bytes w t)
  clear h
  go_enter Tryz.func217, Tryz.ntmps217
  go_wp2_with (go_at_call 231; refine hp.mono ?_; rintro e w1 ⟨rfl, rfl⟩; simp only [PuV])
  go_ret2
  exact ⟨rfl, HB.out⟩
theorem parse16_none (t : ByteArray) (hne : t.size ≠ 0) (hmax : t.size ≤ 8) (w : World) (hE : ErrV w) (h : hexN t.data.toList 0 = none) :
    Calls Tryz.prog 217 #[.string t, .int .i64 16, .int .i64 32] w fun e w' => (∃ ty p, e = .returned (.tuple #[.int .u64 0, .iface ty p])) ∧ Below w.heap.size w w' := by
  have hp := parse16i t hne hmax w
  rw [h] at hp
  have hb := below_bytes w t
  have HB := Lib.hid hb
  obtain ⟨ev, h1, h2⟩ := hE.step hb
  have he := fun fn => Tryz.strconv_toError_syntax fn t 16 32 ev (Lib.bytesWorld w 5 t) (by omega) h1 h2
  clear h hb h1 h2 hE
  go_enter Tryz.func217, Tryz.ntmps217
  go_wp2_with (first
    | (go_at_call 231; refine hp.mono ?_; rintro e w1 ⟨rfl, rfl⟩; simp only [PuV])
    | (go_at_call 232; refine (he _).mono ?_; rintro e w2 ⟨N, rfl, _, _, hb2⟩))
  go_ret2
  exact ⟨⟨_, _, rfl⟩, below_tr HB.out hb2⟩
end Go.Proofs.YtpnlabjgmdhicaaGreatDoor
namespace Go.Proofs.YtpnlabjgmdhicaaGreatDoor
open Go Go.RowKit Um

theorem refIs (n : Int) (w : World) :
    Calls Tryz.prog 168 #[.int .i64 n] w fun e w' => e = .returned (.bool (isB n)) ∧ w = w' := by
  go_enter Tryz.func168, Tryz.ntmps168
  go_wp2
  all_goals
    go_ret
    refine ⟨?_, rfl⟩
    simp [isB, *]
  all_goals omega

theorem refIn (n : Int) (l : List Int) (A : Option Addr) (c : Nat) (w : World) (hl : l.length ≤ 1000000) (hc : Rd w A (l.map (Value.int .i64))) :
    Calls Tryz.prog 128 #[.int .i64 n, .slice A l.length c] w fun e w' => e = .returned (.bool (inB n l)) ∧ w = w' := by
  go_enter Tryz.func128, Tryz.ntmps128
  go_wp2
  go_loop [5] (fun i => ∃ k : Nat, k ≤ l.length + 1 ∧ i = .int .i64 k ∧ Hid (inB n (l.drop k) = inB n l)) (fun i => l.length + 2 - (intOf i).toNat)
  case atStart => exact ⟨0, by omega, rfl, rfl⟩
  case round =>
    obtain ⟨k, hk, rfl, H⟩ := hrel
    by_cases hlt : k + 1 < l.length
    · obtain ⟨x, hx⟩ : ∃ x, l[k]? = some x := ⟨_, List.getElem?_eq_getElem (by omega)⟩
      obtain ⟨y, hy⟩ : ∃ x, l[k+1]? = some x := ⟨_, List.getElem?_eq_getElem (by omega)⟩
      have hd := inB_drop n x y l k hx hy
      rw [H.out] at hd
      have Hd := Lib.hid hd
      clear hd H
      obtain ⟨g, o, rfl, hcc⟩ := hc.resolve_left (by intro h; simp at h; subst h; simp at hx)
      have h0 := hcc k (.int .i64 x) (by simp [hx])
      have h1 := hcc (k+1) (.int .i64 y) (by simp [hy])
      clear hx hy hc hcc
      go_wp2
      · go_ret
        exact ⟨by rw [Hd.out]; simp [*], rfl⟩
      · go_round
        case rel => exact ⟨k+2, by omega, by go_num, by show _ = _; rw [Hd.out]; simp; omega⟩
        case measure => simp [intOf]; omega
      · go_round
        case rel => exact ⟨k+2, by omega, by go_num, by show _ = _; rw [Hd.out]; simp; omega⟩
        case measure => simp [intOf]; omega
    · have he := inB_end n l k hlt
      rw [H.out] at he
      have Hd := Lib.hid he
      clear he H
      go_wp2
      go_ret
      exact ⟨by rw [Hd.out]; rfl, rfl⟩

theorem refFirst (n : Int) (w : World) :
    Calls Tryz.prog 127 #[.int .i64 n] w fun e w' => e = .returned (.bool (firstB n)) ∧ Below w.heap.size w w' := by
  have hin := fun W hW => refIn n firstL (some ⟨w.heap.size, 0, none⟩) 28 W (by decide) hW
  go_enter Tryz.func127, Tryz.ntmps127
  go_wp2_with (go_at_call 128; refine (hin _ ?_).mono ?_; exact Rd.of_block (heap_alloc_new w _) rfl; rintro e w' ⟨rfl, rfl⟩)
  go_ret
  exact ⟨rfl, (Below.refl _ _).alloc (Nat.le_refl _) _⟩

theorem refLetter (n : Int) (w : World) :
    Calls Tryz.prog 129 #[.int .i64 n] w fun e w' => e = .returned (.bool (letterB n)) ∧ Below w.heap.size w w' := by
  have hf := refFirst n w
  have hin := fun (W : World) (g : Nat) hW => refIn n letterL (some ⟨g, 0, none⟩) 14 W (by decide) hW
  unfold letterB
  generalize firstB n = b at hf
  go_enter Tryz.func129, Tryz.ntmps129
  cases b
  · go_wp2_with (first
      | (go_at_call 127; refine hf.mono ?_; rintro e w1 ⟨rfl, hb⟩)
      | (go_at_call 128; refine (hin _ _ ?_).mono ?_; exact Rd.of_block (heap_alloc_new w1 _) rfl; rintro e w' ⟨rfl, rfl⟩))
    go_ret
    exact ⟨by simp, hb.alloc hb.size _⟩
  · go_wp2_with (first
      | (go_at_call 127; refine hf.mono ?_; rintro e w1 ⟨rfl, hb⟩))
    go_ret
    exact ⟨by simp, hb⟩

/-- The bytes of a sign, in a block of their own. -/
theorem refBytes (n : Int) (w : World) (hn : isB n = true) :
    Calls Tryz.prog 169 #[.int .i64 n] w fun e w' => e = .returned (.slice (some ⟨w.heap.size, 0, none⟩) (Lib.runeCells n).length (Lib.runeCells n).length) ∧
      w' = w.alloc (.cells (Lib.runeCells n).toArray 5) := by
  rw [isB_iff] at hn
  obtain ⟨⟨h0, h9⟩, hs⟩ := hn
  by_cases c1 : n ≤ 127
  · have e := Lib.encodeRuneZ_one h0 c1
    unfold Lib.runeCells
    rw [e]
    clear e hs
    go_enter Tryz.func169, Tryz.ntmps169
    go_wp2
    go_ret
    exact ⟨rfl, rfl⟩
  · by_cases c2 : n ≤ 2047
    · have e := Lib.encodeRuneZ_two (by omega : 128 ≤ n) c2
      unfold Lib.runeCells
      rw [e]
      clear e hs
      go_enter Tryz.func169, Tryz.ntmps169
      go_wp2
      go_ret
      exact ⟨rfl, rfl⟩
    · by_cases c3 : n ≤ 65535
      · have e := Lib.encodeRuneZ_three (r := n) (by omega)
        unfold Lib.runeCells
        rw [e]
        clear e hs
        go_enter Tryz.func169, Tryz.ntmps169
        go_wp2
        go_ret
        exact ⟨rfl, rfl⟩
      · have e := Lib.encodeRuneZ_four (r := n) (by omega) (by omega)
        unfold Lib.runeCells
        rw [e]
        clear e hs
        go_enter Tryz.func169, Tryz.ntmps169
        go_wp2
        go_ret
        exact ⟨rfl, rfl⟩
def encS (n : Int) : ByteArray := ⟨(Lib.encodeRune n).toArray⟩
theorem encS_toList (n : Int) : (encS n).toList = Lib.encodeRune n := by unfold encS; rw [ByteArray.toList_mk]

theorem refBytesStr (n : Int) (w : World) (hn : isB n = true) :
    Calls Tryz.prog 169 #[.int .i64 n] w fun e w' => ∃ g, e = .returned (.slice (some ⟨g, 0, none⟩) (Lib.runeCells n).length (Lib.runeCells n).length) ∧
      Below w.heap.size w w' ∧ (∀ W, Below w'.heap.size w' W → (convert 54 9 (.slice (some ⟨g, 0, none⟩) (Lib.runeCells n).length (Lib.runeCells n).length)).run Tryz.prog W = .ok (.string (encS n)) W) := by
  refine (refBytes n w hn).mono ?_
  rintro e w' ⟨rfl, rfl⟩
  refine ⟨_, rfl, (Below.refl _ _).alloc (Nat.le_refl _) _, ?_⟩
  intro W hW
  have := run_convert_bytes_arg (P := Tryz.prog) W 54 5 Tryz.underlying54 Tryz.underlying5 w.heap.size 0
    (Lib.runeCells n).length (Lib.runeCells n).length (Lib.encodeRuneZ n) (by simp [Lib.runeCells]) ?_ 9 Tryz.underlying9
  · rw [this]
    congr 2
  · intro i hi
    have hb : (w.alloc (.cells (Lib.runeCells n).toArray 5)).heap[w.heap.size]? = some (.cells (Lib.runeCells n).toArray 5) := heap_alloc_new w _
    rw [← hW.block w.heap.size (by simp)] at hb
    simp only [World.cell?, hb, Nat.zero_add]
    simp [Lib.runeCells] at hi ⊢
    simp [hi]

theorem cand_bn (s : ByteArray) (k : Nat) :
    cand (from_ s k) 1 = bn s k ∧ cand (from_ s k) 2 = 64 * (bn s k - 192) + bn s (k+1) - 128 ∧
    cand (from_ s k) 3 = 64 * (64 * (bn s k - 224) + bn s (k+1) - 128) + bn s (k+2) - 128 ∧
    cand (from_ s k) 4 = 64 * (64 * (64 * (bn s k - 240) + bn s (k+1) - 128) + bn s (k+2) - 128) + bn s (k+3) - 128 := by
  simp only [cand, from_, bn_drop, Nat.add_zero, and_self]

/-- A candidate is right just if nx says so. -/
theorem cand_yes (l : List UInt8) (k : Nat) (_h1 : 1 ≤ k) (hk : k ≤ l.length) (h : isB (cand l k) = true ∧ l.take k = Lib.encodeRune (cand l k)) : nx l = ((cand l k).toNat, k) :=
  nx_of_enc _ l h.1 k h.2 hk
theorem cand_no (l : List UInt8) (k : Nat) (h1 : 1 ≤ k) (h : ¬ (isB (cand l k) = true ∧ l.take k = Lib.encodeRune (cand l k))) : (nx l).2 ≠ k := by
  intro e
  apply h
  have := nx_enc l (by omega)
  rw [e] at this
  rw [this.2.2.2.1]
  exact ⟨this.1, this.2.2.1⟩
end Go.Proofs.YtpnlabjgmdhicaaGreatDoor
