/- Words of lines: where a text is not valid behind a valid one. The program's package lex, walked: what a reader is; rest, eat, put. The program's package lex, walked: put. strconv.ParseUint at base 16, of at most eight digits. The program's package lex, walked: number. -/
import Derived.Test.YtheeklkcaapkbaaGreatDoorJLexMath3
import Derived.Test.YtheeklkcaapkbaaGreatDoorJUtfProg5
import Derived.Test.YtheeklkcaapkbaaGreatDoorJMem
import Derived.Lib.ConvBytes
import Derived.Lib.AtoiAllMem
import Derived.Lib.Walk
import Derived.Laws.Closers25
import Derived.Laws.Closers25b
import Derived.BigCall
import Derived.BigGuard
namespace Go.Proofs.YtheeklkcaapkbaaGreatDoor
namespace Lx
open Go Go.Lib Um
theorem sgn_right (b : List UInt8) : ∀ a : List UInt8, vld a → (sgn (a ++ b)).2 = (a.length + (sgn b).2.1, (sgn b).2.2) := by
  refine sgn_ind ?_ ?_ ?_
  · intro _; simp
  · intro l h h0 hv; exact absurd h0 (vld_nx hv h).1
  · intro l h h0 ih hv
    have h1 := (nx_isB h0).2.1
    rw [sgn_cons (l ++ b) (by rw [List.length_append]; omega) (by rw [nx_app b h0]; exact h0), nx_app b h0, drop_app h1]
    have h2 := ih (vld_nx hv h).2
    have h3 : (nx l).2 + (sgn (l.drop (nx l).2 ++ b)).2.1 = l.length + (sgn b).2.1 := by
      rw [h2, List.length_drop]; omega
    rw [h3, h2]
/-- What a line says of a text behind blanks behind another. -/
theorem line_right {a b : List UInt8} (ha : vld a) (hb : (sgn b).2.2 = false) : lineL (a ++ b) = ([], a.length + (sgn b).2.1, 11) := by
  unfold lineL
  rw [sgn_right b a ha, hb]; rfl
end Lx
end Go.Proofs.YtheeklkcaapkbaaGreatDoor
namespace Go.Proofs.YtheeklkcaapkbaaGreatDoor
open Go Go.RowKit Um

/-- What the error of numbers' texts is: some error. -/
def ErrV (w : World) : Prop := ∃ ev : Value, w.cell? ⟨5, 0, none⟩ = some ev ∧ (ev = .nilIface ∨ ∃ te pe, ev = .iface te pe)
def CtxL (w : World) : Prop := Ctx w ∧ ErrV w
theorem ErrV.step {w w' : World} (h : ErrV w) (hb : Below w.heap.size w w') : ErrV w' := by
  obtain ⟨ev, h1, h2⟩ := h
  exact ⟨ev, by rw [hb.cell (cell_lt h1)]; exact h1, h2⟩
theorem CtxL.step {w w' : World} (h : CtxL w) (hb : Below w.heap.size w w') : CtxL w' := ⟨h.1.step hb, h.2.step hb⟩
/-- Does a text stand at a place? -/
def preB (what s : ByteArray) (k : Nat) : Bool := Lib.hasPrefix (from_ s k) what.data.toList
def eatK (what s : ByteArray) (k : Nat) : Nat := if preB what s k then k + what.size else k
end Go.Proofs.YtheeklkcaapkbaaGreatDoor
namespace Go.Proofs.YtheeklkcaapkbaaGreatDoor
open Go Go.RowKit Um

end Go.Proofs.YtheeklkcaapkbaaGreatDoor
namespace Go.Proofs.YtheeklkcaapkbaaGreatDoor
open Go Go.RowKit Um Lx

/-- What lower makes of a byte. -/
theorem low_hex : ∀ c : Fin 256, (48 ≤ c.val ∧ c.val ≤ 57) ∨ (∃ d, hexB c.val = some d ∧ 10 ≤ d ∧ d < 16 ∧ bits .or .u8 (c.val : Int) 32 = (d : Int) + 87) ∨ (hexB c.val = none ∧ (bits .or .u8 (c.val : Int) 32 < 97 ∨ 122 < bits .or .u8 (c.val : Int) 32 ∨ (103 ≤ bits .or .u8 (c.val : Int) 32 ∧ bits .or .u8 (c.val : Int) 32 ≤ 122))) := by
  intro c
  have h : ∀ c : Fin 256, (decide (48 ≤ c.val ∧ c.val ≤ 57) || (match hexB c.val with | some d => decide (10 ≤ d ∧ d < 16 ∧ bits .or .u8 (c.val : Int) 32 = (d : Int) + 87) | none => decide (bits .or .u8 (c.val : Int) 32 < 97 ∨ 122 < bits .or .u8 (c.val : Int) 32 ∨ (103 ≤ bits .or .u8 (c.val : Int) 32 ∧ bits .or .u8 (c.val : Int) 32 ≤ 122)))) = true := by decide +kernel
  have h1 := h c
  rw [Bool.or_eq_true, decide_eq_true_iff] at h1
  rcases h1 with h1 | h1
  · exact .inl h1
  · cases hx : hexB c.val with
    | some d => rw [hx] at h1; simp only [decide_eq_true_iff] at h1; exact .inr (.inl ⟨d, rfl, h1⟩)
    | none => rw [hx] at h1; simp only [decide_eq_true_iff] at h1; exact .inr (.inr ⟨rfl, h1⟩)
theorem hex_digit {c : Nat} (h0 : 48 ≤ c) (h1 : c ≤ 57) : hexB c = some (c - 48) := by unfold hexB; rw [if_pos ⟨h0, h1⟩]
/-- What a number's text is, as told. -/
def PuV (o : Option Nat) : Value := match o with
  | some n => .tuple #[.int .u64 (n : Int), .nilIface]
  | none => .tuple #[.int .u64 0, .iface 173 (.int .i64 2)]
set_option maxHeartbeats 32000000 in
set_option maxRecDepth 100000 in
theorem parse16i (t : ByteArray) (hne : t.size ≠ 0) (hmax : t.size ≤ 8) (w : World) :
    Calls Tryz.prog 126 #[.string t, .int .i64 16, .int .i64 32] w fun e w' => e = .returned (PuV (hexN t.data.toList 0)) ∧ w' = Lib.bytesWorld w 5 t := by
  have hemp : t.toList.isEmpty = false := by
    rw [← decide_eq_emptyBytes]
    exact decide_eq_false (fun h => hne (by rw [h]; rfl))
  have hcv := Lib.run_convert_string_bytes (P := Tryz.prog) w 9 47 5 t (u := .string) Tryz.underlying9 Tryz.underlying47 Tryz.underlying5
  have hB : ∀ j, j < t.size → (Lib.bytesWorld w 5 t).cell? ⟨w.heap.size, j, none⟩ = some (.int .u8 (t.data.toList.getD j 0).toNat) := fun j hj => Lib.bytesWorld_cell w 5 t j hj
  obtain ⟨W1, hW1⟩ : ∃ W1, W1 = Lib.bytesWorld w 5 t := ⟨_, rfl⟩
  rw [← hW1] at hcv hB ⊢
  clear hW1
  obtain ⟨bs, hL⟩ : ∃ bs, bs = t.data.toList := ⟨_, rfl⟩
  have hLn : bs.length = t.size := by rw [hL, Lib.size_eq]
  rw [← hL] at hB ⊢
  clear hL
  have hmv : IntKind.u64.wrap (IntKind.u64.wrap 4294967296 - 1) = 4294967295 := by
    rw [IntKind.wrap_u64, IntKind.wrap_u64]
    decide
  go_enter Tryz.func126, Tryz.ntmps126
  go_wp2
  go_loop [12, 13, 101] (fun vu vn vi => ∃ (k acc : Nat) (a : Int), vu = .bool false ∧ vn = .int .u64 a ∧ vi = .int .i64 k ∧ k ≤ t.size ∧ Hid (a = (acc : Int) ∧ acc < 16 ^ k ∧ hexN bs 0 = hexN (bs.drop k) acc))
    (fun _ _ vi => t.size - (intOf vi).toNat)
  case atStart => exact ⟨0, 0, 0, rfl, rfl, rfl, by omega, rfl, by decide, rfl⟩
  case round =>
    obtain ⟨k, acc, a, rfl, rfl, rfl, hk, hh⟩ := hrel
    obtain ⟨ha, hacc, hdec⟩ := hh.out
    clear hh
    by_cases hkn : k < t.size
    · have h7 : 16 ^ k ≤ 268435456 := Nat.pow_le_pow_right (by decide : 0 < 16) (by omega : k ≤ 7)
      have hp : 16 ^ (k + 1) = 16 ^ k * 16 := Nat.pow_succ _ _
      have a0 : 0 ≤ a := by omega
      have a1 : a < 268435456 := by omega
      have hc := hB k hkn
      have hdrop : bs.drop k = bs[k]'(by omega) :: bs.drop (k + 1) := List.drop_eq_getElem_cons (by omega)
      have hget : bs.getD k 0 = bs[k]'(by omega) := by simp [List.getD, List.getElem?_eq_getElem (show k < bs.length by omega)]
      rw [hdrop, hexN] at hdec
      rw [hget] at hc
      generalize bs[k]'(by omega) = c at hc hdec
      have hc256 : c.toNat < 256 := c.toNat_lt
      clear hB hdrop hget
      have hlow := fun W => Tryz.internal_strconv_lower (c.toNat : Int) W
      have hv0 := bits_lo_u8 .or (c.toNat : Int) 32
      have hv1 := bits_hi_u8 .or (c.toNat : Int) 32
      rcases low_hex ⟨c.toNat, hc256⟩ with hd | ⟨d, hx, hd1, hd2, hd3⟩ | ⟨hx, hd⟩
      · simp only at hd
        obtain ⟨hd0, hd1⟩ := hd
        rw [hex_digit hd0 hd1, Option.bind_some] at hdec
        have HN : Hid (a * 16 + ((c.toNat : Int) - 48) = ((16 * acc + (c.toNat - 48) : Nat) : Int) ∧ 16 * acc + (c.toNat - 48) < 16 ^ (k + 1) ∧ hexN bs 0 = hexN (bs.drop (k + 1)) (16 * acc + (c.toNat - 48))) := Lib.hid ⟨by omega, by omega, hdec⟩
        have iov : a * 16 + ((c.toNat : Int) - 48) < 4294967296 := by omega
        clear hacc hdec ha h7 hp hlow hv0 hv1
        go_wp2
        refine ⟨⟨k + 1, _, a * 16 + ((c.toNat : Int) - 48), rfl, (by first | rfl | (congr 1; omega)), (by first | rfl | (congr 1; omega)), by omega, HN⟩, by simp [intOf]; omega⟩
      · simp only at hx hd3
        rw [hx, Option.bind_some] at hdec
        have hnd : 57 < c.toNat ∧ c.toNat ≠ 95 := by
          unfold hexB at hx
          repeat' split at hx
          all_goals (first | (injection hx with hx; omega) | cases hx)
        obtain ⟨lo, hlo⟩ : ∃ lo, bits .or .u8 (c.toNat : Int) 32 = lo := ⟨_, rfl⟩
        rw [hlo] at hlow hv0 hv1 hd3
        obtain ⟨hn1, hn2⟩ := hnd
        have HN : Hid (a * 16 + (lo - 97 + 10) = ((16 * acc + d : Nat) : Int) ∧ 16 * acc + d < 16 ^ (k + 1) ∧ hexN bs 0 = hexN (bs.drop (k + 1)) (16 * acc + d)) := Lib.hid ⟨by omega, by omega, hdec⟩
        have l0 : 97 ≤ lo := by omega
        have l1 : lo ≤ 102 := by omega
        have h95 : ((c.toNat : Int) == 95) = false := by simp; omega
        have iov : a * 16 + (lo - 97 + 10) < 4294967296 := by omega
        generalize c.toNat = cn at *
        clear hacc hdec ha h7 hp hd3 hx hlo hn2 hv0 hv1 hd1 hd2
        go_wp2_with (go_at_call 148; refine (hlow _).mono ?_; rintro e w' ⟨rfl, rfl⟩)
        refine ⟨⟨k + 1, _, a * 16 + (lo - 97 + 10), rfl, (by first | rfl | (congr 1; omega)), (by first | rfl | (congr 1; omega)), by omega, HN⟩, by simp [intOf]; omega⟩
      · simp only at hx hd
        rw [hx, Option.bind_none] at hdec
        have Hdec := Lib.hid hdec
        have hnd : c.toNat < 48 ∨ 57 < c.toNat := by
          by_cases h : c.toNat < 48
          · exact .inl h
          · by_cases h2 : 57 < c.toNat
            · exact .inr h2
            · rw [hex_digit (by omega) (by omega)] at hx
              cases hx
        obtain ⟨lo, hlo⟩ : ∃ lo, bits .or .u8 (c.toNat : Int) 32 = lo := ⟨_, rfl⟩
        rw [hlo] at hlow hv0 hv1 hd
        by_cases hu : c.toNat = 95
        · rw [hu] at hlow hlo hc
          have hlo2 : lo = 127 := by rw [← hlo]; decide
          subst hlo2
          have hc2 : W1.cell? ⟨w.heap.size, k, none⟩ = some (.int .u8 95) := hc
          have hlow2 : ∀ W, Calls Tryz.prog 148 #[.int .u8 95] W fun e w' => e = .returned (.int .u8 127) ∧ w' = W := hlow
          clear hacc hdec ha h7 hp hx hlo hc hd hlow hv0 hv1 hnd hu
          go_wp2_with (go_at_call 148; refine (hlow2 _).mono ?_; rintro e w' ⟨rfl, rfl⟩)
          go_ret2
          exact ⟨by rw [Hdec.out]; rfl, rfl⟩
        · have h95 : ((c.toNat : Int) == 95) = false := by simp; omega
          generalize c.toNat = cn at *
          clear hacc hdec ha h7 hp hx hlo hu
          rcases hnd with hnd | hnd <;> rcases hd with hd | hd | ⟨hd, hdd⟩
          all_goals go_wp2_with (go_at_call 148; refine (hlow _).mono ?_; rintro e w' ⟨rfl, rfl⟩)
          all_goals go_ret2
          all_goals exact ⟨by rw [Hdec.out]; rfl, rfl⟩
    · have hkk : k = t.size := by omega
      subst hkk
      rw [List.drop_eq_nil_of_le (by omega), hexN] at hdec
      have Hdec := Lib.hid hdec
      subst ha
      clear hacc hdec
      go_wp2
      go_ret2
      exact ⟨by rw [Hdec.out]; rfl, rfl⟩
end Go.Proofs.YtheeklkcaapkbaaGreatDoor
namespace Go.Proofs.YtheeklkcaapkbaaGreatDoor
open Go Go.RowKit Um Lx

theorem below_bytes (w : World) (t : ByteArray) : Below w.heap.size w (Lib.bytesWorld w 5 t) := by
  exact Lib.bytesWorld_below w _ t
theorem parse16_some (t : ByteArray) (n : Nat) (hne : t.size ≠ 0) (hmax : t.size ≤ 8) (w : World) (h : hexN t.data.toList 0 = some n) :
    Calls Tryz.prog 104 #[.string t, .int .i64 16, .int .i64 32] w fun e w' => e = .returned (.tuple #[.int .u64 (n : Int), .nilIface]) ∧ Below w.heap.size w w' := by
  have hp := parse16i t hne hmax w
  rw [h] at hp
  have HB := Lib.hid (below_bytes w t)
  clear h
  go_enter Tryz.func104, Tryz.ntmps104
  go_wp2_with (go_at_call 126; refine hp.mono ?_; rintro e w1 ⟨rfl, rfl⟩; simp only [PuV])
  go_ret2
  exact ⟨rfl, HB.out⟩
theorem parse16_none (t : ByteArray) (hne : t.size ≠ 0) (hmax : t.size ≤ 8) (w : World) (hE : ErrV w) (h : hexN t.data.toList 0 = none) :
    Calls Tryz.prog 104 #[.string t, .int .i64 16, .int .i64 32] w fun e w' => (∃ ty p, e = .returned (.tuple #[.int .u64 0, .iface ty p])) ∧ Below w.heap.size w w' := by
  have hp := parse16i t hne hmax w
  rw [h] at hp
  have hb := below_bytes w t
  have HB := Lib.hid hb
  obtain ⟨ev, h1, h2⟩ := hE.step hb
  have he := fun fn => Tryz.strconv_toError_syntax fn t 16 32 ev (Lib.bytesWorld w 5 t) (by omega) h1 h2
  clear h hb h1 h2 hE
  go_enter Tryz.func104, Tryz.ntmps104
  go_wp2_with (first
    | (go_at_call 126; refine hp.mono ?_; rintro e w1 ⟨rfl, rfl⟩; simp only [PuV])
    | (go_at_call 127; refine (he _).mono ?_; rintro e w2 ⟨N, rfl, _, _, hb2⟩))
  go_ret2
  exact ⟨⟨_, _, rfl⟩, below_tr HB.out hb2⟩
end Go.Proofs.YtheeklkcaapkbaaGreatDoor
