/- strconv.ParseUint at base 16, of eight bits. -/
import Derived.Test.YtheeklkcaapkbaaGreatDoorJTxMath
import Derived.Lib.ConvBytes
import Derived.Lib.AtoiAllMem
import Derived.Lib.Walk
import Derived.Laws.Closers25
import Derived.Laws.Closers25b
import Derived.BigCall
import Derived.BigGuard
import Derived.Test.YtheeklkcaapkbaaGreatDoorJLex3
namespace Go.Proofs.YtheeklkcaapkbaaGreatDoor
open Go Go.RowKit Um Lx Tx

theorem hexN_ge : ∀ (l : List UInt8) (a n : Nat), hexN l a = some n → a ≤ n
  | [], a, n, h => by rw [hexN] at h; injection h with h; omega
  | c :: t, a, n, h => by
    rw [hexN] at h
    cases hx : hexB c.toNat with
    | none => rw [hx] at h; cases h
    | some d => rw [hx, Option.bind_some] at h; have := hexN_ge t _ n h; omega
/-- What a number of eight bits is told to be. -/
def PuE (o : Option Nat) (e : Ending) : Prop := match o with
  | some n => e = .returned (.tuple #[.int .u64 (n : Int), .nilIface])
  | none => ∃ (x k : Int), (k = 1 ∨ k = 2) ∧ e = .returned (.tuple #[.int .u64 x, .iface 173 (.int .i64 k)])
theorem pu8_ok {l : List UInt8} {n : Nat} (hl : l ≠ []) (h : hexN l 0 = some n) (hn : n < 256) : pu8 l = some n := by unfold pu8; rw [if_neg hl, h, Option.bind_some, if_pos hn]
theorem pu8_none {l : List UInt8} (hl : l ≠ []) (h : hexN l 0 = none) : pu8 l = none := by unfold pu8; rw [if_neg hl, h]; rfl
theorem pu8_big {l r : List UInt8} {m : Nat} (hl : l ≠ []) (h : hexN l 0 = hexN r m) (hm : 256 ≤ m) : pu8 l = none := by
  unfold pu8
  rw [if_neg hl, h]
  cases hx : hexN r m with
  | none => rfl
  | some n => have := hexN_ge r m n hx; rw [Option.bind_some, if_neg (by omega)]
set_option maxHeartbeats 32000000 in
set_option maxRecDepth 100000 in
theorem parse8i (t : ByteArray) (hne : t.size ≠ 0) (hmax : t.size ≤ 8) (w : World) :
    Calls Tryz.prog 126 #[.string t, .int .i64 16, .int .i64 8] w fun e w' => PuE (pu8 t.data.toList) e ∧ w' = Lib.bytesWorld w 5 t := by
  have hemp : t.toList.isEmpty = false := by
    rw [← decide_eq_emptyBytes]
    exact decide_eq_false (fun h => hne (by rw [h]; rfl))
  have hcv := Lib.run_convert_string_bytes (P := Tryz.prog) w 9 47 5 t (u := .string) Tryz.underlying9 Tryz.underlying47 Tryz.underlying5
  have hB : ∀ j, j < t.size → (Lib.bytesWorld w 5 t).cell? ⟨w.heap.size, j, none⟩ = some (.int .u8 (t.data.toList.getD j 0).toNat) := fun j hj => Lib.bytesWorld_cell w 5 t j hj
  obtain ⟨W1, hW1⟩ : ∃ W1, W1 = Lib.bytesWorld w 5 t := ⟨_, rfl⟩
  rw [← hW1] at hcv hB ⊢
  clear hW1
  obtain ⟨bs, hL⟩ : ∃ bs, bs = t.data.toList := ⟨_, rfl⟩
  have hLn : bs.length = t.size := by rw [hL, Lib.size_eq]
  rw [← hL] at hB ⊢
  clear hL
  have hbs : Hid (bs ≠ []) := Lib.hid (by intro h; rw [h] at hLn; simp at hLn; omega)
  have hmv : IntKind.u64.wrap (IntKind.u64.wrap 256 - 1) = 255 := by
    rw [IntKind.wrap_u64, IntKind.wrap_u64]
    decide
  go_enter Tryz.func126, Tryz.ntmps126
  go_wp2
  go_loop [12, 13, 101] (fun vu vn vi => ∃ (k acc : Nat) (a : Int), vu = .bool false ∧ vn = .int .u64 a ∧ vi = .int .i64 k ∧ k ≤ t.size ∧ Hid (a = (acc : Int) ∧ acc < 256 ∧ hexN bs 0 = hexN (bs.drop k) acc))
    (fun _ _ vi => t.size - (intOf vi).toNat)
  case atStart => exact ⟨0, 0, 0, rfl, rfl, rfl, by omega, rfl, by decide, rfl⟩
  case round =>
    obtain ⟨k, acc, a, rfl, rfl, rfl, hk, hh⟩ := hrel
    obtain ⟨ha, hacc, hdec⟩ := hh.out
    clear hh
    by_cases hkn : k < t.size
    · have a0 : 0 ≤ a := by omega
      have a1 : a < 256 := by omega
      have hc := hB k hkn
      have hdrop : bs.drop k = bs[k]'(by omega) :: bs.drop (k + 1) := List.drop_eq_getElem_cons (by omega)
      have hget : bs.getD k 0 = bs[k]'(by omega) := by simp [List.getD, List.getElem?_eq_getElem (show k < bs.length by omega)]
      rw [hdrop, hexN] at hdec
      rw [hget] at hc
      generalize bs[k]'(by omega) = c at hc hdec
      have hc256 : c.toNat < 256 := c.toNat_lt
      clear hB hdrop hget
      have hlow := fun W => Tryz.internal_strconv_lower (c.toNat : Int) W
      have hv0 := bits_lo_u8 .or (c.toNat : Int) 32
      have hv1 := bits_hi_u8 .or (c.toNat : Int) 32
      rcases low_hex ⟨c.toNat, hc256⟩ with hd | ⟨d, hx, hd1, hd2, hd3⟩ | ⟨hx, hd⟩
      · simp only at hd
        obtain ⟨hd0, hd1⟩ := hd
        rw [hex_digit hd0 hd1, Option.bind_some] at hdec
        by_cases iov : a * 16 + ((c.toNat : Int) - 48) ≤ 255
        · have HN : Hid (a * 16 + ((c.toNat : Int) - 48) = ((16 * acc + (c.toNat - 48) : Nat) : Int) ∧ 16 * acc + (c.toNat - 48) < 256 ∧ hexN bs 0 = hexN (bs.drop (k + 1)) (16 * acc + (c.toNat - 48))) := Lib.hid ⟨by omega, by omega, hdec⟩
          clear hacc hdec ha hlow hv0 hv1
          go_wp2
          refine ⟨⟨k + 1, _, a * 16 + ((c.toNat : Int) - 48), rfl, (by first | rfl | (congr 1; omega)), (by first | rfl | (congr 1; omega)), by omega, HN⟩, by simp [intOf]; omega⟩
        · have HN : Hid (pu8 bs = none) := Lib.hid (pu8_big hbs.out hdec (by omega))
          clear hacc hdec ha hlow hv0 hv1
          go_wp2
          go_ret2
          exact ⟨by rw [HN.out]; exact ⟨_, 1, .inl rfl, rfl⟩, rfl⟩
      · simp only at hx hd3
        rw [hx, Option.bind_some] at hdec
        have hnd : 57 < c.toNat ∧ c.toNat ≠ 95 := by
          unfold hexB at hx
          repeat' split at hx
          all_goals (first | (injection hx with hx; omega) | cases hx)
        obtain ⟨lo, hlo⟩ : ∃ lo, bits .or .u8 (c.toNat : Int) 32 = lo := ⟨_, rfl⟩
        rw [hlo] at hlow hv0 hv1 hd3
        obtain ⟨hn1, hn2⟩ := hnd
        have l0 : 97 ≤ lo := by omega
        have l1 : lo ≤ 102 := by omega
        have h95 : ((c.toNat : Int) == 95) = false := by simp; omega
        by_cases iov : a * 16 + (lo - 97 + 10) ≤ 255
        · have HN : Hid (a * 16 + (lo - 97 + 10) = ((16 * acc + d : Nat) : Int) ∧ 16 * acc + d < 256 ∧ hexN bs 0 = hexN (bs.drop (k + 1)) (16 * acc + d)) := Lib.hid ⟨by omega, by omega, hdec⟩
          generalize c.toNat = cn at *
          clear hacc hdec ha hd3 hx hlo hn2 hv0 hv1 hd1 hd2
          go_wp2_with (go_at_call 148; refine (hlow _).mono ?_; rintro e w' ⟨rfl, rfl⟩)
          refine ⟨⟨k + 1, _, a * 16 + (lo - 97 + 10), rfl, (by first | rfl | (congr 1; omega)), (by first | rfl | (congr 1; omega)), by omega, HN⟩, by simp [intOf]; omega⟩
        · have HN : Hid (pu8 bs = none) := Lib.hid (pu8_big hbs.out hdec (by omega))
          generalize c.toNat = cn at *
          clear hacc hdec ha hd3 hx hlo hn2 hv0 hv1 hd1 hd2
          go_wp2_with (go_at_call 148; refine (hlow _).mono ?_; rintro e w' ⟨rfl, rfl⟩)
          go_ret2
          exact ⟨by rw [HN.out]; exact ⟨_, 1, .inl rfl, rfl⟩, rfl⟩
      · simp only at hx hd
        rw [hx, Option.bind_none] at hdec
        have Hdec : Hid (pu8 bs = none) := Lib.hid (pu8_none hbs.out hdec)
        have hnd : c.toNat < 48 ∨ 57 < c.toNat := by
          by_cases h : c.toNat < 48
          · exact .inl h
          · by_cases h2 : 57 < c.toNat
            · exact .inr h2
            · rw [hex_digit (by omega) (by omega)] at hx
              cases hx
        obtain ⟨lo, hlo⟩ : ∃ lo, bits .or .u8 (c.toNat : Int) 32 = lo := ⟨_, rfl⟩
        rw [hlo] at hlow hv0 hv1 hd
        by_cases hu : c.toNat = 95
        · rw [hu] at hlow hlo hc
          have hlo2 : lo = 127 := by rw [← hlo]; decide
          subst hlo2
          have hc2 : W1.cell? ⟨w.heap.size, k, none⟩ = some (.int .u8 95) := hc
          have hlow2 : ∀ W, Calls Tryz.prog 148 #[.int .u8 95] W fun e w' => e = .returned (.int .u8 127) ∧ w' = W := hlow
          clear hacc hdec ha hx hlo hc hd hlow hv0 hv1 hnd hu
          go_wp2_with (go_at_call 148; refine (hlow2 _).mono ?_; rintro e w' ⟨rfl, rfl⟩)
          go_ret2
          exact ⟨by rw [Hdec.out]; exact ⟨_, 2, .inr rfl, rfl⟩, rfl⟩
        · have h95 : ((c.toNat : Int) == 95) = false := by simp; omega
          generalize c.toNat = cn at *
          clear hacc hdec ha hx hlo hu
          rcases hnd with hnd | hnd <;> rcases hd with hd | hd | ⟨hd, hdd⟩
          all_goals go_wp2_with (go_at_call 148; refine (hlow _).mono ?_; rintro e w' ⟨rfl, rfl⟩)
          all_goals go_ret2
          all_goals exact ⟨by rw [Hdec.out]; exact ⟨_, 2, .inr rfl, rfl⟩, rfl⟩
    · have hkk : k = t.size := by omega
      subst hkk
      rw [List.drop_eq_nil_of_le (by omega), hexN] at hdec
      have Hdec : Hid (pu8 bs = some acc) := Lib.hid (pu8_ok hbs.out hdec hacc)
      subst ha
      clear hacc hdec
      go_wp2
      go_ret2
      exact ⟨by rw [Hdec.out]; rfl, rfl⟩
/-- The library's two errors of numbers. -/
def ErrR (w : World) : Prop := ∃ ev : Value, w.cell? ⟨6, 0, none⟩ = some ev ∧ (ev = .nilIface ∨ ∃ te pe, ev = .iface te pe)
theorem ErrR.step {w w' : World} (h : ErrR w) (hb : Below w.heap.size w w') : ErrR w' := by
  obtain ⟨ev, h1, h2⟩ := h
  exact ⟨ev, by rw [hb.cell (cell_lt h1)]; exact h1, h2⟩
def ErrB (w : World) : Prop := ErrV w ∧ ErrR w
theorem ErrB.step {w w' : World} (h : ErrB w) (hb : Below w.heap.size w w') : ErrB w' := ⟨h.1.step hb, h.2.step hb⟩
/-- strconv.ParseUint. -/
def PuT (o : Option Nat) (e : Ending) : Prop := match o with
  | some n => e = .returned (.tuple #[.int .u64 (n : Int), .nilIface])
  | none => ∃ (x : Int) (ty : TypeId) (p : Value), e = .returned (.tuple #[.int .u64 x, .iface ty p])
theorem parse8 (t : ByteArray) (hmax : t.size ≤ 8) (w : World) (hE : ErrB w) :
    Calls Tryz.prog 104 #[.string t, .int .i64 16, .int .i64 8] w fun e w' => PuT (pu8 t.data.toList) e ∧ Below w.heap.size w w' := by
  by_cases hne : t.size = 0
  · have ht : t = ⟨#[]⟩ := by obtain ⟨⟨l⟩⟩ := t; simp [ByteArray.size] at hne; subst hne; rfl
    subst ht
    have hp := Tryz.internal_strconv_ParseUint_empty 16 8 w
    obtain ⟨ev, h1, h2⟩ := hE.1
    have he := fun fn => Tryz.strconv_toError_syntax fn ⟨#[]⟩ 16 8 ev w (by simp [ByteArray.size]) h1 h2
    clear h1 h2 hE
    go_enter Tryz.func104, Tryz.ntmps104
    go_wp2_with (first
      | (go_at_call 126; refine hp.mono ?_; rintro e w1 ⟨rfl, rfl⟩)
      | (go_at_call 127; refine (he _).mono ?_; rintro e w2 ⟨N, rfl, _, _, hb2⟩))
    go_ret2
    exact ⟨⟨_, _, _, rfl⟩, hb2⟩
  · have hp := parse8i t hne hmax w
    have hb := below_bytes w t
    have HB := Lib.hid hb
    cases hx : pu8 t.data.toList with
    | some n =>
      rw [hx] at hp
      clear hx hb
      go_enter Tryz.func104, Tryz.ntmps104
      go_wp2_with (go_at_call 126; refine hp.mono ?_; rintro e w1 ⟨he, rfl⟩; replace he : e = _ := he; subst he)
      go_ret2
      exact ⟨rfl, HB.out⟩
    | none =>
      rw [hx] at hp
      obtain ⟨ev, h1, h2⟩ := (hE.step hb).1
      obtain ⟨ev2, h3, h4⟩ := (hE.step hb).2
      have he := fun fn => Tryz.strconv_toError_syntax fn t 16 8 ev (Lib.bytesWorld w 5 t) (by omega) h1 h2
      have he2 := fun fn => Tryz.strconv_toError_range fn t 16 8 ev2 (Lib.bytesWorld w 5 t) (by omega) h3 h4
      clear hx hb h1 h2 h3 h4 hE
      go_enter Tryz.func104, Tryz.ntmps104
      go_wp2_with (go_at_call 126; refine hp.mono ?_)
      rintro e w1 ⟨⟨x, k, hk, rfl⟩, rfl⟩
      rcases hk with rfl | rfl
      · go_wp2_with (go_at_call 127; refine (he2 _).mono ?_; rintro e w2 ⟨N, rfl, _, _, hb2⟩)
        go_ret2
        exact ⟨⟨_, _, _, rfl⟩, below_tr HB.out hb2⟩
      · go_wp2_with (go_at_call 127; refine (he _).mono ?_; rintro e w2 ⟨N, rfl, _, _, hb2⟩)
        go_ret2
        exact ⟨⟨_, _, _, rfl⟩, below_tr HB.out hb2⟩
end Go.Proofs.YtheeklkcaapkbaaGreatDoor
