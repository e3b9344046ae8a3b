/- strconv.FormatInt of one digit of base 16; strings.ToUpper of it. strconv.FormatInt of one digit of base 16. The program's package utf, walked: which signs begin a label, are letters; Is, Raw, at, next. -/
import Derived.Test.YtheeklkcaapkbaaGreatDoorJMem
import Derived.Test.YtheeklkcaapkbaaGreatDoorJTxMath
import Derived.Lib.Case
import Derived.Test.YtheeklkcaapkbaaGreatDoorJUtfProg3
namespace Go.Proofs.YtheeklkcaapkbaaGreatDoor
open Go Go.RowKit Um Fm Tx

def hxd (d : Nat) : UInt8 := if d < 10 then UInt8.ofNat (48 + d) else UInt8.ofNat (87 + d)
/-- What is asked of math/bits' table. -/
def TzV (w : World) : Prop := w.cell? ⟨8, 15, none⟩ = some (.int .u8 4)
theorem TzV.step {w w' : World} (h : TzV w) (hb : Below w.heap.size w w') : TzV w' := by
  unfold TzV at *
  rw [hb.cell (cell_lt h)]; exact h
theorem tz64 (w : World) (hT : TzV w) : Calls Tryz.prog 176 #[.int .u64 16] w fun e w' => e = .returned (.int .i64 4) ∧ w = w' := by
  have hT' : w.cell? ⟨8, 15, none⟩ = some (.int .u8 4) := hT
  have key : IntKind.u64.wrap (bits BinOp.and IntKind.u64 16 (IntKind.u64.wrap (-16)) * 285870213051353865) / 288230376151711744 = 15 := by decide
  clear hT
  go_enter Tryz.func176, Tryz.ntmps176
  go_wp2
  go_ret
  exact ⟨rfl, rfl⟩
theorem tz (w : World) (hT : TzV w) : Calls Tryz.prog 160 #[.int .u64 16] w fun e w' => e = .returned (.int .i64 4) ∧ w = w' := by
  have h := tz64 w hT
  go_enter Tryz.func160, Tryz.ntmps160
  go_wp2_with (go_at_call 176; refine h.mono ?_; rintro e w2 ⟨rfl, rfl⟩)
  go_ret
  exact ⟨rfl, rfl⟩
theorem isPow (w : World) : Calls Tryz.prog 159 #[.int .i64 16] w fun e w' => e = .returned (.bool true) ∧ w = w' := by
  have key : bits BinOp.and IntKind.i64 16 15 = 0 := by decide
  go_enter Tryz.func159, Tryz.ntmps159
  go_wp2
  go_ret
  exact ⟨rfl, rfl⟩
end Go.Proofs.YtheeklkcaapkbaaGreatDoor
namespace Go.Proofs.YtheeklkcaapkbaaGreatDoor
open Go Go.RowKit Um Fm Tx

abbrev digS : ByteArray := ⟨#[48, 49, 50, 51, 52, 53, 54, 55, 56, 57, 97, 98, 99, 100, 101, 102, 103, 104, 105, 106, 107, 108, 109, 110, 111, 112, 113, 114, 115, 116, 117, 118, 119, 120, 121, 122]⟩
theorem dig_at : ∀ d : Fin 16, digS.data.toList[d.val]? = some (hxd d.val) := by decide
theorem dig_str : ∀ d : Fin 16, strOfNums [(bn digS d.val : Int)] = ⟨#[hxd d.val]⟩ := by decide
set_option maxHeartbeats 4000000 in
set_option maxRecDepth 100000 in
theorem fmtBits (d : Nat) (hd : d < 16) (w : World) (hT : TzV w) : Calls Tryz.prog 137 #[.slice none 0 0, .int .u64 d, .int .i64 16, .bool false, .bool false] w fun e w' => e = .returned (.tuple #[.slice none 0 0, .string ⟨#[hxd d]⟩]) ∧ Below w.heap.size w w' := by
  have hp := isPow
  have ht := fun W hb => tz W (hT.step hb)
  clear hT
  go_enter Tryz.func137, Tryz.ntmps137
  go_wp2_with (first | (go_at_call 159; refine (hp _).mono ?_; rintro e w2 ⟨rfl, rfl⟩) | (go_at_call 160; refine (ht _ (by repeat (first | exact Below.refl _ _ | assumption | exact (Below.refl _ _).alloc (Nat.le_refl _) _ | refine below_tr ?_ (by assumption) | refine below_alloc ?_ | refine below_tr ?_ (below_regrown _ _ _)))).mono ?_; rintro e w2 ⟨rfl, rfl⟩))
  have hrd : Rd (w.alloc (.cells ((Array.replicate 65 (.int .u8 0)).setIfInBounds 64 (.int .u8 (bn digS d))) 183)) (some ⟨w.heap.size, 64, none⟩) ([(bn digS d : Int)].map (Value.int .u8)) := by
    refine .inr ⟨w.heap.size, 64, rfl, fun j u hu => ?_⟩
    cases j with
    | succ j => simp at hu
    | zero =>
      simp only [List.map_cons, List.map_nil, List.getElem?_cons_zero, Option.some.injEq] at hu
      subst hu
      rw [Lib.cell_of_heap (heap_alloc_new w _)]
      simp
  have hcs := run_conv_bytes (P := Tryz.prog) (n := 1) (c := 1) 47 9 5 Tryz.underlying47 Tryz.underlying5 Tryz.underlying9 hrd rfl
  have hst : strOfNums [(bn digS d : Int)] = ⟨#[hxd d]⟩ := dig_str ⟨d, hd⟩
  rw [hst] at hcs
  clear hst hrd
  have hB : Below w.heap.size w (w.alloc (.cells ((Array.replicate 65 (.int .u8 0)).setIfInBounds 64 (.int .u8 (bn digS d))) 183)) := (by repeat (first | exact Below.refl _ _ | assumption | exact (Below.refl _ _).alloc (Nat.le_refl _) _ | refine below_tr ?_ (by assumption) | refine below_alloc ?_ | refine below_tr ?_ (below_regrown _ _ _)))
  have HB := Lib.hid hB
  clear hB
  go_loopw [1, 13] (fun u i wr => u = .int .u64 d ∧ i = .int .i64 65 ∧ wr = w.alloc (.cells (Array.replicate 65 (.int .u8 0)) 183)) (fun _ _ _ => 0)
  case atStart => exact ⟨rfl, rfl, rfl⟩
  case round =>
    obtain ⟨rfl, rfl, rfl⟩ := hrel
    go_wp2
    go_ret2
    exact ⟨rfl, HB.out⟩
set_option maxRecDepth 100000 in
theorem fmtInt (d : Nat) (hd : d < 16) (w : World) (hT : TzV w) : Calls Tryz.prog 79 #[.int .i64 d, .int .i64 16] w fun e w' => e = .returned (.string ⟨#[hxd d]⟩) ∧ Below w.heap.size w w' := by
  have h1 := fmtBits d hd w hT
  have h2 : Calls Tryz.prog 112 #[.int .i64 d, .int .i64 16] w fun e w' => e = .returned (.string ⟨#[hxd d]⟩) ∧ Below w.heap.size w w' := by
    go_enter Tryz.func112, Tryz.ntmps112
    go_wp2_with (go_at_call 137; refine h1.mono ?_; rintro e w2 ⟨rfl, hb⟩)
    go_ret
    exact ⟨rfl, hb⟩
  clear h1
  go_enter Tryz.func79, Tryz.ntmps79
  go_wp2_with (go_at_call 112; refine h2.mono ?_; rintro e w2 ⟨rfl, hb⟩)
  go_ret
  exact ⟨rfl, hb⟩
theorem upper_dig : ∀ d : Fin 16, (hxd d.val).toNat < 128 ∧ Lib.toUpperA [hxd d.val] = [hxD d.val] := by decide
theorem upDig (d : Nat) (hd : d < 16) (w : World) : Calls Tryz.prog 78 #[.string ⟨#[hxd d]⟩] w fun e w' => e = .returned (.string ⟨#[hxD d]⟩) ∧ Below w.heap.size w w' := by
  obtain ⟨h1, h2⟩ := upper_dig ⟨d, hd⟩
  have h := Tryz.strings_ToUpper_ascii ⟨#[hxd d]⟩ w (by show 1 ≤ _; omega) (by
    intro j b hj
    cases j with
    | zero => simp at hj; subst hj; exact h1
    | succ j => simp at hj)
  rw [h2] at h
  exact h
end Go.Proofs.YtheeklkcaapkbaaGreatDoor
namespace Go.Proofs.YtheeklkcaapkbaaGreatDoor
open Go Go.RowKit Um
theorem validRune_isB (n : Int) (h0 : 0 ≤ n) (h1 : n ≤ 1114111) : Lib.validRune n = isB n := by
  simp [Lib.validRune, isB, h0, h1]

theorem utfIs (n : Int) (w : World) :
    Calls Tryz.prog 108 #[.int .i64 n] w fun e w' => e = .returned (.bool (isB n)) ∧ w = w' := by
  have hv := fun W => Tryz.utf8_ValidRune n W
  by_cases h0 : 0 ≤ n
  · by_cases h1 : n ≤ 1114111
    · rw [validRune_isB n h0 h1] at hv
      generalize isB n = q at hv
      go_enter Tryz.func108, Tryz.ntmps108
      go_wp2_with (go_at_call 130; refine (hv _).mono ?_; rintro e w1 ⟨rfl, rfl⟩)
      go_ret
      exact ⟨rfl, rfl⟩
    · have hi : isB n = false := by simp [isB]; omega
      rw [hi]
      clear hi hv
      go_enter Tryz.func108, Tryz.ntmps108
      go_wp2
      go_ret
      exact ⟨rfl, rfl⟩
  · have hi : isB n = false := by simp [isB]; omega
    rw [hi]
    clear hi hv
    go_enter Tryz.func108, Tryz.ntmps108
    go_wp2
    go_ret
    exact ⟨rfl, rfl⟩

theorem encode_enc (n : Int) (h : isB n = true) : (Utf8.encode n).data.toList = Lib.encodeRune n := by
  rw [isB_iff] at h
  have hv : Utf8.valid n = true := by simp [Utf8.valid]; omega
  unfold Utf8.encode
  simp only [hv, if_true]
  by_cases c1 : n ≤ 127
  · rw [if_pos (by omega)]
    unfold Lib.encodeRune
    rw [Lib.encodeRuneZ_one (by omega) c1]
    simp [Nat.toUInt8]
  · rw [if_neg (by omega)]
    by_cases c2 : n ≤ 2047
    · rw [if_pos (by omega)]
      unfold Lib.encodeRune
      rw [Lib.encodeRuneZ_two (by omega) c2]
      simp only [List.map_cons, List.map_nil]
      rw [show (192 + n / 64).toNat = 192 + n.toNat / 64 by omega, show (128 + n % 64).toNat = 128 + n.toNat % 64 by omega]
    · rw [if_neg (by omega)]
      by_cases c3 : n ≤ 65535
      · rw [if_pos (by omega)]
        unfold Lib.encodeRune
        rw [Lib.encodeRuneZ_three (by omega)]
        simp only [List.map_cons, List.map_nil]
        rw [show (224 + n / 4096).toNat = 224 + n.toNat / 4096 by omega, show (128 + n / 64 % 64).toNat = 128 + n.toNat / 64 % 64 by omega, show (128 + n % 64).toNat = 128 + n.toNat % 64 by omega]
      · rw [if_neg (by omega)]
        unfold Lib.encodeRune
        rw [Lib.encodeRuneZ_four (by omega) (by omega)]
        simp only [List.map_cons, List.map_nil]
        rw [show (240 + n / 262144).toNat = 240 + n.toNat / 262144 by omega, show (128 + n / 4096 % 64).toNat = 128 + n.toNat / 4096 % 64 by omega, show (128 + n / 64 % 64).toNat = 128 + n.toNat / 64 % 64 by omega, show (128 + n % 64).toNat = 128 + n.toNat % 64 by omega]

theorem contains_head (s t : List UInt8) (b : UInt8) (h : s.contains b = false) : Lib.contains s (b :: t) = false := by
  have : Lib.index s (b :: t) = -1 := by
    refine Lib.index_none fun j _ => ?_
    unfold Lib.occAt
    cases hd : s.drop j with
    | nil => rfl
    | cons c l =>
      have hc : c ∈ s := List.mem_of_mem_drop (i := j) (by rw [hd]; exact List.mem_cons_self)
      have hne : (b == c) = false := by
        cases hbc : b == c with
        | false => rfl
        | true =>
          have : b = c := by simpa using hbc
          subst this
          have : s.contains b = true := by simpa using hc
          rw [this] at h; cases h
      show ((b == c) && t.isPrefixOf l) = false
      rw [hne]; rfl
  unfold Lib.contains
  rw [this]; rfl

def badU : List UInt8 := [60, 62, 34, 123, 125, 124, 94, 96, 92]
theorem badS_badU : badS.data.toList = badU := rfl
set_option maxRecDepth 10000 in
theorem bad_low : ∀ n : Fin 128, Lib.contains badU [n.val.toUInt8] = badL.contains (n.val : Int) := by decide

theorem bad_contains (n : Int) (h : isB n = true) : Lib.contains badU (Lib.encodeRune n) = badL.contains n := by
  rw [isB_iff] at h
  by_cases c1 : n ≤ 127
  · unfold Lib.encodeRune
    rw [Lib.encodeRuneZ_one (by omega) c1]
    have := bad_low ⟨n.toNat, by omega⟩
    rw [show (((⟨n.toNat, by omega⟩ : Fin 128).val : Nat) : Int) = n by show ((n.toNat : Nat) : Int) = n; omega] at this
    exact this
  · have hb : badL.contains n = false := by
      simp [badL]; omega
    rw [hb]
    have hd : ∃ (b : UInt8) (t : List UInt8), Lib.encodeRune n = b :: t ∧ 128 ≤ b.toNat := by
      unfold Lib.encodeRune
      by_cases c2 : n ≤ 2047
      · rw [Lib.encodeRuneZ_two (by omega) c2]; exact ⟨_, _, rfl, by simp; omega⟩
      · by_cases c3 : n ≤ 65535
        · rw [Lib.encodeRuneZ_three (by omega)]; exact ⟨_, _, rfl, by simp; omega⟩
        · rw [Lib.encodeRuneZ_four (by omega) (by omega)]; exact ⟨_, _, rfl, by simp; omega⟩
    obtain ⟨b, t, he, hb2⟩ := hd
    rw [he]
    apply contains_head
    simp only [badU]
    cases hc : List.contains [60, 62, 34, 123, 125, 124, 94, 96, 92] b with
    | false => rfl
    | true =>
      exfalso
      simp at hc
      rcases hc with h | h | h | h | h | h | h | h | h <;> (subst h; revert hb2; decide)

theorem utfRaw (n : Int) (w : World) (hC : Ctx w) :
    Calls Tryz.prog 76 #[.int .i64 n] w fun e w' => e = .returned (.bool (rawB n)) ∧ w = w' := by
  obtain ⟨m, hm⟩ := hC.maxl
  have his := utfIs n w
  have hsc := fun t => Tryz.strings_Contains badS t m w (by decide) hm
  clear hC
  by_cases h1 : 32 < n
  · by_cases h2 : isB n = true
    · have hr : rawB n = !badL.contains n := by simp [rawB, h1, h2]
      rw [hr]
      replace hsc := hsc (Utf8.encode n)
      rw [encode_enc n h2, badS_badU, bad_contains n h2] at hsc
      rw [h2] at his
      rw [isB_iff] at h2
      obtain ⟨⟨h3, h4⟩, h5⟩ := h2
      clear hr hm h5
      generalize badL.contains n = q at hsc
      unfold badS at hsc
      go_enter Tryz.func76, Tryz.ntmps76
      go_wp2_with (first
        | (go_at_call 108; refine his.mono ?_; rintro e w1 ⟨rfl, rfl⟩)
        | (go_at_call 109; refine hsc.mono ?_; rintro e w1 ⟨rfl, rfl⟩))
      go_ret
      exact ⟨rfl, rfl⟩
    · have h2 : isB n = false := by simpa using h2
      have hr : rawB n = false := by simp [rawB, h2]
      rw [hr]
      rw [h2] at his
      clear hr hm hsc h2
      go_enter Tryz.func76, Tryz.ntmps76
      go_wp2_with (go_at_call 108; refine his.mono ?_; rintro e w1 ⟨rfl, rfl⟩)
      go_ret
      exact ⟨rfl, rfl⟩
  · have hr : rawB n = false := by simp [rawB]; omega
    rw [hr]
    clear hr hm hsc his
    go_enter Tryz.func76, Tryz.ntmps76
    go_wp2
    go_ret
    exact ⟨rfl, rfl⟩
end Go.Proofs.YtheeklkcaapkbaaGreatDoor
