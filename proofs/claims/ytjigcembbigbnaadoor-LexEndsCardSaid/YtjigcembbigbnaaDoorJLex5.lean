/- The program's package lex, walked: escape. -/
import Derived.Test.YtjigcembbigbnaaDoorJLex4
namespace Go.Proofs.YtjigcembbigbnaaDoor
open Go Go.RowKit Um Lx

theorem pre1 {a : UInt8} (ha : a.toNat ≠ 0) (l : List UInt8) : Lib.hasPrefix l [a] = decide (c0 l = a.toNat) := by
  cases l with
  | nil => simp [Lib.hasPrefix, c0]; omega
  | cons x t =>
    simp only [Lib.hasPrefix, List.isPrefixOf, Bool.and_true, c0, List.getD_cons_zero]
    rw [Bool.eq_iff_iff, beq_iff_eq, decide_eq_true_iff]
    exact ⟨fun h => by rw [h], fun h => (UInt8.toNat_inj.1 h).symm⟩
theorem pre2 {a b : UInt8} (ha : a.toNat ≠ 0) (hb : b.toNat ≠ 0) (l : List UInt8) : Lib.hasPrefix l [a, b] = (decide (c0 l = a.toNat) && decide (c1 l = b.toNat)) := by
  cases l with
  | nil => simp [Lib.hasPrefix, c0, c1]; omega
  | cons x t =>
    have h1 := pre1 ha (x :: t)
    have h2 : c1 (x :: t) = c0 t := by simp [c1, c0]
    rw [h2, ← h1, ← pre1 hb t]
    simp [Lib.hasPrefix, List.isPrefixOf]
def fromB : ByteArray := ⟨#[116, 98, 110, 114, 102, 34, 39, 92]⟩
def toB : ByteArray := ⟨#[9, 8, 10, 13, 12, 34, 39, 92]⟩
theorem esc_at (c : Nat) (hc : c < 256) : (escOf c = none ∧ Lib.indexByte fromB.data.toList ((c : Int).toNat.toUInt8) = -1) ∨ (∃ (n j : Nat), escOf c = some n ∧ j < 8 ∧ Lib.indexByte fromB.data.toList ((c : Int).toNat.toUInt8) = (j : Int) ∧ bn toB j = n ∧ n < 128) := by
  have key : ∀ c : Fin 256, (match escOf c.val with
    | none => decide (Lib.indexByte fromB.data.toList ((c.val : Int).toNat.toUInt8) = -1)
    | some n => decide (0 ≤ Lib.indexByte fromB.data.toList ((c.val : Int).toNat.toUInt8) ∧ (Lib.indexByte fromB.data.toList ((c.val : Int).toNat.toUInt8)).toNat < 8 ∧ bn toB (Lib.indexByte fromB.data.toList ((c.val : Int).toNat.toUInt8)).toNat = n ∧ n < 128)) = true := by decide +kernel
  have h := key ⟨c, hc⟩
  simp only at h
  cases hx : escOf c with
  | none => rw [hx] at h; exact .inl ⟨rfl, of_decide_eq_true h⟩
  | some n =>
    rw [hx] at h
    obtain ⟨h1, h2, h3, h4⟩ := of_decide_eq_true h
    exact .inr ⟨n, _, rfl, h2, by omega, h3, h4⟩
/-- What an escape makes of a reader. -/
def Failed (w0 : World) (b : Nat) (s : ByteArray) (w' : World) : Prop := ∃ k' xs', RI w0 b s k' xs' w'
def EscR (w0 : World) (b : Nat) (s : ByteArray) (k : Nat) (xs : List Int) (p : Nat × Nat) (e : Ending) (w' : World) : Prop :=
  (p.2 = 0 ∧ e = .returned (.bool false) ∧ Failed w0 b s w') ∨ (p.2 ≠ 0 ∧ e = .returned (.bool true) ∧ RI w0 b s (k + p.2) (xs ++ Lib.encodeRuneZ p.1) w')
theorem EscR.num {w0 : World} {b : Nat} {s : ByteArray} {k many : Nat} {xs : List Int} {o : Option Nat} {e : Ending} {w' : World} (h : NumR w0 b s (k + 2) many xs o e w') : EscR w0 b s k xs (optP (2 + many) o) e w' := by
  cases o with
  | none => exact .inl ⟨rfl, h.1, _, _, h.2⟩
  | some n => exact .inr ⟨by show 2 + many ≠ 0; omega, h.1, by have := h.2; rwa [Nat.add_assoc] at this⟩
theorem NumR.ret {w0 : World} {b : Nat} {s : ByteArray} {k many : Nat} {xs : List Int} {o : Option Nat} {e : Ending} {w' : World} (h : NumR w0 b s k many xs o e w') : ∃ q : Bool, e = .returned (.bool q) := by
  cases o with
  | none => exact ⟨_, h.1⟩
  | some n => exact ⟨_, h.1⟩
theorem from_drop (s : ByteArray) (k d : Nat) : from_ s (k + d) = (from_ s k).drop d := by unfold from_; rw [List.drop_drop]
set_option maxRecDepth 10000 in
set_option maxHeartbeats 2000000 in
theorem lexEscape (lit : Bool) (s : ByteArray) (k b : Nat) (xs : List Int) (hx : xs.length ≤ 4000000) (w0 w : World) (h : RI w0 b s k xs w) (hk : k < s.size) (hs : s.size ≤ 1000000) (h92 : c0 (from_ s k) = 92) :
    Calls Tryd.prog 36 #[.pointer (some ⟨b, 0, none⟩), .bool lit] w (EscR w0 b s k xs (escL lit (from_ s k))) := by
  have he1 := lexEat ⟨#[92, 117]⟩ s k b xs w0 w h (by omega) hs (by decide)
  have hp1 : preB ⟨#[92, 117]⟩ s k = decide (c1 (from_ s k) = 117) := by
    unfold preB
    rw [pre2 (a := 92) (b := 117) (by decide) (by decide), h92]; rfl
  have hp2 : preB ⟨#[92, 85]⟩ s k = decide (c1 (from_ s k) = 85) := by
    unfold preB
    rw [pre2 (a := 92) (b := 85) (by decide) (by decide), h92]; rfl
  by_cases h117 : c1 (from_ s k) = 117
  · have hl : 1 < (from_ s k).length := c1_len (by omega)
    rw [from_len] at hl
    have hn := fun W (hW : RI w0 b s (k + 2) xs W) => lexNumber 4 (by decide) (by decide) s (k + 2) b xs hx w0 W hW (by omega) hs
    rw [from_drop] at hn
    have Hes : Hid (escL lit (from_ s k) = optP 6 (numL 4 ((from_ s k).drop 2))) := by show _ = _; unfold escL; rw [if_pos h117]
    unfold EatR eatK at he1
    rw [hp1, decide_eq_true h117] at he1
    clear hp1 hp2 h117 h92 hl h
    go_enter Tryd.func36, Tryd.ntmps36
    go_wp2_with fail
    refine he1.mono ?_
    rintro e w1 ⟨rfl, H1⟩
    have H1 := Lib.hid H1
    go_wp2_with fail
    refine (hn w1 H1.out).mono ?_
    intro e w2 h2
    obtain ⟨q, rfl⟩ := h2.ret
    have H2 := Lib.hid h2
    clear h2
    go_wp2
    go_ret
    rw [Hes.out]
    exact EscR.num H2.out
  by_cases h85 : c1 (from_ s k) = 85
  · have hl : 1 < (from_ s k).length := c1_len (by omega)
    rw [from_len] at hl
    have hn := fun W (hW : RI w0 b s (k + 2) xs W) => lexNumber 8 (by decide) (by decide) s (k + 2) b xs hx w0 W hW (by omega) hs
    rw [from_drop] at hn
    have Hes : Hid (escL lit (from_ s k) = optP 10 (numL 8 ((from_ s k).drop 2))) := by show _ = _; unfold escL; rw [if_neg h117, if_pos h85]
    have he2 := fun W (hW : RI w0 b s k xs W) => lexEat ⟨#[92, 85]⟩ s k b xs w0 W hW (by omega) hs (by decide)
    unfold EatR eatK at he1 he2
    rw [hp1, decide_eq_false h117] at he1
    rw [hp2, decide_eq_true h85] at he2
    clear hp1 hp2 h117 h85 h92 hl h
    go_enter Tryd.func36, Tryd.ntmps36
    go_wp2_with fail
    refine he1.mono ?_
    rintro e w1 ⟨rfl, H1⟩
    have H1 := Lib.hid H1
    go_wp2_with fail
    refine (he2 w1 H1.out).mono ?_
    rintro e w2 ⟨rfl, H2⟩
    have H2 := Lib.hid H2
    go_wp2_with fail
    refine (hn w2 H2.out).mono ?_
    intro e w3 h3
    obtain ⟨q, rfl⟩ := h3.ret
    have H3 := Lib.hid h3
    clear h3
    go_wp2
    go_ret
    rw [Hes.out]
    exact EscR.num H3.out
  have he2 := fun W (hW : RI w0 b s k xs W) => lexEat ⟨#[92, 85]⟩ s k b xs w0 W hW (by omega) hs (by decide)
  unfold EatR eatK at he1 he2
  rw [hp1, decide_eq_false h117] at he1
  rw [hp2, decide_eq_false h85] at he2
  have Hes : Hid (escL lit (from_ s k) = if lit then optP 2 (escOf (c1 (from_ s k))) else (0, 0)) := by show _ = _; unfold escL; rw [if_neg h117, if_neg h85]
  have Hk := Lib.hid hk
  clear hp1 hp2 h117 h85 h92 h
  cases lit
  · go_enter Tryd.func36, Tryd.ntmps36
    go_wp2_with fail
    refine he1.mono ?_
    rintro e w1 ⟨rfl, H1⟩
    have H1 := Lib.hid H1
    go_wp2_with fail
    refine (he2 w1 H1.out).mono ?_
    rintro e w2 ⟨rfl, H2⟩
    have H2 := Lib.hid H2
    go_wp2
    go_ret
    rw [Hes.out]
    exact .inl ⟨rfl, rfl, _, _, H2.out⟩
  · have hr := fun W (hW : RI w0 b s k xs W) => lexRest s k b W hW.c0 hW.c1 (by omega)
    have hsz : (s.extract k s.size).size = s.size - k := by simp [ByteArray.size_extract]
    obtain ⟨r, hrr⟩ : ∃ r, s.extract k s.size = r := ⟨_, rfl⟩
    have hrl : r.data.toList = from_ s k := by rw [← hrr]; exact rest_toList s k
    have hrz : r.size = s.size - k := by rw [← hrr]; exact hsz
    simp only [hrr] at hr
    clear hrr hsz
    by_cases hlen : r.size < 2
    · have hc1 : c1 (from_ s k) = 0 := by
        unfold c1
        rw [List.getD_eq_getElem?_getD, List.getElem?_eq_none (by rw [from_len]; omega)]; rfl
      rw [hc1] at Hes
      have hd : decide ((r.size : Int) < 2) = true := by simp; omega
      clear hc1 hrl hrz hlen
      go_enter Tryd.func36, Tryd.ntmps36
      go_wp2_with fail
      refine he1.mono ?_
      rintro e w1 ⟨rfl, H1⟩
      have H1 := Lib.hid H1
      go_wp2_with fail
      refine (he2 w1 H1.out).mono ?_
      rintro e w2 ⟨rfl, H2⟩
      have H2 := Lib.hid H2
      go_wp2_with fail
      refine (hr w2 H2.out).mono ?_
      rintro e w3 ⟨rfl, hb3⟩
      have H3 := Lib.hid (H2.out.step hb3)
      go_wp2
      go_ret
      rw [Hes.out]
      exact .inl ⟨rfl, rfl, _, _, H3.out⟩
    · have hd : decide ((r.size : Int) < 2) = false := by simp; omega
      have hge : 1 < r.size := by omega
      have hb1 : bn r 1 = c1 (from_ s k) := by unfold bn c1; rw [hrl]
      have hcl : c1 (from_ s k) < 256 := by rw [← hb1]; exact bn_lt _ _
      have hib := fun W => Tryd.strings_IndexByte fromB (c1 (from_ s k) : Int) W
      rcases esc_at _ hcl with ⟨ho, hi⟩ | ⟨n, j, ho, hj, hi, hbj, hn⟩
      · rw [hi] at hib
        rw [ho] at Hes
        clear ho hi hrl hrz hlen hcl
        generalize c1 (from_ s k) = cc at *
        go_enter Tryd.func36, Tryd.ntmps36
        go_wp2_with fail
        refine he1.mono ?_
        rintro e w1 ⟨rfl, H1⟩
        have H1 := Lib.hid H1
        go_wp2_with fail
        refine (he2 w1 H1.out).mono ?_
        rintro e w2 ⟨rfl, H2⟩
        have H2 := Lib.hid H2
        go_wp2_with fail
        refine (hr w2 H2.out).mono ?_
        rintro e w3 ⟨rfl, hb3⟩
        have H3 := Lib.hid (H2.out.step hb3)
        clear hb3
        go_wp2_with fail
        refine (hr w3 H3.out).mono ?_
        rintro e w4 ⟨rfl, hb4⟩
        have H4 := Lib.hid (H3.out.step hb4)
        clear hb4
        go_wp2_with fail
        refine (hib w4).mono ?_
        rintro e w5 ⟨rfl, rfl⟩
        go_wp2
        go_ret
        rw [Hes.out]
        exact .inl ⟨rfl, rfl, _, _, H4.out⟩
      · rw [hi] at hib
        rw [ho] at Hes
        have hput := fun W g (hW : RI w0 b s (k + 2) xs W) hg => lexPut (n : Int) (by omega) (by omega) s (k + 2) b xs hx g w0 W hW hg
        have hk2 : k ≤ 1000000 := by omega
        have hbj2 : bn ⟨#[9, 8, 10, 13, 12, 34, 39, 92]⟩ j = n := hbj
        clear ho hi hrl hrz hlen hcl hbj
        generalize c1 (from_ s k) = cc at *
        go_enter Tryd.func36, Tryd.ntmps36
        go_wp2_with fail
        refine he1.mono ?_
        rintro e w1 ⟨rfl, H1⟩
        have H1 := Lib.hid H1
        go_wp2_with fail
        refine (he2 w1 H1.out).mono ?_
        rintro e w2 ⟨rfl, H2⟩
        have H2 := Lib.hid H2
        go_wp2_with fail
        refine (hr w2 H2.out).mono ?_
        rintro e w3 ⟨rfl, hb3⟩
        have H3 := Lib.hid (H2.out.step hb3)
        clear hb3
        go_wp2_with fail
        refine (hr w3 H3.out).mono ?_
        rintro e w4 ⟨rfl, hb4⟩
        have H4 := Lib.hid (H3.out.step hb4)
        clear hb4
        have c1 := H4.out.c1
        have f1 := H4.out.fz 1
        go_wp2_with fail
        refine (hib w4).mono ?_
        rintro e w5 ⟨rfl, rfl⟩
        go_wp2_with fail
        have H5 := (H4.out.moveI (k' := k + 2) (z := (k : Int) + 2) (by omega)).step ((Below.refl _ _).alloc (Nat.le_refl _) (.cells #[.int .i32 n] 21))
        refine (hput _ _ H5 (put_cell _ _ _ _ _)).mono ?_
        rintro e w6 ⟨rfl, H6⟩
        have H6 := Lib.hid H6
        go_wp2
        go_ret
        rw [Hes.out]
        exact .inr ⟨by show 2 ≠ 0; decide, rfl, H6.out⟩
end Go.Proofs.YtjigcembbigbnaaDoor
