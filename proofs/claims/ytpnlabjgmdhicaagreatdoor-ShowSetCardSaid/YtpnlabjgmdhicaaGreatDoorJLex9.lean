/- The program's package lex, walked: token. Printed by gen/lex9.py. -/
import Derived.Test.YtpnlabjgmdhicaaGreatDoorJLex8
import Derived.Test.YtpnlabjgmdhicaaGreatDoorJUtfProg5
namespace Go.Proofs.YtpnlabjgmdhicaaGreatDoor
open Go Go.RowKit Um Lx

theorem rawL_f (n : Nat) : rawL false n = rawB (n : Int) := by unfold rawL; simp only [Bool.false_eq_true, if_false]
theorem rawTok1 (n : Nat) (W : World) (hn : n ≤ 1114111) (hC : Ctx W) : Calls Tryz.prog 142 #[.int .i32 n] W fun e w' => e = .returned (.bool (rawL false n)) ∧ Below W.heap.size W w' := by
  have hr := utfRaw (n : Int) W hC
  have Hr := Lib.hid (rawL_f n)
  go_enter Tryz.func142, Tryz.ntmps142
  go_wp2_with (go_at_call 116; refine hr.mono ?_; rintro e w' ⟨rfl, rfl⟩)
  go_ret
  exact ⟨by rw [Hr.out]; rfl, Below.refl _ _⟩
theorem rawTok2 (n : Nat) (W : World) (_hn : n ≤ 1114111) (_hC : Ctx W) : Calls Tryz.prog 143 #[.int .i32 n] W fun e w' => e = .returned (.bool (rawL true n)) ∧ Below W.heap.size W w' := by
  by_cases h10 : n = 10
  · subst h10
    go_enter Tryz.func143, Tryz.ntmps143
    go_wp2
    go_ret
    exact ⟨rfl, Below.refl _ _⟩
  · by_cases h13 : n = 13
    · subst h13
      go_enter Tryz.func143, Tryz.ntmps143
      go_wp2
      go_ret
      exact ⟨rfl, Below.refl _ _⟩
    · have Hr : Hid (rawL true n = true) := by show _ = _; simp [rawL, h10, h13]
      have e1 : ((n : Int) != 10) = true := by simp; omega
      have e2 : ((n : Int) != 13) = true := by simp; omega
      clear h10 h13
      go_enter Tryz.func143, Tryz.ntmps143
      go_wp2
      go_ret
      exact ⟨by rw [Hr.out]; rfl, Below.refl _ _⟩
theorem enters_tok1 : ∀ args W, (callFunc 142 args).run Tryz.prog W = .ok (.enter 142 args) W := enters_of Tryz.func142 (by kernel_rfl) rfl
theorem enters_tok2 : ∀ args W, (callFunc 143 args).run Tryz.prog W = .ok (.enter 143 args) W := enters_of Tryz.func143 (by kernel_rfl) rfl
theorem TkM.cells {w wx : World} {b k k' : Nat} {s : ByteArray} {kd : Int} {xs : List Int} (h : TkM w b s k kd k' xs wx) : wx.cell? ⟨w.heap.size, 0, none⟩ = some (.int .i64 kd) ∧ wx.cell? ⟨w.heap.size, 1, none⟩ = some (.string ⟨#[]⟩) ∧ wx.cell? ⟨w.heap.size, 2, none⟩ = some (.int .i64 k) ∧ ∀ i, wx.frozen? ⟨w.heap.size, i, none⟩ = false := by
  have ht := h.tk
  refine ⟨?_, ?_, ?_, fun i => ?_⟩
  · rw [World.cell?, ht]; rfl
  · rw [World.cell?, ht]; rfl
  · rw [World.cell?, ht]; rfl
  · simp [World.frozen?, ht]
theorem TkM.rdr {w wx : World} {b k k' : Nat} {s : ByteArray} {kd : Int} {xs : List Int} (h : TkM w b s k kd k' xs wx) : RdrAt wx b s k' := by
  obtain ⟨A, n, c, h1, _⟩ := h.rd
  exact ⟨A, n, c, h1⟩
theorem tk_fin {wx : World} {tb : Nat} {a b c : Value} {T : TypeId} (h : wx.heap[tb]? = some (.cells #[a, b, c] T (0, 0))) (x y : Value) :
    (((wx.setCell ⟨tb, 1, none⟩ x).setCell ⟨tb, 0, none⟩ y).setCell ⟨tb, 1, none⟩ x).cell? ⟨tb, 1, none⟩ = some x := by
  simp [World.setCell, World.cell?, Array.getElem?_modify, h]
/-- What a token's call says. -/
def TokR (w : World) (b : Nat) (s : ByteArray) (k : Nat) (e : Ending) (w' : World) : Prop :=
  (∃ (kn m : Nat) (x : ByteArray), tkL (from_ s k) = some (kn, x, m) ∧ e = .returned (.tuple #[.agg #[.int .i64 kn, .string x, .int .i64 k], .bool true]) ∧ w.grownBy w' (some b) ∧ RdrAt w' b s (k + m)) ∨
  (tkL (from_ s k) = none ∧ (∃ (kd : Int) (x : ByteArray), e = .returned (.tuple #[.agg #[.int .i64 kd, .string x, .int .i64 k], .bool false])) ∧ w.grownBy w' (some b))
theorem strOf_bI (l : List UInt8) : strOfNums (bI l) = ⟨l.toArray⟩ := by
  unfold strOfNums bI
  congr 2
  rw [List.map_map]
  conv => rhs; rw [← List.map_id l]
  apply List.map_congr_left
  intro c _
  exact UInt8.toNat_inj.1 (by simp)
theorem strOf_encL (ns : List Int) : strOfNums (encL ns) = textS ns := rfl
set_option maxRecDepth 10000 in
set_option maxHeartbeats 8000000 in
theorem lexToken (s : ByteArray) (k b : Nat) (w : World) (h : RdrAt w b s k) (hcx : ∀ w', w.grownBy w' (some b) → CtxL w') (hk : k < s.size) (hs : s.size ≤ 1000000) (hv : vld (from_ s k)) :
    Calls Tryz.prog 103 #[.pointer (some ⟨b, 0, none⟩)] w (TokR w b s k) := by
  have hlt := h.lt
  have hne : b ≠ w.heap.size := by omega
  have hR := tkW_ri w b k s h hcx
  have q0 := h.c0
  have q1 := h.c1
  obtain ⟨A0, n0, z0, hb0⟩ := h
  have q2 : w.cell? ⟨b, 2, none⟩ = some (.slice A0 n0 z0) := by rw [World.cell?, hb0]; rfl
  have qf : w.frozen? ⟨b, 2, none⟩ = false := by simp [World.frozen?, hb0]
  have e1 := fun W (hW : RI (tkW w b k) b s k [] W) => lexEat ⟨#[60]⟩ s k b [] (tkW w b k) W hW (by omega) hs (by decide)
  have e2 := fun W (hW : RI (tkW w b k) b s k [] W) => lexEat ⟨#[34]⟩ s k b [] (tkW w b k) W hW (by omega) hs (by decide)
  have e3 := fun W (hW : RI (tkW w b k) b s k [] W) => lexEat ⟨#[95, 58]⟩ s k b [] (tkW w b k) W hW (by omega) hs (by decide)
  have e4 := fun W (hW : RI (tkW w b k) b s k [] W) => lexEat ⟨#[64]⟩ s k b [] (tkW w b k) W hW (by omega) hs (by decide)
  have e5 := fun W (hW : RI (tkW w b k) b s k [] W) => lexEat ⟨#[94, 94]⟩ s k b [] (tkW w b k) W hW (by omega) hs (by decide)
  have e6 := fun W (hW : RI (tkW w b k) b s k [] W) => lexEat ⟨#[46]⟩ s k b [] (tkW w b k) W hW (by omega) hs (by decide)
  have p1 : preB ⟨#[60]⟩ s k = decide (c0 (from_ s k) = 60) := pre1 (a := 60) (by decide) _
  have p2 : preB ⟨#[34]⟩ s k = decide (c0 (from_ s k) = 34) := pre1 (a := 34) (by decide) _
  have p3 : preB ⟨#[95, 58]⟩ s k = (decide (c0 (from_ s k) = 95) && decide (c1 (from_ s k) = 58)) := pre2 (a := 95) (b := 58) (by decide) (by decide) _
  have p4 : preB ⟨#[64]⟩ s k = decide (c0 (from_ s k) = 64) := pre1 (a := 64) (by decide) _
  have p5 : preB ⟨#[94, 94]⟩ s k = (decide (c0 (from_ s k) = 94) && decide (c1 (from_ s k) = 94)) := pre2 (a := 94) (b := 94) (by decide) (by decide) _
  have p6 : preB ⟨#[46]⟩ s k = decide (c0 (from_ s k) = 46) := pre1 (a := 46) (by decide) _
  unfold EatR eatK at e1 e2 e3 e4 e5 e6
  rw [p1] at e1
  rw [p2] at e2
  rw [p3] at e3
  rw [p4] at e4
  rw [p5] at e5
  rw [p6] at e6
  clear p1 p2 p3 p4 p5 p6
  have HR := Lib.hid hR
  have hsz1 := tkW_size w b k
  have Hsz1 := Lib.hid hsz1
  have hW0 : (tkW w b k) = (w.setCell ⟨b, 2, none⟩ (.slice none 0 0)).alloc (.cells #[.int .i64 0, .string ⟨#[]⟩, .int .i64 k] 102) := rfl
  have HW0 := Lib.hid hW0
  clear hsz1 hR hb0 hW0
  have hfl := from_len s k
  by_cases h1 : c0 (from_ s k) = 60
  · rw [decide_eq_true h1] at e1
    have Htk : Hid (tkL (from_ s k) = (inL false ((from_ s k).drop 1)).map fun p => (1, textS p.1, 1 + p.2)) := by show _ = _; unfold tkL; rw [if_pos h1]
    have hlen : (from_ s k).length ≠ 0 := by omega
    have hv1 : vld (from_ s (k + 1)) := by rw [from_drop]; exact vld_one hv hlen (by omega)
    have hin := fun W (hW : RI (tkW w b k) b s (k + 1) [] W) => lexInner false 142 enters_tok1 rawTok1 s (k + 1) b (tkW w b k) W hW (by omega) hs hv1
    rw [from_drop] at hin
    have he1 : endB false = ⟨#[62]⟩ := rfl
    rw [he1] at hin
    cases hi : inL false ((from_ s k).drop 1) with
    | none =>
      rw [hi] at hin Htk
      clear hi hv hv1 h1 he1 hfl hlen 
      go_enter Tryz.func103, Tryz.ntmps103
      go_wp2_with fail
      rw [← HW0.out]
      refine (e1 _ HR.out).mono ?_
      rintro e w1 ⟨rfl, R1⟩
      have R1 := Lib.hid R1
      go_wp2_with fail
      refine (hin _ R1.out).mono ?_
      rintro e w7 ⟨rfl, kf, xf, R7⟩
      have R7 := Lib.hid R7
      have u0 : w7.cell? ⟨w.heap.size, 0, none⟩ = some (.int .i64 0) := (TkM.of_ri hlt R7.out).cells.1
      have uf : w7.frozen? ⟨w.heap.size, 0, none⟩ = false := (TkM.of_ri hlt R7.out).cells.2.2.2 0
      go_upto_region 14 with (fail)
      have TM := TkM.of_set 1 hlt R7.out
      obtain ⟨wx, hwx⟩ : ∃ wx, w7.setCell ⟨w.heap.size, 0, none⟩ (.int .i64 1) = wx := ⟨_, rfl⟩
      rw [hwx] at TM ⊢
      clear hwx
      obtain ⟨t0, t1, t2, tf⟩ := TM.cells
      obtain ⟨A, n, c, hrb, hrd, hxn⟩ := TM.rd
      have d2 : wx.cell? ⟨b, 2, none⟩ = some (.slice A n c) := by rw [World.cell?, hrb]; rfl
      have hcv := run_conv_bytes (P := Tryz.prog) (c := c) 54 9 5 Tryz.underlying54 Tryz.underlying5 Tryz.underlying9 hrd hxn
      obtain ⟨xv, hxv⟩ : ∃ xv, strOfNums xf = xv := ⟨_, rfl⟩
      rw [hxv] at hcv
      have z1 := tk_fin TM.tk (.string xv) (.int .i64 1)
      have HXV := Lib.hid hxv
      clear hxv
      have f0 := tf 0
      have f1 := tf 1
      have f2 := tf 2
      have TM := Lib.hid TM
      clear hrb hrd hxn tf
      go_wp2
      refine bodyPost_ret (v := .tuple #[.agg #[.int .i64 1, .string xv, .int .i64 k], .bool false]) (by simp [results, Tryz.results103, go_sem, t0, t2, z1]) rfl ?_
      refine .inr ⟨Htk.out, ⟨_, _, rfl⟩, ?_⟩
      repeat apply gr_set _ (Nat.le_refl _)
      exact TM.out.gr
    | some p =>
      obtain ⟨ns, m⟩ := p
      rw [hi] at hin Htk
      clear hi hv hv1 h1 he1 hfl hlen 
      go_enter Tryz.func103, Tryz.ntmps103
      go_wp2_with fail
      rw [← HW0.out]
      refine (e1 _ HR.out).mono ?_
      rintro e w1 ⟨rfl, R1⟩
      have R1 := Lib.hid R1
      go_wp2_with fail
      refine (hin _ R1.out).mono ?_
      rintro e w7 ⟨rfl, R7⟩
      have R7 := Lib.hid R7
      have u0 : w7.cell? ⟨w.heap.size, 0, none⟩ = some (.int .i64 0) := (TkM.of_ri hlt R7.out).cells.1
      have uf : w7.frozen? ⟨w.heap.size, 0, none⟩ = false := (TkM.of_ri hlt R7.out).cells.2.2.2 0
      go_upto_region 14 with (fail)
      have TM := TkM.of_set 1 hlt R7.out
      obtain ⟨wx, hwx⟩ : ∃ wx, w7.setCell ⟨w.heap.size, 0, none⟩ (.int .i64 1) = wx := ⟨_, rfl⟩
      rw [hwx] at TM ⊢
      clear hwx
      obtain ⟨t0, t1, t2, tf⟩ := TM.cells
      obtain ⟨A, n, c, hrb, hrd, hxn⟩ := TM.rd
      have d2 : wx.cell? ⟨b, 2, none⟩ = some (.slice A n c) := by rw [World.cell?, hrb]; rfl
      have hcv := run_conv_bytes (P := Tryz.prog) (c := c) 54 9 5 Tryz.underlying54 Tryz.underlying5 Tryz.underlying9 hrd hxn
      obtain ⟨xv, hxv⟩ : ∃ xv, strOfNums (encL ns) = xv := ⟨_, rfl⟩
      rw [hxv] at hcv
      have z1 := tk_fin TM.tk (.string xv) (.int .i64 1)
      have HXV := Lib.hid hxv
      clear hxv
      have f0 := tf 0
      have f1 := tf 1
      have f2 := tf 2
      have TM := Lib.hid TM
      clear hrb hrd hxn tf
      go_wp2
      refine bodyPost_ret (v := .tuple #[.agg #[.int .i64 1, .string xv, .int .i64 k], .bool true]) (by simp [results, Tryz.results103, go_sem, t0, t2, z1]) rfl ?_
      refine .inl ⟨1, (1 + m), (textS ns), Htk.out, by rw [← HXV.out, strOf_encL]; rfl, ?_, ?_⟩
      · repeat apply gr_set _ (Nat.le_refl _)
        exact TM.out.gr
      · repeat apply RdrAt.set _ hne
        exact (by have := TM.out.rdr; rwa [Nat.add_assoc] at this)
  by_cases h2 : c0 (from_ s k) = 34
  · rw [decide_eq_false h1] at e1
    rw [decide_eq_true h2] at e2
    have Htk : Hid (tkL (from_ s k) = (inL true ((from_ s k).drop 1)).map fun p => (3, textS p.1, 1 + p.2)) := by show _ = _; unfold tkL; rw [if_neg h1]; rw [if_pos h2]
    have hlen : (from_ s k).length ≠ 0 := by omega
    have hv1 : vld (from_ s (k + 1)) := by rw [from_drop]; exact vld_one hv hlen (by omega)
    have hin := fun W (hW : RI (tkW w b k) b s (k + 1) [] W) => lexInner true 143 enters_tok2 rawTok2 s (k + 1) b (tkW w b k) W hW (by omega) hs hv1
    rw [from_drop] at hin
    have he2 : endB true = ⟨#[34]⟩ := rfl
    rw [he2] at hin
    cases hi : inL true ((from_ s k).drop 1) with
    | none =>
      rw [hi] at hin Htk
      clear hi hv hv1 h2 he2 hfl hlen h1
      go_enter Tryz.func103, Tryz.ntmps103
      go_wp2_with fail
      rw [← HW0.out]
      refine (e1 _ HR.out).mono ?_
      rintro e w1 ⟨rfl, R1⟩
      have R1 := Lib.hid R1
      go_wp2_with fail
      refine (e2 _ R1.out).mono ?_
      rintro e w2 ⟨rfl, R2⟩
      have R2 := Lib.hid R2
      go_wp2_with fail
      refine (hin _ R2.out).mono ?_
      rintro e w7 ⟨rfl, kf, xf, R7⟩
      have R7 := Lib.hid R7
      have u0 : w7.cell? ⟨w.heap.size, 0, none⟩ = some (.int .i64 0) := (TkM.of_ri hlt R7.out).cells.1
      have uf : w7.frozen? ⟨w.heap.size, 0, none⟩ = false := (TkM.of_ri hlt R7.out).cells.2.2.2 0
      go_upto_region 14 with (fail)
      have TM := TkM.of_set 3 hlt R7.out
      obtain ⟨wx, hwx⟩ : ∃ wx, w7.setCell ⟨w.heap.size, 0, none⟩ (.int .i64 3) = wx := ⟨_, rfl⟩
      rw [hwx] at TM ⊢
      clear hwx
      obtain ⟨t0, t1, t2, tf⟩ := TM.cells
      obtain ⟨A, n, c, hrb, hrd, hxn⟩ := TM.rd
      have d2 : wx.cell? ⟨b, 2, none⟩ = some (.slice A n c) := by rw [World.cell?, hrb]; rfl
      have hcv := run_conv_bytes (P := Tryz.prog) (c := c) 54 9 5 Tryz.underlying54 Tryz.underlying5 Tryz.underlying9 hrd hxn
      obtain ⟨xv, hxv⟩ : ∃ xv, strOfNums xf = xv := ⟨_, rfl⟩
      rw [hxv] at hcv
      have z1 := tk_fin TM.tk (.string xv) (.int .i64 3)
      have HXV := Lib.hid hxv
      clear hxv
      have f0 := tf 0
      have f1 := tf 1
      have f2 := tf 2
      have TM := Lib.hid TM
      clear hrb hrd hxn tf
      go_wp2
      refine bodyPost_ret (v := .tuple #[.agg #[.int .i64 3, .string xv, .int .i64 k], .bool false]) (by simp [results, Tryz.results103, go_sem, t0, t2, z1]) rfl ?_
      refine .inr ⟨Htk.out, ⟨_, _, rfl⟩, ?_⟩
      repeat apply gr_set _ (Nat.le_refl _)
      exact TM.out.gr
    | some p =>
      obtain ⟨ns, m⟩ := p
      rw [hi] at hin Htk
      clear hi hv hv1 h2 he2 hfl hlen h1
      go_enter Tryz.func103, Tryz.ntmps103
      go_wp2_with fail
      rw [← HW0.out]
      refine (e1 _ HR.out).mono ?_
      rintro e w1 ⟨rfl, R1⟩
      have R1 := Lib.hid R1
      go_wp2_with fail
      refine (e2 _ R1.out).mono ?_
      rintro e w2 ⟨rfl, R2⟩
      have R2 := Lib.hid R2
      go_wp2_with fail
      refine (hin _ R2.out).mono ?_
      rintro e w7 ⟨rfl, R7⟩
      have R7 := Lib.hid R7
      have u0 : w7.cell? ⟨w.heap.size, 0, none⟩ = some (.int .i64 0) := (TkM.of_ri hlt R7.out).cells.1
      have uf : w7.frozen? ⟨w.heap.size, 0, none⟩ = false := (TkM.of_ri hlt R7.out).cells.2.2.2 0
      go_upto_region 14 with (fail)
      have TM := TkM.of_set 3 hlt R7.out
      obtain ⟨wx, hwx⟩ : ∃ wx, w7.setCell ⟨w.heap.size, 0, none⟩ (.int .i64 3) = wx := ⟨_, rfl⟩
      rw [hwx] at TM ⊢
      clear hwx
      obtain ⟨t0, t1, t2, tf⟩ := TM.cells
      obtain ⟨A, n, c, hrb, hrd, hxn⟩ := TM.rd
      have d2 : wx.cell? ⟨b, 2, none⟩ = some (.slice A n c) := by rw [World.cell?, hrb]; rfl
      have hcv := run_conv_bytes (P := Tryz.prog) (c := c) 54 9 5 Tryz.underlying54 Tryz.underlying5 Tryz.underlying9 hrd hxn
      obtain ⟨xv, hxv⟩ : ∃ xv, strOfNums (encL ns) = xv := ⟨_, rfl⟩
      rw [hxv] at hcv
      have z1 := tk_fin TM.tk (.string xv) (.int .i64 3)
      have HXV := Lib.hid hxv
      clear hxv
      have f0 := tf 0
      have f1 := tf 1
      have f2 := tf 2
      have TM := Lib.hid TM
      clear hrb hrd hxn tf
      go_wp2
      refine bodyPost_ret (v := .tuple #[.agg #[.int .i64 3, .string xv, .int .i64 k], .bool true]) (by simp [results, Tryz.results103, go_sem, t0, t2, z1]) rfl ?_
      refine .inl ⟨3, (1 + m), (textS ns), Htk.out, by rw [← HXV.out, strOf_encL]; rfl, ?_, ?_⟩
      · repeat apply gr_set _ (Nat.le_refl _)
        exact TM.out.gr
      · repeat apply RdrAt.set _ hne
        exact (by have := TM.out.rdr; rwa [Nat.add_assoc] at this)
  by_cases h3 : c0 (from_ s k) = 95 ∧ c1 (from_ s k) = 58
  · rw [decide_eq_false h1] at e1
    rw [decide_eq_false h2] at e2
    rw [decide_eq_true h3.1, decide_eq_true h3.2] at e3
    have hle : label ((from_ s k).drop 2) ≤ ((from_ s k).drop 2).length := label_le _
    rw [List.length_drop, from_len] at hle
    have hcl : 2 < (from_ s k).length + 1 := by
      have := c1_len (l := from_ s k) (by omega); omega
    rw [from_len] at hcl
    have hr := fun W (hW : RI (tkW w b k) b s (k + 2) [] W) => lexRest s (k + 2) b W hW.c0 hW.c1 (by omega)
    have hz : (s.extract (k + 2) s.size).size ≤ 281474976710656 := by simp [ByteArray.size_extract]; omega
    have hf := fun W (hW : RI (tkW w b k) b s (k + 2) [] W) => utfLabel (s.extract (k + 2) s.size) W hW.ctx hz
    rw [rest_toList, from_drop] at hf
    generalize s.extract (k + 2) s.size = r at *
    have hsp := fun W (hW : RI (tkW w b k) b s (k + 2) [] W) => lexSpan (label ((from_ s k).drop 2)) s (k + 2) b [] (by simp) (tkW w b k) W hW (by omega) hs
    rw [List.nil_append, from_drop] at hsp
    have Htk : Hid (tkL (from_ s k) = if label ((from_ s k).drop 2) = 0 then none else some (2, ⟨(((from_ s k).drop 2).take (label ((from_ s k).drop 2))).toArray⟩, 2 + label ((from_ s k).drop 2))) := by show _ = _; unfold tkL; rw [if_neg h1]; rw [if_neg h2]; rw [if_pos h3]
    generalize label ((from_ s k).drop 2) = z at *
    have hk2 : k ≤ 1000000 := by omega
    clear hz hle hcl hv hfl h1 h2 h3
    by_cases hz0 : z = 0
    · rw [if_pos hz0] at Htk
      rw [decide_eq_false (by omega)] at hsp
      clear hz0
      go_enter Tryz.func103, Tryz.ntmps103
      go_wp2_with fail
      rw [← HW0.out]
      refine (e1 _ HR.out).mono ?_
      rintro e w1 ⟨rfl, R1⟩
      have R1 := Lib.hid R1
      go_wp2_with fail
      refine (e2 _ R1.out).mono ?_
      rintro e w2 ⟨rfl, R2⟩
      have R2 := Lib.hid R2
      go_wp2_with fail
      refine (e3 _ R2.out).mono ?_
      rintro e w3 ⟨rfl, R3⟩
      have R3 := Lib.hid R3
      go_wp2_with fail
      refine (hr _ R3.out).mono ?_
      rintro e w8 ⟨rfl, hb8⟩
      have R8 := Lib.hid (R3.out.step hb8)
      clear hb8
      go_wp2_with fail
      refine (hf _ R8.out).mono ?_
      rintro e w9 ⟨rfl, hb9⟩
      have R9 := Lib.hid (R8.out.step hb9)
      clear hb9
      go_wp2_with fail
      refine (hsp _ R9.out).mono ?_
      rintro e w7 ⟨rfl, R7⟩
      have R7 := Lib.hid R7
      have u0 : w7.cell? ⟨w.heap.size, 0, none⟩ = some (.int .i64 0) := (TkM.of_ri hlt R7.out).cells.1
      have uf : w7.frozen? ⟨w.heap.size, 0, none⟩ = false := (TkM.of_ri hlt R7.out).cells.2.2.2 0
      go_upto_region 14 with (fail)
      have TM := TkM.of_set 2 hlt R7.out
      obtain ⟨wx, hwx⟩ : ∃ wx, w7.setCell ⟨w.heap.size, 0, none⟩ (.int .i64 2) = wx := ⟨_, rfl⟩
      rw [hwx] at TM ⊢
      clear hwx
      obtain ⟨t0, t1, t2, tf⟩ := TM.cells
      obtain ⟨A, n, c, hrb, hrd, hxn⟩ := TM.rd
      have d2 : wx.cell? ⟨b, 2, none⟩ = some (.slice A n c) := by rw [World.cell?, hrb]; rfl
      have hcv := run_conv_bytes (P := Tryz.prog) (c := c) 54 9 5 Tryz.underlying54 Tryz.underlying5 Tryz.underlying9 hrd hxn
      obtain ⟨xv, hxv⟩ : ∃ xv, strOfNums (bI (((from_ s k).drop 2).take z)) = xv := ⟨_, rfl⟩
      rw [hxv] at hcv
      have z1 := tk_fin TM.tk (.string xv) (.int .i64 2)
      have HXV := Lib.hid hxv
      clear hxv
      have f0 := tf 0
      have f1 := tf 1
      have f2 := tf 2
      have TM := Lib.hid TM
      clear hrb hrd hxn tf
      go_wp2
      refine bodyPost_ret (v := .tuple #[.agg #[.int .i64 2, .string xv, .int .i64 k], .bool false]) (by simp [results, Tryz.results103, go_sem, t0, t2, z1]) rfl ?_
      refine .inr ⟨Htk.out, ⟨_, _, rfl⟩, ?_⟩
      repeat apply gr_set _ (Nat.le_refl _)
      exact TM.out.gr
    · rw [if_neg hz0] at Htk
      rw [decide_eq_true (by omega)] at hsp
      clear hz0
      go_enter Tryz.func103, Tryz.ntmps103
      go_wp2_with fail
      rw [← HW0.out]
      refine (e1 _ HR.out).mono ?_
      rintro e w1 ⟨rfl, R1⟩
      have R1 := Lib.hid R1
      go_wp2_with fail
      refine (e2 _ R1.out).mono ?_
      rintro e w2 ⟨rfl, R2⟩
      have R2 := Lib.hid R2
      go_wp2_with fail
      refine (e3 _ R2.out).mono ?_
      rintro e w3 ⟨rfl, R3⟩
      have R3 := Lib.hid R3
      go_wp2_with fail
      refine (hr _ R3.out).mono ?_
      rintro e w8 ⟨rfl, hb8⟩
      have R8 := Lib.hid (R3.out.step hb8)
      clear hb8
      go_wp2_with fail
      refine (hf _ R8.out).mono ?_
      rintro e w9 ⟨rfl, hb9⟩
      have R9 := Lib.hid (R8.out.step hb9)
      clear hb9
      go_wp2_with fail
      refine (hsp _ R9.out).mono ?_
      rintro e w7 ⟨rfl, R7⟩
      have R7 := Lib.hid R7
      have u0 : w7.cell? ⟨w.heap.size, 0, none⟩ = some (.int .i64 0) := (TkM.of_ri hlt R7.out).cells.1
      have uf : w7.frozen? ⟨w.heap.size, 0, none⟩ = false := (TkM.of_ri hlt R7.out).cells.2.2.2 0
      go_upto_region 14 with (fail)
      have TM := TkM.of_set 2 hlt R7.out
      obtain ⟨wx, hwx⟩ : ∃ wx, w7.setCell ⟨w.heap.size, 0, none⟩ (.int .i64 2) = wx := ⟨_, rfl⟩
      rw [hwx] at TM ⊢
      clear hwx
      obtain ⟨t0, t1, t2, tf⟩ := TM.cells
      obtain ⟨A, n, c, hrb, hrd, hxn⟩ := TM.rd
      have d2 : wx.cell? ⟨b, 2, none⟩ = some (.slice A n c) := by rw [World.cell?, hrb]; rfl
      have hcv := run_conv_bytes (P := Tryz.prog) (c := c) 54 9 5 Tryz.underlying54 Tryz.underlying5 Tryz.underlying9 hrd hxn
      obtain ⟨xv, hxv⟩ : ∃ xv, strOfNums (bI (((from_ s k).drop 2).take z)) = xv := ⟨_, rfl⟩
      rw [hxv] at hcv
      have z1 := tk_fin TM.tk (.string xv) (.int .i64 2)
      have HXV := Lib.hid hxv
      clear hxv
      have f0 := tf 0
      have f1 := tf 1
      have f2 := tf 2
      have TM := Lib.hid TM
      clear hrb hrd hxn tf
      go_wp2
      refine bodyPost_ret (v := .tuple #[.agg #[.int .i64 2, .string xv, .int .i64 k], .bool true]) (by simp [results, Tryz.results103, go_sem, t0, t2, z1]) rfl ?_
      refine .inl ⟨2, (2 + z), ⟨(((from_ s k).drop 2).take z).toArray⟩, Htk.out, by rw [← HXV.out, strOf_bI]; rfl, ?_, ?_⟩
      · repeat apply gr_set _ (Nat.le_refl _)
        exact TM.out.gr
      · repeat apply RdrAt.set _ hne
        exact (by have := TM.out.rdr; rwa [Nat.add_assoc] at this)
  by_cases h4 : c0 (from_ s k) = 64
  · rw [decide_eq_false h1] at e1
    rw [decide_eq_false h2] at e2
    rw [show (decide (c0 (from_ s k) = 95) && decide (c1 (from_ s k) = 58)) = false by rw [← Bool.decide_and]; exact decide_eq_false h3] at e3
    rw [decide_eq_true h4] at e4
    have hle : tag ((from_ s k).drop 1) ≤ ((from_ s k).drop 1).length := tag_le _
    rw [List.length_drop, from_len] at hle
    have hcl : 1 < (from_ s k).length + 1 := by
      have := c0_len (l := from_ s k) (by omega); omega
    rw [from_len] at hcl
    have hr := fun W (hW : RI (tkW w b k) b s (k + 1) [] W) => lexRest s (k + 1) b W hW.c0 hW.c1 (by omega)
    have hz : (s.extract (k + 1) s.size).size ≤ 281474976710656 := by simp [ByteArray.size_extract]; omega
    have hf := fun W (_ : RI (tkW w b k) b s (k + 1) [] W) => utfTag (s.extract (k + 1) s.size) W hz
    rw [rest_toList, from_drop] at hf
    generalize s.extract (k + 1) s.size = r at *
    have hsp := fun W (hW : RI (tkW w b k) b s (k + 1) [] W) => lexSpan (tag ((from_ s k).drop 1)) s (k + 1) b [] (by simp) (tkW w b k) W hW (by omega) hs
    rw [List.nil_append, from_drop] at hsp
    have Htk : Hid (tkL (from_ s k) = if tag ((from_ s k).drop 1) = 0 then none else some (4, ⟨(((from_ s k).drop 1).take (tag ((from_ s k).drop 1))).toArray⟩, 1 + tag ((from_ s k).drop 1))) := by show _ = _; unfold tkL; rw [if_neg h1]; rw [if_neg h2]; rw [if_neg h3]; rw [if_pos h4]
    generalize tag ((from_ s k).drop 1) = z at *
    have hk2 : k ≤ 1000000 := by omega
    clear hz hle hcl hv hfl h1 h2 h3 h4
    by_cases hz0 : z = 0
    · rw [if_pos hz0] at Htk
      rw [decide_eq_false (by omega)] at hsp
      clear hz0
      go_enter Tryz.func103, Tryz.ntmps103
      go_wp2_with fail
      rw [← HW0.out]
      refine (e1 _ HR.out).mono ?_
      rintro e w1 ⟨rfl, R1⟩
      have R1 := Lib.hid R1
      go_wp2_with fail
      refine (e2 _ R1.out).mono ?_
      rintro e w2 ⟨rfl, R2⟩
      have R2 := Lib.hid R2
      go_wp2_with fail
      refine (e3 _ R2.out).mono ?_
      rintro e w3 ⟨rfl, R3⟩
      have R3 := Lib.hid R3
      go_wp2_with fail
      refine (e4 _ R3.out).mono ?_
      rintro e w4 ⟨rfl, R4⟩
      have R4 := Lib.hid R4
      go_wp2_with fail
      refine (hr _ R4.out).mono ?_
      rintro e w8 ⟨rfl, hb8⟩
      have R8 := Lib.hid (R4.out.step hb8)
      clear hb8
      go_wp2_with fail
      refine (hf _ R8.out).mono ?_
      rintro e w9 ⟨rfl, hb9⟩
      have R9 := Lib.hid (R8.out.step hb9)
      clear hb9
      go_wp2_with fail
      refine (hsp _ R9.out).mono ?_
      rintro e w7 ⟨rfl, R7⟩
      have R7 := Lib.hid R7
      have u0 : w7.cell? ⟨w.heap.size, 0, none⟩ = some (.int .i64 0) := (TkM.of_ri hlt R7.out).cells.1
      have uf : w7.frozen? ⟨w.heap.size, 0, none⟩ = false := (TkM.of_ri hlt R7.out).cells.2.2.2 0
      go_upto_region 14 with (fail)
      have TM := TkM.of_set 4 hlt R7.out
      obtain ⟨wx, hwx⟩ : ∃ wx, w7.setCell ⟨w.heap.size, 0, none⟩ (.int .i64 4) = wx := ⟨_, rfl⟩
      rw [hwx] at TM ⊢
      clear hwx
      obtain ⟨t0, t1, t2, tf⟩ := TM.cells
      obtain ⟨A, n, c, hrb, hrd, hxn⟩ := TM.rd
      have d2 : wx.cell? ⟨b, 2, none⟩ = some (.slice A n c) := by rw [World.cell?, hrb]; rfl
      have hcv := run_conv_bytes (P := Tryz.prog) (c := c) 54 9 5 Tryz.underlying54 Tryz.underlying5 Tryz.underlying9 hrd hxn
      obtain ⟨xv, hxv⟩ : ∃ xv, strOfNums (bI (((from_ s k).drop 1).take z)) = xv := ⟨_, rfl⟩
      rw [hxv] at hcv
      have z1 := tk_fin TM.tk (.string xv) (.int .i64 4)
      have HXV := Lib.hid hxv
      clear hxv
      have f0 := tf 0
      have f1 := tf 1
      have f2 := tf 2
      have TM := Lib.hid TM
      clear hrb hrd hxn tf
      go_wp2
      refine bodyPost_ret (v := .tuple #[.agg #[.int .i64 4, .string xv, .int .i64 k], .bool false]) (by simp [results, Tryz.results103, go_sem, t0, t2, z1]) rfl ?_
      refine .inr ⟨Htk.out, ⟨_, _, rfl⟩, ?_⟩
      repeat apply gr_set _ (Nat.le_refl _)
      exact TM.out.gr
    · rw [if_neg hz0] at Htk
      rw [decide_eq_true (by omega)] at hsp
      clear hz0
      go_enter Tryz.func103, Tryz.ntmps103
      go_wp2_with fail
      rw [← HW0.out]
      refine (e1 _ HR.out).mono ?_
      rintro e w1 ⟨rfl, R1⟩
      have R1 := Lib.hid R1
      go_wp2_with fail
      refine (e2 _ R1.out).mono ?_
      rintro e w2 ⟨rfl, R2⟩
      have R2 := Lib.hid R2
      go_wp2_with fail
      refine (e3 _ R2.out).mono ?_
      rintro e w3 ⟨rfl, R3⟩
      have R3 := Lib.hid R3
      go_wp2_with fail
      refine (e4 _ R3.out).mono ?_
      rintro e w4 ⟨rfl, R4⟩
      have R4 := Lib.hid R4
      go_wp2_with fail
      refine (hr _ R4.out).mono ?_
      rintro e w8 ⟨rfl, hb8⟩
      have R8 := Lib.hid (R4.out.step hb8)
      clear hb8
      go_wp2_with fail
      refine (hf _ R8.out).mono ?_
      rintro e w9 ⟨rfl, hb9⟩
      have R9 := Lib.hid (R8.out.step hb9)
      clear hb9
      go_wp2_with fail
      refine (hsp _ R9.out).mono ?_
      rintro e w7 ⟨rfl, R7⟩
      have R7 := Lib.hid R7
      have u0 : w7.cell? ⟨w.heap.size, 0, none⟩ = some (.int .i64 0) := (TkM.of_ri hlt R7.out).cells.1
      have uf : w7.frozen? ⟨w.heap.size, 0, none⟩ = false := (TkM.of_ri hlt R7.out).cells.2.2.2 0
      go_upto_region 14 with (fail)
      have TM := TkM.of_set 4 hlt R7.out
      obtain ⟨wx, hwx⟩ : ∃ wx, w7.setCell ⟨w.heap.size, 0, none⟩ (.int .i64 4) = wx := ⟨_, rfl⟩
      rw [hwx] at TM ⊢
      clear hwx
      obtain ⟨t0, t1, t2, tf⟩ := TM.cells
      obtain ⟨A, n, c, hrb, hrd, hxn⟩ := TM.rd
      have d2 : wx.cell? ⟨b, 2, none⟩ = some (.slice A n c) := by rw [World.cell?, hrb]; rfl
      have hcv := run_conv_bytes (P := Tryz.prog) (c := c) 54 9 5 Tryz.underlying54 Tryz.underlying5 Tryz.underlying9 hrd hxn
      obtain ⟨xv, hxv⟩ : ∃ xv, strOfNums (bI (((from_ s k).drop 1).take z)) = xv := ⟨_, rfl⟩
      rw [hxv] at hcv
      have z1 := tk_fin TM.tk (.string xv) (.int .i64 4)
      have HXV := Lib.hid hxv
      clear hxv
      have f0 := tf 0
      have f1 := tf 1
      have f2 := tf 2
      have TM := Lib.hid TM
      clear hrb hrd hxn tf
      go_wp2
      refine bodyPost_ret (v := .tuple #[.agg #[.int .i64 4, .string xv, .int .i64 k], .bool true]) (by simp [results, Tryz.results103, go_sem, t0, t2, z1]) rfl ?_
      refine .inl ⟨4, (1 + z), ⟨(((from_ s k).drop 1).take z).toArray⟩, Htk.out, by rw [← HXV.out, strOf_bI]; rfl, ?_, ?_⟩
      · repeat apply gr_set _ (Nat.le_refl _)
        exact TM.out.gr
      · repeat apply RdrAt.set _ hne
        exact (by have := TM.out.rdr; rwa [Nat.add_assoc] at this)
  by_cases h5 : c0 (from_ s k) = 94 ∧ c1 (from_ s k) = 94
  · rw [decide_eq_false h1] at e1
    rw [decide_eq_false h2] at e2
    rw [show (decide (c0 (from_ s k) = 95) && decide (c1 (from_ s k) = 58)) = false by rw [← Bool.decide_and]; exact decide_eq_false h3] at e3
    rw [decide_eq_false h4] at e4
    rw [decide_eq_true h5.1, decide_eq_true h5.2] at e5
    have Htk : Hid (tkL (from_ s k) = some (5, ⟨#[]⟩, 2)) := by show _ = _; unfold tkL; rw [if_neg h1]; rw [if_neg h2]; rw [if_neg h3]; rw [if_neg h4]; rw [if_pos h5]
    clear hv hfl h1 h2 h3 h4 h5
    go_enter Tryz.func103, Tryz.ntmps103
    go_wp2_with fail
    rw [← HW0.out]
    refine (e1 _ HR.out).mono ?_
    rintro e w1 ⟨rfl, R1⟩
    have R1 := Lib.hid R1
    go_wp2_with fail
    refine (e2 _ R1.out).mono ?_
    rintro e w2 ⟨rfl, R2⟩
    have R2 := Lib.hid R2
    go_wp2_with fail
    refine (e3 _ R2.out).mono ?_
    rintro e w3 ⟨rfl, R3⟩
    have R3 := Lib.hid R3
    go_wp2_with fail
    refine (e4 _ R3.out).mono ?_
    rintro e w4 ⟨rfl, R4⟩
    have R4 := Lib.hid R4
    go_wp2_with fail
    refine (e5 _ R4.out).mono ?_
    rintro e w5 ⟨rfl, R5⟩
    have R5 := Lib.hid R5
    have u0 : w5.cell? ⟨w.heap.size, 0, none⟩ = some (.int .i64 0) := (TkM.of_ri hlt R5.out).cells.1
    have uf : w5.frozen? ⟨w.heap.size, 0, none⟩ = false := (TkM.of_ri hlt R5.out).cells.2.2.2 0
    go_upto_region 14 with (fail)
    have TM := TkM.of_set 5 hlt R5.out
    obtain ⟨wx, hwx⟩ : ∃ wx, w5.setCell ⟨w.heap.size, 0, none⟩ (.int .i64 5) = wx := ⟨_, rfl⟩
    rw [hwx] at TM ⊢
    clear hwx
    obtain ⟨t0, t1, t2, tf⟩ := TM.cells
    obtain ⟨A, n, c, hrb, hrd, hxn⟩ := TM.rd
    have d2 : wx.cell? ⟨b, 2, none⟩ = some (.slice A n c) := by rw [World.cell?, hrb]; rfl
    have hcv := run_conv_bytes (P := Tryz.prog) (c := c) 54 9 5 Tryz.underlying54 Tryz.underlying5 Tryz.underlying9 hrd hxn
    obtain ⟨xv, hxv⟩ : ∃ xv, strOfNums ([] : List Int) = xv := ⟨_, rfl⟩
    rw [hxv] at hcv
    have z1 := tk_fin TM.tk (.string xv) (.int .i64 5)
    have HXV := Lib.hid hxv
    clear hxv
    have f0 := tf 0
    have f1 := tf 1
    have f2 := tf 2
    have TM := Lib.hid TM
    clear hrb hrd hxn tf
    go_wp2
    refine bodyPost_ret (v := .tuple #[.agg #[.int .i64 5, .string xv, .int .i64 k], .bool true]) (by simp [results, Tryz.results103, go_sem, t0, t2, z1]) rfl ?_
    refine .inl ⟨5, 2, ⟨#[]⟩, Htk.out, by rw [← HXV.out]; rfl, ?_, ?_⟩
    · repeat apply gr_set _ (Nat.le_refl _)
      exact TM.out.gr
    · repeat apply RdrAt.set _ hne
      exact TM.out.rdr
  by_cases h6 : c0 (from_ s k) = 46
  · rw [decide_eq_false h1] at e1
    rw [decide_eq_false h2] at e2
    rw [show (decide (c0 (from_ s k) = 95) && decide (c1 (from_ s k) = 58)) = false by rw [← Bool.decide_and]; exact decide_eq_false h3] at e3
    rw [decide_eq_false h4] at e4
    rw [show (decide (c0 (from_ s k) = 94) && decide (c1 (from_ s k) = 94)) = false by rw [← Bool.decide_and]; exact decide_eq_false h5] at e5
    rw [decide_eq_true h6] at e6
    have Htk : Hid (tkL (from_ s k) = some (6, ⟨#[]⟩, 1)) := by show _ = _; unfold tkL; rw [if_neg h1]; rw [if_neg h2]; rw [if_neg h3]; rw [if_neg h4]; rw [if_neg h5]; rw [if_pos h6]
    clear hv hfl h1 h2 h3 h4 h5 h6
    go_enter Tryz.func103, Tryz.ntmps103
    go_wp2_with fail
    rw [← HW0.out]
    refine (e1 _ HR.out).mono ?_
    rintro e w1 ⟨rfl, R1⟩
    have R1 := Lib.hid R1
    go_wp2_with fail
    refine (e2 _ R1.out).mono ?_
    rintro e w2 ⟨rfl, R2⟩
    have R2 := Lib.hid R2
    go_wp2_with fail
    refine (e3 _ R2.out).mono ?_
    rintro e w3 ⟨rfl, R3⟩
    have R3 := Lib.hid R3
    go_wp2_with fail
    refine (e4 _ R3.out).mono ?_
    rintro e w4 ⟨rfl, R4⟩
    have R4 := Lib.hid R4
    go_wp2_with fail
    refine (e5 _ R4.out).mono ?_
    rintro e w5 ⟨rfl, R5⟩
    have R5 := Lib.hid R5
    go_wp2_with fail
    refine (e6 _ R5.out).mono ?_
    rintro e w6 ⟨rfl, R6⟩
    have R6 := Lib.hid R6
    have u0 : w6.cell? ⟨w.heap.size, 0, none⟩ = some (.int .i64 0) := (TkM.of_ri hlt R6.out).cells.1
    have uf : w6.frozen? ⟨w.heap.size, 0, none⟩ = false := (TkM.of_ri hlt R6.out).cells.2.2.2 0
    go_upto_region 14 with (fail)
    have TM := TkM.of_set 6 hlt R6.out
    obtain ⟨wx, hwx⟩ : ∃ wx, w6.setCell ⟨w.heap.size, 0, none⟩ (.int .i64 6) = wx := ⟨_, rfl⟩
    rw [hwx] at TM ⊢
    clear hwx
    obtain ⟨t0, t1, t2, tf⟩ := TM.cells
    obtain ⟨A, n, c, hrb, hrd, hxn⟩ := TM.rd
    have d2 : wx.cell? ⟨b, 2, none⟩ = some (.slice A n c) := by rw [World.cell?, hrb]; rfl
    have hcv := run_conv_bytes (P := Tryz.prog) (c := c) 54 9 5 Tryz.underlying54 Tryz.underlying5 Tryz.underlying9 hrd hxn
    obtain ⟨xv, hxv⟩ : ∃ xv, strOfNums ([] : List Int) = xv := ⟨_, rfl⟩
    rw [hxv] at hcv
    have z1 := tk_fin TM.tk (.string xv) (.int .i64 6)
    have HXV := Lib.hid hxv
    clear hxv
    have f0 := tf 0
    have f1 := tf 1
    have f2 := tf 2
    have TM := Lib.hid TM
    clear hrb hrd hxn tf
    go_wp2
    refine bodyPost_ret (v := .tuple #[.agg #[.int .i64 6, .string xv, .int .i64 k], .bool true]) (by simp [results, Tryz.results103, go_sem, t0, t2, z1]) rfl ?_
    refine .inl ⟨6, 1, ⟨#[]⟩, Htk.out, by rw [← HXV.out]; rfl, ?_, ?_⟩
    · repeat apply gr_set _ (Nat.le_refl _)
      exact TM.out.gr
    · repeat apply RdrAt.set _ hne
      exact TM.out.rdr
  rw [decide_eq_false h1] at e1
  rw [decide_eq_false h2] at e2
  rw [show (decide (c0 (from_ s k) = 95) && decide (c1 (from_ s k) = 58)) = false by rw [← Bool.decide_and]; exact decide_eq_false h3] at e3
  rw [decide_eq_false h4] at e4
  rw [show (decide (c0 (from_ s k) = 94) && decide (c1 (from_ s k) = 94)) = false by rw [← Bool.decide_and]; exact decide_eq_false h5] at e5
  rw [decide_eq_false h6] at e6
  have Htk : Hid (tkL (from_ s k) = none) := by show _ = _; unfold tkL; rw [if_neg h1]; rw [if_neg h2]; rw [if_neg h3]; rw [if_neg h4]; rw [if_neg h5]; rw [if_neg h6]
  clear hv hfl h1 h2 h3 h4 h5 h6
  go_enter Tryz.func103, Tryz.ntmps103
  go_wp2_with fail
  rw [← HW0.out]
  refine (e1 _ HR.out).mono ?_
  rintro e w1 ⟨rfl, R1⟩
  have R1 := Lib.hid R1
  go_wp2_with fail
  refine (e2 _ R1.out).mono ?_
  rintro e w2 ⟨rfl, R2⟩
  have R2 := Lib.hid R2
  go_wp2_with fail
  refine (e3 _ R2.out).mono ?_
  rintro e w3 ⟨rfl, R3⟩
  have R3 := Lib.hid R3
  go_wp2_with fail
  refine (e4 _ R3.out).mono ?_
  rintro e w4 ⟨rfl, R4⟩
  have R4 := Lib.hid R4
  go_wp2_with fail
  refine (e5 _ R4.out).mono ?_
  rintro e w5 ⟨rfl, R5⟩
  have R5 := Lib.hid R5
  go_wp2_with fail
  refine (e6 _ R5.out).mono ?_
  rintro e w6 ⟨rfl, R6⟩
  have R6 := Lib.hid R6
  go_upto_region 14 with (fail)
  have TM := TkM.of_ri hlt R6.out
  obtain ⟨wx, hwx⟩ : ∃ wx, w6 = wx := ⟨_, rfl⟩
  rw [hwx] at TM ⊢
  clear hwx
  obtain ⟨t0, t1, t2, tf⟩ := TM.cells
  obtain ⟨A, n, c, hrb, hrd, hxn⟩ := TM.rd
  have d2 : wx.cell? ⟨b, 2, none⟩ = some (.slice A n c) := by rw [World.cell?, hrb]; rfl
  have hcv := run_conv_bytes (P := Tryz.prog) (c := c) 54 9 5 Tryz.underlying54 Tryz.underlying5 Tryz.underlying9 hrd hxn
  obtain ⟨xv, hxv⟩ : ∃ xv, strOfNums ([] : List Int) = xv := ⟨_, rfl⟩
  rw [hxv] at hcv
  have z1 := tk_fin TM.tk (.string xv) (.int .i64 0)
  have HXV := Lib.hid hxv
  clear hxv
  have f0 := tf 0
  have f1 := tf 1
  have f2 := tf 2
  have TM := Lib.hid TM
  clear hrb hrd hxn tf
  go_wp2
  refine bodyPost_ret (v := .tuple #[.agg #[.int .i64 0, .string xv, .int .i64 k], .bool false]) (by simp [results, Tryz.results103, go_sem, t0, t2, z1]) rfl ?_
  refine .inr ⟨Htk.out, ⟨_, _, rfl⟩, ?_⟩
  repeat apply gr_set _ (Nat.le_refl _)
  exact TM.out.gr
end Go.Proofs.YtpnlabjgmdhicaaGreatDoor
