/- The program's package lex, walked: inner. -/
import Derived.Test.YtjigcembbigbnaaDoorJLex5
namespace Go.Proofs.YtjigcembbigbnaaDoor
open Go Go.RowKit Um Lx

def endB (lit : Bool) : ByteArray := if lit then ⟨#[34]⟩ else ⟨#[62]⟩
theorem encL_snoc (l : List Int) (x : Int) : encL (l ++ [x]) = encL l ++ Lib.encodeRuneZ x := by unfold encL; rw [List.flatMap_append]; simp
theorem eat_end (lit : Bool) (s : ByteArray) (k : Nat) : preB (endB lit) s k = decide (c0 (from_ s k) = endC lit) := by
  unfold preB
  cases lit
  · exact pre1 (a := 62) (by decide) _
  · exact pre1 (a := 34) (by decide) _
theorem nx_92 {l : List UInt8} (h0 : (nx l).2 ≠ 0) : (nx l).1 = 92 ↔ c0 l = 92 := by
  constructor
  · intro h
    obtain ⟨h1, h2, h3, _⟩ := nx_enc l h0
    rw [h] at h3
    have h4 : (l.take (nx l).2).getD 0 0 = 92 := by rw [h3]; decide
    rw [take_getD _ _ _ (by omega)] at h4
    unfold c0
    rw [h4]; rfl
  · intro h
    rw [nx_low (l := l) (by have := c0_len (l := l) (by omega); omega) (by omega)]
    exact h
/-- What inner makes of a reader. -/
def InR (w0 : World) (b : Nat) (s : ByteArray) (k : Nat) : Option (List Int × Nat) → Ending → World → Prop
  | some (ns, m), e, w' => e = .returned (.bool true) ∧ RI w0 b s (k + m) (encL ns) w'
  | none, e, w' => e = .returned (.bool false) ∧ Failed w0 b s w'
def InL (w0 : World) (b : Nat) (s : ByteArray) (k : Nat) (lit : Bool) (_v : Value) (wr : World) : Prop :=
  ∃ (d : Nat) (acc : List Int), k + d ≤ s.size ∧ acc.length ≤ d ∧ vld (from_ s (k + d)) ∧ RI w0 b s (k + d) (encL acc) wr ∧ inRest lit (from_ s k) d acc
theorem decodeGo_at (s : ByteArray) (k : Nat) (hk : k ≤ s.size) (h : (nx (from_ s k)).2 ≠ 0) : Lib.decodeGo (s.extract k s.size) = nx (from_ s k) := by
  have h1 := decodeGo_nx s k hk
  split at h1
  · rw [← h1] at h; exact absurd rfl h
  · exact h1
theorem decodeGo_end (s : ByteArray) (k : Nat) (hk : k = s.size) : Lib.decodeGo (s.extract k s.size) = (65533, 0) := by
  have hz : (s.extract k s.size).size = 0 := by simp [ByteArray.size_extract]; omega
  unfold Lib.decodeGo
  rw [if_pos hz]
theorem raw_val (n : Nat) (lit : Bool) (l : List UInt8) (h92 : c0 l ≠ 92) (hn : (nx l).2 ≠ 0) (h1 : (nx l).1 = n) : (rawL lit n = true → signL lit l = nx l) ∧ (rawL lit n = false → (signL lit l).2 = 0) := by
  subst h1
  unfold signL
  rw [if_neg h92]
  constructor
  · intro h; rw [if_neg]; rintro (h2 | h2); exact hn h2; rw [h] at h2; cases h2
  · intro h; rw [if_pos (.inr h)]
set_option maxRecDepth 10000 in
set_option maxHeartbeats 4000000 in
theorem lexInner (lit : Bool) (F : Nat) (eg : ∀ args W, (callFunc F args).run Tryd.prog W = .ok (.enter F args) W)
    (hF : ∀ (n : Nat) W, n ≤ 1114111 → Ctx W → Calls Tryd.prog F #[.int .i32 n] W fun e w' => e = .returned (.bool (rawL lit n)) ∧ Below W.heap.size W w')
    (s : ByteArray) (k b : Nat) (w0 w : World) (h : RI w0 b s k [] w) (hk : k ≤ s.size) (hs : s.size ≤ 1000000) (hv : vld (from_ s k)) :
    Calls Tryd.prog 22 #[.pointer (some ⟨b, 0, none⟩), .string (endB lit), .func (.func F) #[] #[]] w (InR w0 b s k (inL lit (from_ s k))) := by
  have hsz : s.data.toList.length = s.size := size_toList s
  have Hsz := Lib.hid hsz
  clear hsz
  have H := Lib.hid h
  have HV := Lib.hid hv
  clear h hv
  go_enter Tryd.func22, Tryd.ntmps22
  go_wp2
  go_loopw [7] (InL w0 b s k lit) (fun _ wr => s.size - (intOf ((wr.cell? ⟨b, 1, none⟩).getD undef)).toNat)
  case atStart => exact ⟨0, [], by simpa using hk, by simp, by simpa using HV.out, by simpa [encL] using H.out, inRest_start _ _⟩
  case round =>
    obtain ⟨d, acc, hkd, had, hv, hR, hI⟩ := hrel
    have hme : (intOf ((wr.cell? ⟨b, 1, none⟩).getD undef)).toNat = k + d := by rw [hR.c1]; simp [intOf]; omega
    have Hme := Lib.hid hme
    have HR := Lib.hid hR
    have HI := Lib.hid hI
    have hdr : (from_ s k).drop d = from_ s (k + d) := (from_drop s k d).symm
    have Hdr := Lib.hid hdr
    have hfl := from_len s (k + d)
    have he := lexEat (endB lit) s (k + d) b (encL acc) w0 wr hR hkd hs (by cases lit <;> decide)
    unfold EatR eatK at he
    rw [eat_end] at he
    have hxl : (encL acc).length ≤ 4000000 := by have := encL_length acc; omega
    clear hme hR hI H hdr
    by_cases hend : c0 (from_ s (k + d)) = endC lit
    · rw [decide_eq_true hend] at he
      have hlt : d < (from_ s k).length := by
        have h0 : 0 < (from_ s (k + d)).length := c0_len (by rw [hend]; cases lit <;> decide)
        rw [from_len] at h0 ⊢
        omega
      have Hin : Hid (inL lit (from_ s k) = some (acc, d + 1)) := by show _ = _; exact inRest_end HI.out hlt (by rw [Hdr.out]; exact hend)
      clear hend hlt hfl
      go_wp2_with (go_at_call 15; refine he.mono ?_; rintro e w1 ⟨rfl, H1⟩; have H1 := Lib.hid H1)
      go_ret
      rw [Hin.out]
      refine ⟨rfl, ?_⟩
      have := H1.out
      have hz : (endB lit).size = 1 := by cases lit <;> rfl
      simp only [if_true, hz] at this
      rwa [Nat.add_assoc] at this
    · rw [decide_eq_false hend] at he
      have hr := fun W (hW : RI w0 b s (k + d) (encL acc) W) => lexRest s (k + d) b W hW.c0 hW.c1 hkd
      by_cases hlt : k + d < s.size
      · have h0 : (from_ s (k + d)).length ≠ 0 := by omega
        obtain ⟨hn2, hvn⟩ := vld_nx hv h0
        have hdg := decodeGo_at s (k + d) hkd hn2
        obtain ⟨r, hrr⟩ : ∃ r, s.extract (k + d) s.size = r := ⟨_, rfl⟩
        simp only [hrr] at hr
        rw [hrr] at hdg
        have hdec := fun W (hW : RI w0 b s (k + d) (encL acc) W) => Tryd.utf8_DecodeRuneInString r W hW.ctx.tabs
        rw [hdg] at hdec
        have hst := nx_step s (k + d) hn2
        have h92 := nx_92 hn2
        have Hn2 := Lib.hid hn2
        have Hnn : Hid ((nx (from_ s (k + d))).1 = (nx (from_ s (k + d))).1 ∧ (nx (from_ s (k + d))).2 = (nx (from_ s (k + d))).2) := Lib.hid ⟨rfl, rfl⟩
        obtain ⟨n, hnn⟩ : ∃ n, (nx (from_ s (k + d))).1 = n := ⟨_, rfl⟩
        obtain ⟨m, hmm⟩ : ∃ m, (nx (from_ s (k + d))).2 = m := ⟨_, rfl⟩
        rw [hnn, hmm] at hdec
        rw [hnn] at h92
        obtain ⟨hs1, hs2, hs3⟩ := hst
        rw [hmm] at hs1 hs2
        rw [hnn] at hs3
        have hm0 : m ≠ 0 := by rw [← hmm]; exact hn2
        have Hvn := Lib.hid hvn
        have Hnm := Lib.hid (And.intro hnn hmm)
        have Hend := Lib.hid hend
        have Hv := Lib.hid hv
        clear hrr hdg hn2 hvn hnn hmm hend hv h0 hfl Hnn
        have hdm : ((m : Int) == 0) = false := by simp; omega
        have Hlt : Hid (d < (from_ s k).length) := by show d < _; rw [from_len]; omega
        by_cases hc92 : c0 (from_ s (k + d)) = 92
        · have hn92 : n = 92 := h92.2 hc92
          subst hn92
          have Hc := Lib.hid hc92
          have hes := fun W (hW : RI w0 b s (k + d) (encL acc) W) => lexEscape lit s (k + d) b (encL acc) hxl w0 W hW hlt hs hc92
          have hsg : Hid (signL lit (from_ s (k + d)) = escL lit (from_ s (k + d))) := by show _ = _; unfold signL; rw [if_pos hc92]
          clear h92 hc92
          have hq : ((endB lit).toList == [34]) = lit := by rw [show (endB lit).toList = (endB lit).data.toList by cases h : endB lit; rw [ByteArray.toList_mk]]; cases lit <;> decide
          go_wp2_with fail
          refine he.mono ?_
          rintro e w1 ⟨rfl, H1⟩
          have H1 := Lib.hid H1
          go_wp2_with fail
          refine (hr w1 H1.out).mono ?_
          rintro e w2 ⟨rfl, hb2⟩
          have H2 := Lib.hid (H1.out.step hb2)
          clear hb2
          go_wp2_with fail
          refine (hdec w2 H2.out).mono ?_
          rintro e w3 ⟨rfl, hb3⟩
          have H3 := Lib.hid (H2.out.step hb3)
          clear hb3
          go_wp2_with fail
          refine (hes w3 H3.out).mono ?_
          intro e w4 h4
          rcases h4 with ⟨hz, rfl, hF4⟩ | ⟨hnz, rfl, H4⟩
          · have Hin : Hid (inL lit (from_ s k) = none) := by
              show _ = _
              refine inRest_none HI.out ?_
              rw [Hdr.out]
              exact inL_bad (by rw [from_len]; omega) Hend.out (by rw [hsg.out]; exact hz)
            have HF4 := Lib.hid hF4
            clear hz hF4
            go_wp2
            go_ret
            rw [Hin.out]
            exact ⟨rfl, HF4.out⟩
          · have hI2 : inRest lit (from_ s k) (d + (signL lit (from_ s (k + d))).2) (acc ++ [((signL lit (from_ s (k + d))).1 : Int)]) := by
              have := inRest_go HI.out Hlt.out (by rw [Hdr.out]; exact Hend.out) (by rw [Hdr.out, hsg.out]; exact hnz)
              rwa [Hdr.out] at this
            have hsp := signL_spec (lit := lit) (l := from_ s (k + d)) (by rw [hsg.out]; exact hnz)
            rw [hsg.out] at hI2 hsp
            obtain ⟨hp1, hp2, hp3⟩ := hsp
            rw [from_len] at hp1
            have hv3 := hp3 Hv.out
            rw [← from_drop] at hv3
            rw [Nat.add_assoc, ← encL_snoc] at H4
            rw [Nat.add_assoc] at hv3
            generalize escL lit (from_ s (k + d)) = q at *
            obtain ⟨q1, q2⟩ := q
            simp only at hI2 hp1 hnz hv3 H4
            have HI2 := Lib.hid hI2
            have HV3 := Lib.hid hv3
            have H4 := Lib.hid H4
            clear hI2 hv3 hp2 hp3
            go_wp2
            go_roundw
            case rel => exact ⟨d + q2, acc ++ [(q1 : Int)], by omega, by simp; omega, HV3.out, H4.out, HI2.out⟩
            case measure =>
              have hme2 : (intOf ((w4.cell? ⟨b, 1, none⟩).getD undef)).toNat = k + (d + q2) := by rw [H4.out.c1]; simp [intOf]; omega
              have hme1 := Hme.out
              omega
        · have hn92 : n ≠ 92 := fun h => hc92 (h92.1 h)
          have hrv := raw_val n lit _ hc92 Hn2.out Hnm.out.1
          have h92b : ((n : Int) == 92) = false := by simp; omega
          have Hn92 := Lib.hid hn92
          have hFn := fun W (hW : RI w0 b s (k + d) (encL acc) W) => hF n W hs3 hW.ctx
          clear h92 hc92 hn92
          cases hraw : rawL lit n
          · have hz := hrv.2 hraw
            rw [hraw] at hFn
            have Hin : Hid (inL lit (from_ s k) = none) := by
              show _ = _
              refine inRest_none HI.out ?_
              rw [Hdr.out]
              exact inL_bad (by rw [from_len]; omega) Hend.out hz
            clear hrv hraw hz
            go_wp2_with fail
            refine he.mono ?_
            rintro e w1 ⟨rfl, H1⟩
            have H1 := Lib.hid H1
            go_wp2_with fail
            refine (hr w1 H1.out).mono ?_
            rintro e w2 ⟨rfl, hb2⟩
            have H2 := Lib.hid (H1.out.step hb2)
            clear hb2
            go_wp2_with fail
            refine (hdec w2 H2.out).mono ?_
            rintro e w3 ⟨rfl, hb3⟩
            have H3 := Lib.hid (H2.out.step hb3)
            clear hb3
            go_wp2_with (go_at_fn F; refine (hFn w3 H3.out).mono ?_; rintro e w4 ⟨rfl, hb4⟩; have H4 := Lib.hid (H3.out.step hb4); clear hb4)
            go_ret
            rw [Hin.out]
            exact ⟨rfl, _, _, H4.out⟩
          · have hsg := hrv.1 hraw
            rw [hraw] at hFn
            have hI2 : inRest lit (from_ s k) (d + m) (acc ++ [(n : Int)]) := by
              have := inRest_go HI.out Hlt.out (by rw [Hdr.out]; exact Hend.out) (by rw [Hdr.out, hsg]; exact Hn2.out)
              rw [Hdr.out, hsg, Hnm.out.1, Hnm.out.2] at this
              exact this
            have hv3 : vld (from_ s (k + (d + m))) := by
              have := Hvn.out
              rw [Hnm.out.2, ← from_drop, Nat.add_assoc] at this
              exact this
            have hput := fun W g (hW : RI w0 b s (k + d + m) (encL acc) W) hg => lexPut (n : Int) (by omega) (by omega) s (k + d + m) b (encL acc) hxl g w0 W hW hg
            have HI2 := Lib.hid hI2
            have HV3 := Lib.hid hv3
            have hk3 : k + d ≤ 1000000 := by omega
            clear hrv hraw hsg hI2 hv3
            go_wp2_with fail
            refine he.mono ?_
            rintro e w1 ⟨rfl, H1⟩
            have H1 := Lib.hid H1
            go_wp2_with fail
            refine (hr w1 H1.out).mono ?_
            rintro e w2 ⟨rfl, hb2⟩
            have H2 := Lib.hid (H1.out.step hb2)
            clear hb2
            go_wp2_with fail
            refine (hdec w2 H2.out).mono ?_
            rintro e w3 ⟨rfl, hb3⟩
            have H3 := Lib.hid (H2.out.step hb3)
            clear hb3
            go_wp2_with (go_at_fn F; refine (hFn w3 H3.out).mono ?_; rintro e w4 ⟨rfl, hb4⟩; have H4 := Lib.hid (H3.out.step hb4); clear hb4; have c1 := H4.out.c1; have f1 := H4.out.fz 1)
            have H5 := (H4.out.moveI (k' := k + d + m) (z := (k : Int) + d + m) (by omega)).step ((Below.refl _ _).alloc (Nat.le_refl _) (.cells #[.int .i32 n] 21))
            refine (hput _ _ H5 (put_cell _ _ _ _ _)).mono ?_
            rintro e w6 ⟨rfl, H6⟩
            rw [Nat.add_assoc, ← encL_snoc] at H6
            have H6 := Lib.hid H6
            go_wp2
            go_roundw
            case rel => exact ⟨d + m, acc ++ [(n : Int)], by omega, by simp; omega, HV3.out, H6.out, HI2.out⟩
            case measure =>
              have hme2 : (intOf ((w6.cell? ⟨b, 1, none⟩).getD undef)).toNat = k + (d + m) := by rw [H6.out.c1]; simp [intOf]; omega
              have hme1 := Hme.out
              omega
      · have hkk : k + d = s.size := by omega
        have hdg := decodeGo_end s (k + d) hkk
        obtain ⟨r, hrr⟩ : ∃ r, s.extract (k + d) s.size = r := ⟨_, rfl⟩
        simp only [hrr] at hr
        rw [hrr] at hdg
        have hdec := fun W (hW : RI w0 b s (k + d) (encL acc) W) => Tryd.utf8_DecodeRuneInString r W hW.ctx.tabs
        rw [hdg] at hdec
        have Hin : Hid (inL lit (from_ s k) = none) := by
          show _ = _
          refine inRest_none HI.out ?_
          rw [Hdr.out]
          exact inL_nil (by rw [from_len]; omega)
        clear hdg hrr hkk hlt hv hend hfl
        go_wp2_with fail
        refine he.mono ?_
        rintro e w1 ⟨rfl, H1⟩
        have H1 := Lib.hid H1
        go_wp2_with fail
        refine (hr w1 H1.out).mono ?_
        rintro e w2 ⟨rfl, hb2⟩
        have H2 := Lib.hid (H1.out.step hb2)
        clear hb2
        go_wp2_with fail
        refine (hdec w2 H2.out).mono ?_
        rintro e w3 ⟨rfl, hb3⟩
        have H3 := Lib.hid (H2.out.step hb3)
        clear hb3
        go_wp2
        go_ret
        rw [Hin.out]
        exact ⟨rfl, _, _, H3.out⟩
end Go.Proofs.YtjigcembbigbnaaDoor
