/- The program's package lex, walked: inner. The answer for utf (ossuaryref07): Raw. The answer for lex (ossuaryref09): inner. -/
import Derived.Test.YtffpgandgajihaaGreatDoorJLex5
import Derived.Test.YtffpgandgajihaaGreatDoorJUtfRef
import Derived.Test.YtffpgandgajihaaGreatDoorJR9b
import Derived.Test.YtffpgandgajihaaGreatDoorJUtfNext
import Derived.Test.YtffpgandgajihaaGreatDoorJMem
namespace Go.Proofs.YtffpgandgajihaaGreatDoor
open Go Go.RowKit Um Lx

def endB (lit : Bool) : ByteArray := if lit then ⟨#[34]⟩ else ⟨#[62]⟩
theorem encL_snoc (l : List Int) (x : Int) : encL (l ++ [x]) = encL l ++ Lib.encodeRuneZ x := by unfold encL; rw [List.flatMap_append]; simp
theorem eat_end (lit : Bool) (s : ByteArray) (k : Nat) : preB (endB lit) s k = decide (c0 (from_ s k) = endC lit) := by
  unfold preB
  cases lit
  · exact pre1 (a := 62) (by decide) _
  · exact pre1 (a := 34) (by decide) _
theorem nx_92 {l : List UInt8} (h0 : (nx l).2 ≠ 0) : (nx l).1 = 92 ↔ c0 l = 92 := by
  constructor
  · intro h
    obtain ⟨h1, h2, h3, _⟩ := nx_enc l h0
    rw [h] at h3
    have h4 : (l.take (nx l).2).getD 0 0 = 92 := by rw [h3]; decide
    rw [take_getD _ _ _ (by omega)] at h4
    unfold c0
    rw [h4]; rfl
  · intro h
    rw [nx_low (l := l) (by have := c0_len (l := l) (by omega); omega) (by omega)]
    exact h
/-- What inner makes of a reader. -/
def InR (w0 : World) (b : Nat) (s : ByteArray) (k : Nat) : Option (List Int × Nat) → Ending → World → Prop
  | some (ns, m), e, w' => e = .returned (.bool true) ∧ RI w0 b s (k + m) (encL ns) w'
  | none, e, w' => e = .returned (.bool false) ∧ Failed w0 b s w'
def InL (w0 : World) (b : Nat) (s : ByteArray) (k : Nat) (lit : Bool) (_v : Value) (wr : World) : Prop :=
  ∃ (d : Nat) (acc : List Int), k + d ≤ s.size ∧ acc.length ≤ d ∧ vld (from_ s (k + d)) ∧ RI w0 b s (k + d) (encL acc) wr ∧ inRest lit (from_ s k) d acc
theorem decodeGo_at (s : ByteArray) (k : Nat) (hk : k ≤ s.size) (h : (nx (from_ s k)).2 ≠ 0) : Lib.decodeGo (s.extract k s.size) = nx (from_ s k) := by
  have h1 := decodeGo_nx s k hk
  split at h1
  · rw [← h1] at h; exact absurd rfl h
  · exact h1
theorem decodeGo_end (s : ByteArray) (k : Nat) (hk : k = s.size) : Lib.decodeGo (s.extract k s.size) = (65533, 0) := by
  have hz : (s.extract k s.size).size = 0 := by simp [ByteArray.size_extract]; omega
  unfold Lib.decodeGo
  rw [if_pos hz]
theorem raw_val (n : Nat) (lit : Bool) (l : List UInt8) (h92 : c0 l ≠ 92) (hn : (nx l).2 ≠ 0) (h1 : (nx l).1 = n) : (rawL lit n = true → signL lit l = nx l) ∧ (rawL lit n = false → (signL lit l).2 = 0) := by
  subst h1
  unfold signL
  rw [if_neg h92]
  constructor
  · intro h; rw [if_neg]; rintro (h2 | h2); exact hn h2; rw [h] at h2; cases h2
  · intro h; rw [if_pos (.inr h)]
set_option maxRecDepth 10000 in
set_option maxHeartbeats 4000000 in
theorem lexInner (lit : Bool) (F : Nat) (eg : ∀ args W, (callFunc F args).run Tryz.prog W = .ok (.enter F args) W)
    (hF : ∀ (n : Nat) W, n ≤ 1114111 → Ctx W → Calls Tryz.prog F #[.int .i32 n] W fun e w' => e = .returned (.bool (rawL lit n)) ∧ Below W.heap.size W w')
    (s : ByteArray) (k b : Nat) (w0 w : World) (h : RI w0 b s k [] w) (hk : k ≤ s.size) (hs : s.size ≤ 1000000) (hv : vld (from_ s k)) :
    Calls Tryz.prog 49 #[.pointer (some ⟨b, 0, none⟩), .string (endB lit), .func (.func F) #[] #[]] w (InR w0 b s k (inL lit (from_ s k))) := by
  have hsz : s.data.toList.length = s.size := size_toList s
  have Hsz := Lib.hid hsz
  clear hsz
  have H := Lib.hid h
  have HV := Lib.hid hv
  clear h hv
  go_enter Tryz.func49, Tryz.ntmps49
  go_wp2
  go_loopw [7] (InL w0 b s k lit) (fun _ wr => s.size - (intOf ((wr.cell? ⟨b, 1, none⟩).getD undef)).toNat)
  case atStart => exact ⟨0, [], by simpa using hk, by simp, by simpa using HV.out, by simpa [encL] using H.out, inRest_start _ _⟩
  case round =>
    obtain ⟨d, acc, hkd, had, hv, hR, hI⟩ := hrel
    have hme : (intOf ((wr.cell? ⟨b, 1, none⟩).getD undef)).toNat = k + d := by rw [hR.c1]; simp [intOf]; omega
    have Hme := Lib.hid hme
    have HR := Lib.hid hR
    have HI := Lib.hid hI
    have hdr : (from_ s k).drop d = from_ s (k + d) := (from_drop s k d).symm
    have Hdr := Lib.hid hdr
    have hfl := from_len s (k + d)
    have he := lexEat (endB lit) s (k + d) b (encL acc) w0 wr hR hkd hs (by cases lit <;> decide)
    unfold EatR eatK at he
    rw [eat_end] at he
    have hxl : (encL acc).length ≤ 4000000 := by have := encL_length acc; omega
    clear hme hR hI H hdr
    by_cases hend : c0 (from_ s (k + d)) = endC lit
    · rw [decide_eq_true hend] at he
      have hlt : d < (from_ s k).length := by
        have h0 : 0 < (from_ s (k + d)).length := c0_len (by rw [hend]; cases lit <;> decide)
        rw [from_len] at h0 ⊢
        omega
      have Hin : Hid (inL lit (from_ s k) = some (acc, d + 1)) := by show _ = _; exact inRest_end HI.out hlt (by rw [Hdr.out]; exact hend)
      clear hend hlt hfl
      go_wp2_with (go_at_call 28; refine he.mono ?_; rintro e w1 ⟨rfl, H1⟩; have H1 := Lib.hid H1)
      go_ret
      rw [Hin.out]
      refine ⟨rfl, ?_⟩
      have := H1.out
      have hz : (endB lit).size = 1 := by cases lit <;> rfl
      simp only [if_true, hz] at this
      rwa [Nat.add_assoc] at this
    · rw [decide_eq_false hend] at he
      have hr := fun W (hW : RI w0 b s (k + d) (encL acc) W) => lexRest s (k + d) b W hW.c0 hW.c1 hkd
      by_cases hlt : k + d < s.size
      · have h0 : (from_ s (k + d)).length ≠ 0 := by omega
        obtain ⟨hn2, hvn⟩ := vld_nx hv h0
        have hdg := decodeGo_at s (k + d) hkd hn2
        obtain ⟨r, hrr⟩ : ∃ r, s.extract (k + d) s.size = r := ⟨_, rfl⟩
        simp only [hrr] at hr
        rw [hrr] at hdg
        have hdec := fun W (hW : RI w0 b s (k + d) (encL acc) W) => Tryz.utf8_DecodeRuneInString r W hW.ctx.tabs
        rw [hdg] at hdec
        have hst := nx_step s (k + d) hn2
        have h92 := nx_92 hn2
        have Hn2 := Lib.hid hn2
        have Hnn : Hid ((nx (from_ s (k + d))).1 = (nx (from_ s (k + d))).1 ∧ (nx (from_ s (k + d))).2 = (nx (from_ s (k + d))).2) := Lib.hid ⟨rfl, rfl⟩
        obtain ⟨n, hnn⟩ : ∃ n, (nx (from_ s (k + d))).1 = n := ⟨_, rfl⟩
        obtain ⟨m, hmm⟩ : ∃ m, (nx (from_ s (k + d))).2 = m := ⟨_, rfl⟩
        rw [hnn, hmm] at hdec
        rw [hnn] at h92
        obtain ⟨hs1, hs2, hs3⟩ := hst
        rw [hmm] at hs1 hs2
        rw [hnn] at hs3
        have hm0 : m ≠ 0 := by rw [← hmm]; exact hn2
        have Hvn := Lib.hid hvn
        have Hnm := Lib.hid (And.intro hnn hmm)
        have Hend := Lib.hid hend
        have Hv := Lib.hid hv
        clear hrr hdg hn2 hvn hnn hmm hend hv h0 hfl Hnn
        have hdm : ((m : Int) == 0) = false := by simp; omega
        have Hlt : Hid (d < (from_ s k).length) := by show d < _; rw [from_len]; omega
        by_cases hc92 : c0 (from_ s (k + d)) = 92
        · have hn92 : n = 92 := h92.2 hc92
          subst hn92
          have Hc := Lib.hid hc92
          have hes := fun W (hW : RI w0 b s (k + d) (encL acc) W) => lexEscape lit s (k + d) b (encL acc) hxl w0 W hW hlt hs hc92
          have hsg : Hid (signL lit (from_ s (k + d)) = escL lit (from_ s (k + d))) := by show _ = _; unfold signL; rw [if_pos hc92]
          clear h92 hc92
          have hq : ((endB lit).toList == [34]) = lit := by rw [show (endB lit).toList = (endB lit).data.toList by cases h : endB lit; rw [ByteArray.toList_mk]]; cases lit <;> decide
          go_wp2_with fail
          refine he.mono ?_
          rintro e w1 ⟨rfl, H1⟩
          have H1 := Lib.hid H1
          go_wp2_with fail
          refine (hr w1 H1.out).mono ?_
          rintro e w2 ⟨rfl, hb2⟩
          have H2 := Lib.hid (H1.out.step hb2)
          clear hb2
          go_wp2_with fail
          refine (hdec w2 H2.out).mono ?_
          rintro e w3 ⟨rfl, hb3⟩
          have H3 := Lib.hid (H2.out.step hb3)
          clear hb3
          go_wp2_with fail
          refine (hes w3 H3.out).mono ?_
          intro e w4 h4
          rcases h4 with ⟨hz, rfl, hF4⟩ | ⟨hnz, rfl, H4⟩
          · have Hin : Hid (inL lit (from_ s k) = none) := by
              show _ = _
              refine inRest_none HI.out ?_
              rw [Hdr.out]
              exact inL_bad (by rw [from_len]; omega) Hend.out (by rw [hsg.out]; exact hz)
            have HF4 := Lib.hid hF4
            clear hz hF4
            go_wp2
            go_ret
            rw [Hin.out]
            exact ⟨rfl, HF4.out⟩
          · have hI2 : inRest lit (from_ s k) (d + (signL lit (from_ s (k + d))).2) (acc ++ [((signL lit (from_ s (k + d))).1 : Int)]) := by
              have := inRest_go HI.out Hlt.out (by rw [Hdr.out]; exact Hend.out) (by rw [Hdr.out, hsg.out]; exact hnz)
              rwa [Hdr.out] at this
            have hsp := signL_spec (lit := lit) (l := from_ s (k + d)) (by rw [hsg.out]; exact hnz)
            rw [hsg.out] at hI2 hsp
            obtain ⟨hp1, hp2, hp3⟩ := hsp
            rw [from_len] at hp1
            have hv3 := hp3 Hv.out
            rw [← from_drop] at hv3
            rw [Nat.add_assoc, ← encL_snoc] at H4
            rw [Nat.add_assoc] at hv3
            generalize escL lit (from_ s (k + d)) = q at *
            obtain ⟨q1, q2⟩ := q
            simp only at hI2 hp1 hnz hv3 H4
            have HI2 := Lib.hid hI2
            have HV3 := Lib.hid hv3
            have H4 := Lib.hid H4
            clear hI2 hv3 hp2 hp3
            go_wp2
            go_roundw
            case rel => exact ⟨d + q2, acc ++ [(q1 : Int)], by omega, by simp; omega, HV3.out, H4.out, HI2.out⟩
            case measure =>
              have hme2 : (intOf ((w4.cell? ⟨b, 1, none⟩).getD undef)).toNat = k + (d + q2) := by rw [H4.out.c1]; simp [intOf]; omega
              have hme1 := Hme.out
              omega
        · have hn92 : n ≠ 92 := fun h => hc92 (h92.1 h)
          have hrv := raw_val n lit _ hc92 Hn2.out Hnm.out.1
          have h92b : ((n : Int) == 92) = false := by simp; omega
          have Hn92 := Lib.hid hn92
          have hFn := fun W (hW : RI w0 b s (k + d) (encL acc) W) => hF n W hs3 hW.ctx
          clear h92 hc92 hn92
          cases hraw : rawL lit n
          · have hz := hrv.2 hraw
            rw [hraw] at hFn
            have Hin : Hid (inL lit (from_ s k) = none) := by
              show _ = _
              refine inRest_none HI.out ?_
              rw [Hdr.out]
              exact inL_bad (by rw [from_len]; omega) Hend.out hz
            clear hrv hraw hz
            go_wp2_with fail
            refine he.mono ?_
            rintro e w1 ⟨rfl, H1⟩
            have H1 := Lib.hid H1
            go_wp2_with fail
            refine (hr w1 H1.out).mono ?_
            rintro e w2 ⟨rfl, hb2⟩
            have H2 := Lib.hid (H1.out.step hb2)
            clear hb2
            go_wp2_with fail
            refine (hdec w2 H2.out).mono ?_
            rintro e w3 ⟨rfl, hb3⟩
            have H3 := Lib.hid (H2.out.step hb3)
            clear hb3
            go_wp2_with (go_at_fn F; refine (hFn w3 H3.out).mono ?_; rintro e w4 ⟨rfl, hb4⟩; have H4 := Lib.hid (H3.out.step hb4); clear hb4)
            go_ret
            rw [Hin.out]
            exact ⟨rfl, _, _, H4.out⟩
          · have hsg := hrv.1 hraw
            rw [hraw] at hFn
            have hI2 : inRest lit (from_ s k) (d + m) (acc ++ [(n : Int)]) := by
              have := inRest_go HI.out Hlt.out (by rw [Hdr.out]; exact Hend.out) (by rw [Hdr.out, hsg]; exact Hn2.out)
              rw [Hdr.out, hsg, Hnm.out.1, Hnm.out.2] at this
              exact this
            have hv3 : vld (from_ s (k + (d + m))) := by
              have := Hvn.out
              rw [Hnm.out.2, ← from_drop, Nat.add_assoc] at this
              exact this
            have hput := fun W g (hW : RI w0 b s (k + d + m) (encL acc) W) hg => lexPut (n : Int) (by omega) (by omega) s (k + d + m) b (encL acc) hxl g w0 W hW hg
            have HI2 := Lib.hid hI2
            have HV3 := Lib.hid hv3
            have hk3 : k + d ≤ 1000000 := by omega
            clear hrv hraw hsg hI2 hv3
            go_wp2_with fail
            refine he.mono ?_
            rintro e w1 ⟨rfl, H1⟩
            have H1 := Lib.hid H1
            go_wp2_with fail
            refine (hr w1 H1.out).mono ?_
            rintro e w2 ⟨rfl, hb2⟩
            have H2 := Lib.hid (H1.out.step hb2)
            clear hb2
            go_wp2_with fail
            refine (hdec w2 H2.out).mono ?_
            rintro e w3 ⟨rfl, hb3⟩
            have H3 := Lib.hid (H2.out.step hb3)
            clear hb3
            go_wp2_with (go_at_fn F; refine (hFn w3 H3.out).mono ?_; rintro e w4 ⟨rfl, hb4⟩; have H4 := Lib.hid (H3.out.step hb4); clear hb4; have c1 := H4.out.c1; have f1 := H4.out.fz 1)
            have H5 := (H4.out.moveI (k' := k + d + m) (z := (k : Int) + d + m) (by omega)).step ((Below.refl _ _).alloc (Nat.le_refl _) (.cells #[.int .i32 n] 21))
            refine (hput _ _ H5 (put_cell _ _ _ _ _)).mono ?_
            rintro e w6 ⟨rfl, H6⟩
            rw [Nat.add_assoc, ← encL_snoc] at H6
            have H6 := Lib.hid H6
            go_wp2
            go_roundw
            case rel => exact ⟨d + m, acc ++ [(n : Int)], by omega, by simp; omega, HV3.out, H6.out, HI2.out⟩
            case measure =>
              have hme2 : (intOf ((w6.cell? ⟨b, 1, none⟩).getD undef)).toNat = k + (d + m) := by rw [H6.out.c1]; simp [intOf]; omega
              have hme1 := Hme.out
              omega
      · have hkk : k + d = s.size := by omega
        have hdg := decodeGo_end s (k + d) hkk
        obtain ⟨r, hrr⟩ : ∃ r, s.extract (k + d) s.size = r := ⟨_, rfl⟩
        simp only [hrr] at hr
        rw [hrr] at hdg
        have hdec := fun W (hW : RI w0 b s (k + d) (encL acc) W) => Tryz.utf8_DecodeRuneInString r W hW.ctx.tabs
        rw [hdg] at hdec
        have Hin : Hid (inL lit (from_ s k) = none) := by
          show _ = _
          refine inRest_none HI.out ?_
          rw [Hdr.out]
          exact inL_nil (by rw [from_len]; omega)
        clear hdg hrr hkk hlt hv hend hfl
        go_wp2_with fail
        refine he.mono ?_
        rintro e w1 ⟨rfl, H1⟩
        have H1 := Lib.hid H1
        go_wp2_with fail
        refine (hr w1 H1.out).mono ?_
        rintro e w2 ⟨rfl, hb2⟩
        have H2 := Lib.hid (H1.out.step hb2)
        clear hb2
        go_wp2_with fail
        refine (hdec w2 H2.out).mono ?_
        rintro e w3 ⟨rfl, hb3⟩
        have H3 := Lib.hid (H2.out.step hb3)
        clear hb3
        go_wp2
        go_ret
        rw [Hin.out]
        exact ⟨rfl, _, _, H3.out⟩
end Go.Proofs.YtffpgandgajihaaGreatDoor
namespace Go.Proofs.YtffpgandgajihaaGreatDoor
open Go Go.RowKit Um

theorem badS_bn : ∀ k, k < 9 → ((bn badS k : Nat) : Int) = badL.getD k 0 := by decide

theorem badL_raw : ∀ k, k < 9 → rawB (badL.getD k 0) = false := by decide

theorem refRaw (n : Int) (w : World) :
    Calls Tryz.prog 165 #[.int .i64 n] w fun e w' => e = .returned (.bool (rawB n)) ∧ w = w' := by
  have his := fun W => refIs n W
  go_enter Tryz.func165, Tryz.ntmps165
  go_wp2
  obtain ⟨S, hS⟩ : ∃ S, S = badS := ⟨_, rfl⟩
  have HS := Lib.hid hS
  change Code.wp _ _ _ ⟨#[_, _, _, .string badS, _, _, _, _, _, _, _, _, _, _, _, _, _, _, _, _, _, _, _], _⟩ _
  rw [← hS]
  clear hS
  have hsz : S.size = 9 := by rw [HS.out]; rfl
  have hs1 : S.size ≤ 9 := by omega
  have hs2 : 9 ≤ S.size := by omega
  clear hsz
  go_loop [4] (fun i => ∃ k : Nat, k ≤ 9 ∧ i = .int .i64 k ∧ Hid (∀ j, j < k → n ≠ bn S j)) (fun i => 9 - (intOf i).toNat)
  case atStart => exact ⟨0, by omega, rfl, fun j h => by omega⟩
  case round =>
    obtain ⟨k, hk, rfl, H⟩ := hrel
    by_cases hlt : k < 9
    · by_cases he : n = bn S k
      · have hb : rawB n = false := by
          have e2 := he
          rw [HS.out, badS_bn k hlt] at e2
          rw [e2]; exact badL_raw k hlt
        have Hb := Lib.hid hb
        have he1 : (n == (bn S k : Int)) = true := by simpa using he
        clear hb he
        go_wp2
        go_ret
        exact ⟨by rw [Hb.out]; rfl, rfl⟩
      · have he2 : (n == (bn S k : Int)) = false := by simpa using he
        go_wp2
        go_round
        case rel =>
          exact ⟨k+1, by omega, by go_num, fun j hj => by
            rcases Nat.lt_or_ge j k with h | h
            · exact H.out j h
            · have : j = k := by omega
              subst this; exact he⟩
        case measure => simp [intOf]; omega
    · have hk9 : 9 ≤ k := by omega
      have hn : badL.contains n = false := by
        have h9 : ∀ j, j < 9 → n ≠ badL.getD j 0 := fun j hj => by
          have := H.out j (by omega)
          rwa [HS.out, badS_bn j hj] at this
        have h0 := h9 0 (by omega); have h1 := h9 1 (by omega); have h2 := h9 2 (by omega)
        have h3 := h9 3 (by omega); have h4 := h9 4 (by omega); have h5 := h9 5 (by omega)
        have h6 := h9 6 (by omega); have h7 := h9 7 (by omega); have h8 := h9 8 (by omega)
        simp only [badL, List.getD_cons_zero, List.getD_cons_succ] at h0 h1 h2 h3 h4 h5 h6 h7 h8
        simp [badL, h0, h1, h2, h3, h4, h5, h6, h7, h8]
      have hr : rawB n = (isB n && decide (32 < n)) := by unfold rawB; rw [hn]; simp
      have Hr := Lib.hid hr
      clear hr hn H
      generalize isB n = b at his Hr
      cases b
      · go_wp2_with (go_at_call 162; refine (his _).mono ?_; rintro e w1 ⟨rfl, rfl⟩)
        go_ret
        exact ⟨by rw [Hr.out]; rfl, rfl⟩
      · go_wp2_with (go_at_call 162; refine (his _).mono ?_; rintro e w1 ⟨rfl, rfl⟩)
        go_ret
        exact ⟨by rw [Hr.out]; simp, rfl⟩
end Go.Proofs.YtffpgandgajihaaGreatDoor
namespace Go.Proofs.YtffpgandgajihaaGreatDoor
open Go Go.RowKit Um Lx

theorem uint8Info9 : (Tryz.prog.info? 5).map (fun i => (i.zero, i.size, i.bytes)) = some (some (.int .u8 0), 1, 1) := by kernel_rfl
/-- What the signs up to an end are told as. -/
def inV : Option (List Int × Nat) → ByteArray × Nat
  | some (ns, m) => (textS ns, m)
  | none => (⟨#[]⟩, 0)
def InV (lit : Bool) (s : ByteArray) (k : Nat) (w : World) (e : Ending) (w' : World) : Prop := e = .returned (.tuple #[.string (inV (inL lit (from_ s k))).1, .int .i64 (inV (inL lit (from_ s k))).2]) ∧ Below w.heap.size w w'
def InVL (lit : Bool) (s : ByteArray) (k : Nat) (w : World) (v i : Value) (wr : World) : Prop :=
  ∃ (p n : Nat) (acc : List Int), k ≤ p ∧ p ≤ s.size ∧ acc.length ≤ p - k ∧ i = .int .i64 p ∧ wr.ownsRow w.heap.size 5 1 v n ((encL acc).map (Value.int .u8)) ∧ Below w.heap.size w wr ∧ Hid (inRest lit (from_ s k) (p - k) acc)
theorem nx_zero {l : List UInt8} (h : (nx l).2 = 0) : nx l = (0, 0) := by
  unfold nx at h ⊢
  split
  · rfl
  · rename_i h0
    rw [if_neg h0] at h
    split
    · rfl
    · rename_i h1
      rw [if_neg h1] at h
      exact absurd h (by have := decodeN_pos l.length (l.getD 0 0).toNat (l.getD 1 0).toNat (l.getD 2 0).toNat (l.getD 3 0).toNat; omega)
theorem rawL_f9 (n : Nat) : rawL false n = rawB (n : Int) := by unfold rawL; simp only [Bool.false_eq_true, if_false]
theorem raw_lit {n : Nat} (h : rawL true n = false) : n = 10 ∨ n = 13 := by
  unfold rawL at h
  simp at h
  omega
theorem raw_lit' {n : Nat} (h : rawL true n = true) : n ≠ 10 ∧ n ≠ 13 := by
  unfold rawL at h
  simpa using h
theorem encL_snoc9 (l : List Int) (x : Int) : encL (l ++ [x]) = encL l ++ Lib.encodeRuneZ x := by unfold encL; rw [List.flatMap_append]; simp
theorem encL_len9 {w : World} {base n : Nat} {v : Value} {acc : List Int} {T : TypeId} (h : w.ownsRow base T 1 v n ((encL acc).map (Value.int .u8))) : n ≤ 4 * acc.length := by
  have h1 := h.1
  have h2 := encL_length acc
  simp at h1
  omega
theorem rune_len (x : Int) : (Lib.encodeRuneZ x).length ≤ 4 := by
  have := encL_length [x]
  simpa [encL] using this
set_option maxRecDepth 10000 in
set_option maxHeartbeats 4000000 in
theorem refInner (lit : Bool) (s : ByteArray) (k : Nat) (w : World) (hk : k ≤ s.size) (hs : s.size ≤ 1000000) :
    Calls Tryz.prog 138 #[.string s, .int .i64 k, .int .u8 (endC lit)] w (InV lit s k w) := by
  obtain ⟨q, hq⟩ : ∃ q, endC lit = q := ⟨_, rfl⟩
  have hq34 : ((q : Int) == 34) = lit := by rw [← hq]; cases lit <;> decide
  have hq62 : ((q : Int) == 62) = !lit := by rw [← hq]; cases lit <;> decide
  rw [hq]
  have Hq := Lib.hid hq
  clear hq
  go_enter Tryz.func138, Tryz.ntmps138
  go_wp2
  go_loopw [8, 9] (InVL lit s k w) (fun _ i _ => s.size - (intOf i).toNat)
  case atStart => exact ⟨k, 0, [], by omega, hk, by simp, rfl, by simpa [encL] using World.ownsRow_nil _ _ _ _, Below.refl _ _, by rw [Nat.sub_self]; exact inRest_start _ _⟩
  case round =>
    obtain ⟨p, n, acc, hkp, hp, had, rfl, own, hB, HI⟩ := hrel
    have hn4 := encL_len9 own
    have Own := Lib.hid own
    have HB := Lib.hid hB
    have hdr : (from_ s k).drop (p - k) = from_ s p := by rw [← from_drop]; congr 1; omega
    have Hdr := Lib.hid hdr
    have hfl := from_len s p
    have hfk := from_len s k
    have hb0 : bn s p = c0 (from_ s p) := (bn_from s p 0).symm
    clear own hB hdr
    by_cases hlt : p < s.size
    · have hd1 : decide (p < s.size) = true := by simp; omega
      have hpe : ((p : Int) == (s.size : Int)) = false := by simp; omega
      have hpe2 : (p == s.size) = false := by simp; omega
      by_cases hend : bn s p = q
      · have h1 : ((bn s p : Int) != (q : Int)) = false := by rw [hend]; simp
        have h2 : (bn s p != q) = false := by rw [hend]; simp
        have Hres : Hid (inV (inL lit (from_ s k)) = (textS acc, p - k + 1)) := by
          show _ = _
          rw [inRest_end HI.out (by omega) (by rw [Hdr.out, ← hb0, hend, Hq.out])]; rfl
        obtain ⟨A', c', rfl⟩ := own_form Own.out
        have hcv := run_conv_bytes (P := Tryz.prog) (c := c') 67 9 5 Tryz.underlying67 Tryz.underlying5 Tryz.underlying9 (Rd.of_own Own.out) (by simpa using Own.out.1)
        rw [show strOfNums (encL acc) = textS acc from rfl] at hcv
        have hm : (p : Int) + 1 - (k : Int) = ((p - k + 1 : Nat) : Int) := by omega
        have Hm := Lib.hid hm
        clear hend hb0 hfl hfk hm
        go_wp2
        go_ret2
        exact ⟨by rw [Hres.out, ← Hm.out]; rfl, HB.out⟩
      · have h1 : ((bn s p : Int) != (q : Int)) = true := by simp; omega
        have h2 : (bn s p != q) = true := by simp [hend]
        have hne : c0 (from_ s p) ≠ endC lit := by rw [← hb0, Hq.out]; exact hend
        have he := fun W => refEscape lit s p W hlt hs
        have hnx := fun W => refNext s p W hlt (Nat.le_trans hs (by decide))
        have H0 : Hid ((from_ s p).length ≠ 0) := by show _ ≠ _; omega
        have Hne := Lib.hid hne
        have Hlk : Hid (p - k < (from_ s k).length) := by show _ < _; omega
        have hgo : (signL lit (from_ s p)).2 ≠ 0 → inRest lit (from_ s k) (p + (signL lit (from_ s p)).2 - k) (acc ++ [((signL lit (from_ s p)).1 : Int)]) := fun h => by
          have := inRest_go HI.out Hlk.out (by rw [Hdr.out]; exact hne) (by rw [Hdr.out]; exact h)
          rw [Hdr.out] at this
          rwa [show p + (signL lit (from_ s p)).2 - k = p - k + (signL lit (from_ s p)).2 by omega]
        have hno : (signL lit (from_ s p)).2 = 0 → inV (inL lit (from_ s k)) = (⟨#[]⟩, 0) := fun h => by
          rw [inRest_none HI.out (by rw [Hdr.out]; exact inL_bad H0.out hne h)]; rfl
        have hsp := fun h => signL_spec (lit := lit) (l := from_ s p) h
        unfold EscV at he
        clear hend hne hfk
        by_cases h92 : c0 (from_ s p) = 92
        · have hsl : signL lit (from_ s p) = escL lit (from_ s p) := by unfold signL; rw [if_pos h92]
          have her : escR lit (from_ s p) = escL lit (from_ s p) := by unfold escR; rw [if_pos h92]
          rw [hsl] at hgo hno hsp
          rw [her] at he
          have hn92 : nx (from_ s p) = (92, 1) := by rw [nx_low (by omega) (by omega), h92]
          rw [hn92] at hnx
          generalize escL lit (from_ s p) = z at *
          obtain ⟨x, m⟩ := z
          simp only at hgo hno he hsp
          clear hsl her hn92 h92 hb0
          by_cases hm : m = 0
          · subst hm
            have Hres := Lib.hid (hno rfl)
            clear hgo hno hsp hfl
            cases lit
            · have hr := fun W => refRaw 92 W
              rw [show rawB 92 = false by decide] at hr
              go_wp2_with (first
                | (go_at_call 164; refine (he _).mono ?_; rintro e w5 ⟨rfl, hb5⟩; have HB5 := Lib.hid (below_tr HB.out hb5); clear hb5)
                | (go_at_call 137; refine (hnx _).mono ?_; rintro e w6 ⟨rfl, hb6⟩; have HB6 := Lib.hid (below_tr HB5.out hb6); clear hb6)
                | (go_at_call 165; refine (hr _).mono ?_; rintro e w7 ⟨rfl, rfl⟩))
              go_ret2
              exact ⟨by rw [Hres.out]; rfl, HB6.out⟩
            · go_wp2_with (first
                | (go_at_call 164; refine (he _).mono ?_; rintro e w5 ⟨rfl, hb5⟩; have HB5 := Lib.hid (below_tr HB.out hb5); clear hb5)
                | (go_at_call 137; refine (hnx _).mono ?_; rintro e w6 ⟨rfl, hb6⟩; have HB6 := Lib.hid (below_tr HB5.out hb6); clear hb6))
              go_ret2
              exact ⟨by rw [Hres.out]; rfl, HB6.out⟩
          · obtain ⟨s1, s2, _⟩ := hsp hm
            rw [hfl] at s1
            have HI2 := Lib.hid (hgo hm)
            have hby := fun W => refBytesRd (x : Int) W s2
            have hrl := rune_len (x : Int)
            have hme : ((m : Int) == 0) = false := by simp; omega
            have hgap : p + m ≤ s.size := by omega
            clear hgo hno hsp hfl s2
            go_wp2_with (first
              | (go_at_call 164; refine (he _).mono ?_; rintro e w5 ⟨rfl, hb5⟩; have HB5 := Lib.hid (below_tr HB.out hb5); have Own5 := Lib.hid (own_below Own.out hb5 (Nat.le_refl _)); clear hb5)
              | (go_at_call 163; refine (hby _).mono ?_; rintro e w7 ⟨g, rfl, hb7, hr7⟩; have Own7 := Lib.hid (own_below Own5.out hb7 (Nat.le_refl _)); have HB7 := Lib.hid (below_tr HB5.out hb7); have hz7 := HB7.out.size; clear hb7)
              | (at_builtin; refine wpList_app (m := (Lib.encodeRuneZ (x : Int)).length) rfl rfl Tryz.underlying67 uint8Info9 rfl (by omega) rfl Own7.out rfl hr7 (by simp) (ints_oneCell _ _) (by omega) (by omega) hz7 ?_; intro v8 w8 own8 hb8))
            have HBN : Hid (Below w.heap.size w w8) := HB7.out.trans hb8
            go_roundw
            case rel =>
              refine ⟨p + m, n + (Lib.encodeRuneZ (x : Int)).length, acc ++ [(x : Int)], by omega, by omega, by simp; omega, by go_num, ?_, HBN.out, HI2⟩
              rw [encL_snoc9, List.map_append]; exact own8
            case measure => simp [intOf]; omega
        · have hes : escR lit (from_ s p) = (0, 0) := by unfold escR; rw [if_neg h92]
          rw [hes] at he
          have hsl : signL lit (from_ s p) = if (nx (from_ s p)).2 = 0 ∨ rawL lit (nx (from_ s p)).1 = false then (0, 0) else nx (from_ s p) := by unfold signL; rw [if_neg h92]
          rw [hsl] at hgo hno hsp
          by_cases hm : (nx (from_ s p)).2 = 0
          · have hz := nx_zero hm
            rw [hz] at hnx
            have Hres := Lib.hid (hno (by rw [if_pos (.inl hm)]))
            clear hgo hno hsp hfl hsl hm hz hes h92 hb0
            cases lit
            · have hr := fun W => refRaw 0 W
              rw [show rawB 0 = false by decide] at hr
              go_wp2_with (first
                | (go_at_call 164; refine (he _).mono ?_; rintro e w5 ⟨rfl, hb5⟩; have HB5 := Lib.hid (below_tr HB.out hb5); have Own5 := Lib.hid (own_below Own.out hb5 (Nat.le_refl _)); clear hb5)
                | (go_at_call 137; refine (hnx _).mono ?_; rintro e w6 ⟨rfl, hb6⟩; have HB6 := Lib.hid (below_tr HB5.out hb6); have Own6 := Lib.hid (own_below Own5.out hb6 (Nat.le_refl _)); clear hb6)
                | (go_at_call 165; refine (hr _).mono ?_; rintro e w9 ⟨rfl, rfl⟩))
              go_ret2
              exact ⟨by rw [Hres.out]; rfl, HB6.out⟩
            · go_wp2_with (first
                | (go_at_call 164; refine (he _).mono ?_; rintro e w5 ⟨rfl, hb5⟩; have HB5 := Lib.hid (below_tr HB.out hb5); have Own5 := Lib.hid (own_below Own.out hb5 (Nat.le_refl _)); clear hb5)
                | (go_at_call 137; refine (hnx _).mono ?_; rintro e w6 ⟨rfl, hb6⟩; have HB6 := Lib.hid (below_tr HB5.out hb6); have Own6 := Lib.hid (own_below Own5.out hb6 (Nat.le_refl _)); clear hb6))
              go_ret2
              exact ⟨by rw [Hres.out]; rfl, HB6.out⟩
          · have hst := nx_step s p hm
            have hx92 := nx_92 hm
            obtain ⟨x, hx⟩ : ∃ x, (nx (from_ s p)).1 = x := ⟨_, rfl⟩
            obtain ⟨m, hmm⟩ : ∃ m, (nx (from_ s p)).2 = m := ⟨_, rfl⟩
            have hxm : nx (from_ s p) = (x, m) := Prod.ext hx hmm
            rw [hxm] at hnx hgo hno hsp hst
            have hm0 : m ≠ 0 := by rw [← hmm]; exact hm
            have hx92 : x ≠ 92 := by rw [hx] at hx92; exact fun h => h92 (hx92.1 h)
            simp only at hnx hgo hno hsp hst
            obtain ⟨g1, g2, g3⟩ := hst
            have hme : ((m : Int) == 0) = false := by simp; omega
            clear hx hmm hxm hm hes hsl h92 hb0 hfl
            cases hraw : rawL lit x
            · have Hres := Lib.hid (hno (by rw [if_pos (.inr hraw)]))
              clear hno hgo hsp
              cases lit
              · have hr := fun W => refRaw (x : Int) W
                rw [← rawL_f9, hraw] at hr
                clear hraw
                go_wp2_with (first
                  | (go_at_call 164; refine (he _).mono ?_; rintro e w5 ⟨rfl, hb5⟩; have HB5 := Lib.hid (below_tr HB.out hb5); have Own5 := Lib.hid (own_below Own.out hb5 (Nat.le_refl _)); clear hb5)
                  | (go_at_call 137; refine (hnx _).mono ?_; rintro e w6 ⟨rfl, hb6⟩; have HB6 := Lib.hid (below_tr HB5.out hb6); have Own6 := Lib.hid (own_below Own5.out hb6 (Nat.le_refl _)); clear hb6)
                  | (go_at_call 165; refine (hr _).mono ?_; rintro e w9 ⟨rfl, rfl⟩))
                go_ret2
                exact ⟨by rw [Hres.out]; rfl, HB6.out⟩
              · rcases raw_lit hraw with rfl | rfl
                all_goals
                  clear hraw
                  go_wp2_with (first
                    | (go_at_call 164; refine (he _).mono ?_; rintro e w5 ⟨rfl, hb5⟩; have HB5 := Lib.hid (below_tr HB.out hb5); have Own5 := Lib.hid (own_below Own.out hb5 (Nat.le_refl _)); clear hb5)
                    | (go_at_call 137; refine (hnx _).mono ?_; rintro e w6 ⟨rfl, hb6⟩; have HB6 := Lib.hid (below_tr HB5.out hb6); have Own6 := Lib.hid (own_below Own5.out hb6 (Nat.le_refl _)); clear hb6))
                  go_ret2
                  exact ⟨by rw [Hres.out]; rfl, HB6.out⟩
            · have hif : (if m = 0 ∨ rawL lit x = false then ((0, 0) : Nat × Nat) else (x, m)) = (x, m) := by rw [if_neg]; rintro (h | h); exact hm0 h; rw [hraw] at h; cases h
              rw [hif] at hgo hsp
              obtain ⟨_, s2, _⟩ := hsp hm0
              have HI2 := Lib.hid (hgo hm0)
              have hby := fun W => refBytesRd (x : Int) W s2
              have hrl := rune_len (x : Int)
              have hgap : p + m ≤ s.size := g1
              clear hno hgo hsp s2 hif
              cases lit
              · have hr := fun W => refRaw (x : Int) W
                rw [← rawL_f9, hraw] at hr
                clear hraw
                go_wp2_with (first
                  | (go_at_call 164; refine (he _).mono ?_; rintro e w5 ⟨rfl, hb5⟩; have HB5 := Lib.hid (below_tr HB.out hb5); have Own5 := Lib.hid (own_below Own.out hb5 (Nat.le_refl _)); clear hb5)
                  | (go_at_call 137; refine (hnx _).mono ?_; rintro e w6 ⟨rfl, hb6⟩; have HB6 := Lib.hid (below_tr HB5.out hb6); have Own6 := Lib.hid (own_below Own5.out hb6 (Nat.le_refl _)); clear hb6)
                  | (go_at_call 165; refine (hr _).mono ?_; rintro e w9 ⟨rfl, rfl⟩)
                  | (go_at_call 163; refine (hby _).mono ?_; rintro e w7 ⟨g, rfl, hb7, hr7⟩; have Own7 := Lib.hid (own_below Own6.out hb7 (Nat.le_refl _)); have HB7 := Lib.hid (below_tr HB6.out hb7); have hz7 := HB7.out.size; clear hb7)
                  | (at_builtin; refine wpList_app (m := (Lib.encodeRuneZ (x : Int)).length) rfl rfl Tryz.underlying67 uint8Info9 rfl (by omega) rfl Own7.out rfl hr7 (by simp) (ints_oneCell _ _) (by omega) (by omega) hz7 ?_; intro v8 w8 own8 hb8))
                have HBN : Hid (Below w.heap.size w w8) := HB7.out.trans hb8
                go_roundw
                case rel =>
                  refine ⟨p + m, n + (Lib.encodeRuneZ (x : Int)).length, acc ++ [(x : Int)], by omega, by omega, by simp; omega, by go_num, ?_, HBN.out, HI2⟩
                  rw [encL_snoc9, List.map_append]; exact own8
                case measure => simp [intOf]; omega
              · obtain ⟨r10, r13⟩ := raw_lit' hraw
                have e92 : ((x : Int) != 92) = true := by simp; omega
                have e10 : ((x : Int) != 10) = true := by simp; omega
                have e13 : ((x : Int) != 13) = true := by simp; omega
                clear hraw r10 r13
                go_wp2_with (first
                  | (go_at_call 164; refine (he _).mono ?_; rintro e w5 ⟨rfl, hb5⟩; have HB5 := Lib.hid (below_tr HB.out hb5); have Own5 := Lib.hid (own_below Own.out hb5 (Nat.le_refl _)); clear hb5)
                  | (go_at_call 137; refine (hnx _).mono ?_; rintro e w6 ⟨rfl, hb6⟩; have HB6 := Lib.hid (below_tr HB5.out hb6); have Own6 := Lib.hid (own_below Own5.out hb6 (Nat.le_refl _)); clear hb6)
                  | (go_at_call 163; refine (hby _).mono ?_; rintro e w7 ⟨g, rfl, hb7, hr7⟩; have Own7 := Lib.hid (own_below Own6.out hb7 (Nat.le_refl _)); have HB7 := Lib.hid (below_tr HB6.out hb7); have hz7 := HB7.out.size; clear hb7)
                  | (at_builtin; refine wpList_app (m := (Lib.encodeRuneZ (x : Int)).length) rfl rfl Tryz.underlying67 uint8Info9 rfl (by omega) rfl Own7.out rfl hr7 (by simp) (ints_oneCell _ _) (by omega) (by omega) hz7 ?_; intro v8 w8 own8 hb8))
                have HBN : Hid (Below w.heap.size w w8) := HB7.out.trans hb8
                go_roundw
                case rel =>
                  refine ⟨p + m, n + (Lib.encodeRuneZ (x : Int)).length, acc ++ [(x : Int)], by omega, by omega, by simp; omega, by go_num, ?_, HBN.out, HI2⟩
                  rw [encL_snoc9, List.map_append]; exact own8
                case measure => simp [intOf]; omega
    · have hd1 : decide (p < s.size) = false := by simp; omega
      have hpp : p = s.size := by omega
      have hpe : ((p : Int) == (s.size : Int)) = true := by simp; omega
      have hpe2 : (p == s.size) = true := by simp; omega
      have Hres : Hid (inV (inL lit (from_ s k)) = (⟨#[]⟩, 0)) := by
        show _ = _
        rw [inRest_none HI.out (by rw [Hdr.out]; exact inL_nil (by omega))]; rfl
      clear hb0 hfl hfk hpp
      go_wp2
      go_ret2
      exact ⟨by rw [Hres.out]; rfl, HB.out⟩
end Go.Proofs.YtffpgandgajihaaGreatDoor
