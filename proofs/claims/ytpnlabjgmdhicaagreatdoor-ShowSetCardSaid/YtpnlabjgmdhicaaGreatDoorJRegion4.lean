/- The answer for lex (ossuaryref09): hex, escape. Printed by gen/r9b.py. The program's package lex, walked: inner. The answer for utf (ossuaryref07): Raw. The answer for lex (ossuaryref09): inner. The answer for lex (ossuaryref09): token. Printed by gen/r9d.py. A region that draws its order, whose last operation (a store) stands behind all others by its edges: that one may write to whatever block. -/
import Derived.Test.YtpnlabjgmdhicaaGreatDoorJUtfRef3
import Derived.Deep.CutRange
import Derived.Test.YtpnlabjgmdhicaaGreatDoorJUtfRef
import Derived.Test.YtpnlabjgmdhicaaGreatDoorJUtfNext
import Derived.Test.YtpnlabjgmdhicaaGreatDoorJMem
namespace Go.Proofs.YtpnlabjgmdhicaaGreatDoor
open Go Go.RowKit Um Lx

end Go.Proofs.YtpnlabjgmdhicaaGreatDoor
namespace Go.Proofs.YtpnlabjgmdhicaaGreatDoor
open Go Go.RowKit Um Lx

def endB (lit : Bool) : ByteArray := if lit then ⟨#[34]⟩ else ⟨#[62]⟩
theorem encL_snoc (l : List Int) (x : Int) : encL (l ++ [x]) = encL l ++ Lib.encodeRuneZ x := by unfold encL; rw [List.flatMap_append]; simp
theorem eat_end (lit : Bool) (s : ByteArray) (k : Nat) : preB (endB lit) s k = decide (c0 (from_ s k) = endC lit) := by
  unfold preB
  cases lit
  · exact pre1 (a := 62) (by decide) _
  · exact pre1 (a := 34) (by decide) _
theorem nx_92 {l : List UInt8} (h0 : (nx l).2 ≠ 0) : (nx l).1 = 92 ↔ c0 l = 92 := by
  constructor
  · intro h
    obtain ⟨h1, h2, h3, _⟩ := nx_enc l h0
    rw [h] at h3
    have h4 : (l.take (nx l).2).getD 0 0 = 92 := by rw [h3]; decide
    rw [take_getD _ _ _ (by omega)] at h4
    unfold c0
    rw [h4]; rfl
  · intro h
    rw [nx_low (l := l) (by have := c0_len (l := l) (by omega); omega) (by omega)]
    exact h
/-- What inner makes of a reader. -/
def InR (w0 : World) (b : Nat) (s : ByteArray) (k : Nat) : Option (List Int × Nat) → Ending → World → Prop
  | some (ns, m), e, w' => e = .returned (.bool true) ∧ RI w0 b s (k + m) (encL ns) w'
  | none, e, w' => e = .returned (.bool false) ∧ Failed w0 b s w'
def InL (w0 : World) (b : Nat) (s : ByteArray) (k : Nat) (lit : Bool) (_v : Value) (wr : World) : Prop :=
  ∃ (d : Nat) (acc : List Int), k + d ≤ s.size ∧ acc.length ≤ d ∧ vld (from_ s (k + d)) ∧ RI w0 b s (k + d) (encL acc) wr ∧ inRest lit (from_ s k) d acc
theorem decodeGo_at (s : ByteArray) (k : Nat) (hk : k ≤ s.size) (h : (nx (from_ s k)).2 ≠ 0) : Lib.decodeGo (s.extract k s.size) = nx (from_ s k) := by
  have h1 := decodeGo_nx s k hk
  split at h1
  · rw [← h1] at h; exact absurd rfl h
  · exact h1
theorem decodeGo_end (s : ByteArray) (k : Nat) (hk : k = s.size) : Lib.decodeGo (s.extract k s.size) = (65533, 0) := by
  have hz : (s.extract k s.size).size = 0 := by simp [ByteArray.size_extract]; omega
  unfold Lib.decodeGo
  rw [if_pos hz]
theorem raw_val (n : Nat) (lit : Bool) (l : List UInt8) (h92 : c0 l ≠ 92) (hn : (nx l).2 ≠ 0) (h1 : (nx l).1 = n) : (rawL lit n = true → signL lit l = nx l) ∧ (rawL lit n = false → (signL lit l).2 = 0) := by
  subst h1
  unfold signL
  rw [if_neg h92]
  constructor
  · intro h; rw [if_neg]; rintro (h2 | h2); exact hn h2; rw [h] at h2; cases h2
  · intro h; rw [if_pos (.inr h)]
set_option maxRecDepth 10000 in
set_option maxHeartbeats 4000000 in
theorem lexInner (lit : Bool) (F : Nat) (eg : ∀ args W, (callFunc F args).run Tryz.prog W = .ok (.enter F args) W)
    (hF : ∀ (n : Nat) W, n ≤ 1114111 → Ctx W → Calls Tryz.prog F #[.int .i32 n] W fun e w' => e = .returned (.bool (rawL lit n)) ∧ Below W.heap.size W w')
    (s : ByteArray) (k b : Nat) (w0 w : World) (h : RI w0 b s k [] w) (hk : k ≤ s.size) (hs : s.size ≤ 1000000) (hv : vld (from_ s k)) :
    Calls Tryz.prog 141 #[.pointer (some ⟨b, 0, none⟩), .string (endB lit), .func (.func F) #[] #[]] w (InR w0 b s k (inL lit (from_ s k))) := by
  have hsz : s.data.toList.length = s.size := size_toList s
  have Hsz := Lib.hid hsz
  clear hsz
  have H := Lib.hid h
  have HV := Lib.hid hv
  clear h hv
  go_enter Tryz.func141, Tryz.ntmps141
  go_wp2
  go_loopw [7] (InL w0 b s k lit) (fun _ wr => s.size - (intOf ((wr.cell? ⟨b, 1, none⟩).getD undef)).toNat)
  case atStart => exact ⟨0, [], by simpa using hk, by simp, by simpa using HV.out, by simpa [encL] using H.out, inRest_start _ _⟩
  case round =>
    obtain ⟨d, acc, hkd, had, hv, hR, hI⟩ := hrel
    have hme : (intOf ((wr.cell? ⟨b, 1, none⟩).getD undef)).toNat = k + d := by rw [hR.c1]; simp [intOf]; omega
    have Hme := Lib.hid hme
    have HR := Lib.hid hR
    have HI := Lib.hid hI
    have hdr : (from_ s k).drop d = from_ s (k + d) := (from_drop s k d).symm
    have Hdr := Lib.hid hdr
    have hfl := from_len s (k + d)
    have he := lexEat (endB lit) s (k + d) b (encL acc) w0 wr hR hkd hs (by cases lit <;> decide)
    unfold EatR eatK at he
    rw [eat_end] at he
    have hxl : (encL acc).length ≤ 4000000 := by have := encL_length acc; omega
    clear hme hR hI H hdr
    by_cases hend : c0 (from_ s (k + d)) = endC lit
    · rw [decide_eq_true hend] at he
      have hlt : d < (from_ s k).length := by
        have h0 : 0 < (from_ s (k + d)).length := c0_len (by rw [hend]; cases lit <;> decide)
        rw [from_len] at h0 ⊢
        omega
      have Hin : Hid (inL lit (from_ s k) = some (acc, d + 1)) := by show _ = _; exact inRest_end HI.out hlt (by rw [Hdr.out]; exact hend)
      clear hend hlt hfl
      go_wp2_with (go_at_call 102; refine he.mono ?_; rintro e w1 ⟨rfl, H1⟩; have H1 := Lib.hid H1)
      go_ret
      rw [Hin.out]
      refine ⟨rfl, ?_⟩
      have := H1.out
      have hz : (endB lit).size = 1 := by cases lit <;> rfl
      simp only [if_true, hz] at this
      rwa [Nat.add_assoc] at this
    · rw [decide_eq_false hend] at he
      have hr := fun W (hW : RI w0 b s (k + d) (encL acc) W) => lexRest s (k + d) b W hW.c0 hW.c1 hkd
      by_cases hlt : k + d < s.size
      · have h0 : (from_ s (k + d)).length ≠ 0 := by omega
        obtain ⟨hn2, hvn⟩ := vld_nx hv h0
        have hdg := decodeGo_at s (k + d) hkd hn2
        obtain ⟨r, hrr⟩ : ∃ r, s.extract (k + d) s.size = r := ⟨_, rfl⟩
        simp only [hrr] at hr
        rw [hrr] at hdg
        have hdec := fun W (hW : RI w0 b s (k + d) (encL acc) W) => Tryz.utf8_DecodeRuneInString r W hW.ctx.tabs
        rw [hdg] at hdec
        have hst := nx_step s (k + d) hn2
        have h92 := nx_92 hn2
        have Hn2 := Lib.hid hn2
        have Hnn : Hid ((nx (from_ s (k + d))).1 = (nx (from_ s (k + d))).1 ∧ (nx (from_ s (k + d))).2 = (nx (from_ s (k + d))).2) := Lib.hid ⟨rfl, rfl⟩
        obtain ⟨n, hnn⟩ : ∃ n, (nx (from_ s (k + d))).1 = n := ⟨_, rfl⟩
        obtain ⟨m, hmm⟩ : ∃ m, (nx (from_ s (k + d))).2 = m := ⟨_, rfl⟩
        rw [hnn, hmm] at hdec
        rw [hnn] at h92
        obtain ⟨hs1, hs2, hs3⟩ := hst
        rw [hmm] at hs1 hs2
        rw [hnn] at hs3
        have hm0 : m ≠ 0 := by rw [← hmm]; exact hn2
        have Hvn := Lib.hid hvn
        have Hnm := Lib.hid (And.intro hnn hmm)
        have Hend := Lib.hid hend
        have Hv := Lib.hid hv
        clear hrr hdg hn2 hvn hnn hmm hend hv h0 hfl Hnn
        have hdm : ((m : Int) == 0) = false := by simp; omega
        have Hlt : Hid (d < (from_ s k).length) := by show d < _; rw [from_len]; omega
        by_cases hc92 : c0 (from_ s (k + d)) = 92
        · have hn92 : n = 92 := h92.2 hc92
          subst hn92
          have Hc := Lib.hid hc92
          have hes := fun W (hW : RI w0 b s (k + d) (encL acc) W) => lexEscape lit s (k + d) b (encL acc) hxl w0 W hW hlt hs hc92
          have hsg : Hid (signL lit (from_ s (k + d)) = escL lit (from_ s (k + d))) := by show _ = _; unfold signL; rw [if_pos hc92]
          clear h92 hc92
          have hq : ((endB lit).toList == [34]) = lit := by rw [show (endB lit).toList = (endB lit).data.toList by cases h : endB lit; rw [ByteArray.toList_mk]]; cases lit <;> decide
          go_wp2_with fail
          refine he.mono ?_
          rintro e w1 ⟨rfl, H1⟩
          have H1 := Lib.hid H1
          go_wp2_with fail
          refine (hr w1 H1.out).mono ?_
          rintro e w2 ⟨rfl, hb2⟩
          have H2 := Lib.hid (H1.out.step hb2)
          clear hb2
          go_wp2_with fail
          refine (hdec w2 H2.out).mono ?_
          rintro e w3 ⟨rfl, hb3⟩
          have H3 := Lib.hid (H2.out.step hb3)
          clear hb3
          go_wp2_with fail
          refine (hes w3 H3.out).mono ?_
          intro e w4 h4
          rcases h4 with ⟨hz, rfl, hF4⟩ | ⟨hnz, rfl, H4⟩
          · have Hin : Hid (inL lit (from_ s k) = none) := by
              show _ = _
              refine inRest_none HI.out ?_
              rw [Hdr.out]
              exact inL_bad (by rw [from_len]; omega) Hend.out (by rw [hsg.out]; exact hz)
            have HF4 := Lib.hid hF4
            clear hz hF4
            go_wp2
            go_ret
            rw [Hin.out]
            exact ⟨rfl, HF4.out⟩
          · have hI2 : inRest lit (from_ s k) (d + (signL lit (from_ s (k + d))).2) (acc ++ [((signL lit (from_ s (k + d))).1 : Int)]) := by
              have := inRest_go HI.out Hlt.out (by rw [Hdr.out]; exact Hend.out) (by rw [Hdr.out, hsg.out]; exact hnz)
              rwa [Hdr.out] at this
            have hsp := signL_spec (lit := lit) (l := from_ s (k + d)) (by rw [hsg.out]; exact hnz)
            rw [hsg.out] at hI2 hsp
            obtain ⟨hp1, hp2, hp3⟩ := hsp
            rw [from_len] at hp1
            have hv3 := hp3 Hv.out
            rw [← from_drop] at hv3
            rw [Nat.add_assoc, ← encL_snoc] at H4
            rw [Nat.add_assoc] at hv3
            generalize escL lit (from_ s (k + d)) = q at *
            obtain ⟨q1, q2⟩ := q
            simp only at hI2 hp1 hnz hv3 H4
            have HI2 := Lib.hid hI2
            have HV3 := Lib.hid hv3
            have H4 := Lib.hid H4
            clear hI2 hv3 hp2 hp3
            go_wp2
            go_roundw
            case rel => exact ⟨d + q2, acc ++ [(q1 : Int)], by omega, by simp; omega, HV3.out, H4.out, HI2.out⟩
            case measure =>
              have hme2 : (intOf ((w4.cell? ⟨b, 1, none⟩).getD undef)).toNat = k + (d + q2) := by rw [H4.out.c1]; simp [intOf]; omega
              have hme1 := Hme.out
              omega
        · have hn92 : n ≠ 92 := fun h => hc92 (h92.1 h)
          have hrv := raw_val n lit _ hc92 Hn2.out Hnm.out.1
          have h92b : ((n : Int) == 92) = false := by simp; omega
          have Hn92 := Lib.hid hn92
          have hFn := fun W (hW : RI w0 b s (k + d) (encL acc) W) => hF n W hs3 hW.ctx
          clear h92 hc92 hn92
          cases hraw : rawL lit n
          · have hz := hrv.2 hraw
            rw [hraw] at hFn
            have Hin : Hid (inL lit (from_ s k) = none) := by
              show _ = _
              refine inRest_none HI.out ?_
              rw [Hdr.out]
              exact inL_bad (by rw [from_len]; omega) Hend.out hz
            clear hrv hraw hz
            go_wp2_with fail
            refine he.mono ?_
            rintro e w1 ⟨rfl, H1⟩
            have H1 := Lib.hid H1
            go_wp2_with fail
            refine (hr w1 H1.out).mono ?_
            rintro e w2 ⟨rfl, hb2⟩
            have H2 := Lib.hid (H1.out.step hb2)
            clear hb2
            go_wp2_with fail
            refine (hdec w2 H2.out).mono ?_
            rintro e w3 ⟨rfl, hb3⟩
            have H3 := Lib.hid (H2.out.step hb3)
            clear hb3
            go_wp2_with (go_at_fn F; refine (hFn w3 H3.out).mono ?_; rintro e w4 ⟨rfl, hb4⟩; have H4 := Lib.hid (H3.out.step hb4); clear hb4)
            go_ret
            rw [Hin.out]
            exact ⟨rfl, _, _, H4.out⟩
          · have hsg := hrv.1 hraw
            rw [hraw] at hFn
            have hI2 : inRest lit (from_ s k) (d + m) (acc ++ [(n : Int)]) := by
              have := inRest_go HI.out Hlt.out (by rw [Hdr.out]; exact Hend.out) (by rw [Hdr.out, hsg]; exact Hn2.out)
              rw [Hdr.out, hsg, Hnm.out.1, Hnm.out.2] at this
              exact this
            have hv3 : vld (from_ s (k + (d + m))) := by
              have := Hvn.out
              rw [Hnm.out.2, ← from_drop, Nat.add_assoc] at this
              exact this
            have hput := fun W g (hW : RI w0 b s (k + d + m) (encL acc) W) hg => lexPut (n : Int) (by omega) (by omega) s (k + d + m) b (encL acc) hxl g w0 W hW hg
            have HI2 := Lib.hid hI2
            have HV3 := Lib.hid hv3
            have hk3 : k + d ≤ 1000000 := by omega
            clear hrv hraw hsg hI2 hv3
            go_wp2_with fail
            refine he.mono ?_
            rintro e w1 ⟨rfl, H1⟩
            have H1 := Lib.hid H1
            go_wp2_with fail
            refine (hr w1 H1.out).mono ?_
            rintro e w2 ⟨rfl, hb2⟩
            have H2 := Lib.hid (H1.out.step hb2)
            clear hb2
            go_wp2_with fail
            refine (hdec w2 H2.out).mono ?_
            rintro e w3 ⟨rfl, hb3⟩
            have H3 := Lib.hid (H2.out.step hb3)
            clear hb3
            go_wp2_with (go_at_fn F; refine (hFn w3 H3.out).mono ?_; rintro e w4 ⟨rfl, hb4⟩; have H4 := Lib.hid (H3.out.step hb4); clear hb4; have c1 := H4.out.c1; have f1 := H4.out.fz 1)
            have H5 := (H4.out.moveI (k' := k + d + m) (z := (k : Int) + d + m) (by omega)).step ((Below.refl _ _).alloc (Nat.le_refl _) (.cells #[.int .i32 n] 21))
            refine (hput _ _ H5 (put_cell _ _ _ _ _)).mono ?_
            rintro e w6 ⟨rfl, H6⟩
            rw [Nat.add_assoc, ← encL_snoc] at H6
            have H6 := Lib.hid H6
            go_wp2
            go_roundw
            case rel => exact ⟨d + m, acc ++ [(n : Int)], by omega, by simp; omega, HV3.out, H6.out, HI2.out⟩
            case measure =>
              have hme2 : (intOf ((w6.cell? ⟨b, 1, none⟩).getD undef)).toNat = k + (d + m) := by rw [H6.out.c1]; simp [intOf]; omega
              have hme1 := Hme.out
              omega
      · have hkk : k + d = s.size := by omega
        have hdg := decodeGo_end s (k + d) hkk
        obtain ⟨r, hrr⟩ : ∃ r, s.extract (k + d) s.size = r := ⟨_, rfl⟩
        simp only [hrr] at hr
        rw [hrr] at hdg
        have hdec := fun W (hW : RI w0 b s (k + d) (encL acc) W) => Tryz.utf8_DecodeRuneInString r W hW.ctx.tabs
        rw [hdg] at hdec
        have Hin : Hid (inL lit (from_ s k) = none) := by
          show _ = _
          refine inRest_none HI.out ?_
          rw [Hdr.out]
          exact inL_nil (by rw [from_len]; omega)
        clear hdg hrr hkk hlt hv hend hfl
        go_wp2_with fail
        refine he.mono ?_
        rintro e w1 ⟨rfl, H1⟩
        have H1 := Lib.hid H1
        go_wp2_with fail
        refine (hr w1 H1.out).mono ?_
        rintro e w2 ⟨rfl, hb2⟩
        have H2 := Lib.hid (H1.out.step hb2)
        clear hb2
        go_wp2_with fail
        refine (hdec w2 H2.out).mono ?_
        rintro e w3 ⟨rfl, hb3⟩
        have H3 := Lib.hid (H2.out.step hb3)
        clear hb3
        go_wp2
        go_ret
        rw [Hin.out]
        exact ⟨rfl, _, _, H3.out⟩
end Go.Proofs.YtpnlabjgmdhicaaGreatDoor
namespace Go.Proofs.YtpnlabjgmdhicaaGreatDoor
open Go Go.RowKit Um

theorem badS_bn : ∀ k, k < 9 → ((bn badS k : Nat) : Int) = badL.getD k 0 := by decide

theorem badL_raw : ∀ k, k < 9 → rawB (badL.getD k 0) = false := by decide

theorem refRaw (n : Int) (w : World) :
    Calls Tryz.prog 132 #[.int .i64 n] w fun e w' => e = .returned (.bool (rawB n)) ∧ w = w' := by
  have his := fun W => refIs n W
  go_enter Tryz.func132, Tryz.ntmps132
  go_wp2
  obtain ⟨S, hS⟩ : ∃ S, S = badS := ⟨_, rfl⟩
  have HS := Lib.hid hS
  change Code.wp _ _ _ ⟨#[_, _, _, .string badS, _, _, _, _, _, _, _, _, _, _, _, _, _, _, _, _, _, _, _], _⟩ _
  rw [← hS]
  clear hS
  have hsz : S.size = 9 := by rw [HS.out]; rfl
  have hs1 : S.size ≤ 9 := by omega
  have hs2 : 9 ≤ S.size := by omega
  clear hsz
  go_loop [4] (fun i => ∃ k : Nat, k ≤ 9 ∧ i = .int .i64 k ∧ Hid (∀ j, j < k → n ≠ bn S j)) (fun i => 9 - (intOf i).toNat)
  case atStart => exact ⟨0, by omega, rfl, fun j h => by omega⟩
  case round =>
    obtain ⟨k, hk, rfl, H⟩ := hrel
    by_cases hlt : k < 9
    · by_cases he : n = bn S k
      · have hb : rawB n = false := by
          have e2 := he
          rw [HS.out, badS_bn k hlt] at e2
          rw [e2]; exact badL_raw k hlt
        have Hb := Lib.hid hb
        have he1 : (n == (bn S k : Int)) = true := by simpa using he
        clear hb he
        go_wp2
        go_ret
        exact ⟨by rw [Hb.out]; rfl, rfl⟩
      · have he2 : (n == (bn S k : Int)) = false := by simpa using he
        go_wp2
        go_round
        case rel =>
          exact ⟨k+1, by omega, by go_num, fun j hj => by
            rcases Nat.lt_or_ge j k with h | h
            · exact H.out j h
            · have : j = k := by omega
              subst this; exact he⟩
        case measure => simp [intOf]; omega
    · have hk9 : 9 ≤ k := by omega
      have hn : badL.contains n = false := by
        have h9 : ∀ j, j < 9 → n ≠ badL.getD j 0 := fun j hj => by
          have := H.out j (by omega)
          rwa [HS.out, badS_bn j hj] at this
        have h0 := h9 0 (by omega); have h1 := h9 1 (by omega); have h2 := h9 2 (by omega)
        have h3 := h9 3 (by omega); have h4 := h9 4 (by omega); have h5 := h9 5 (by omega)
        have h6 := h9 6 (by omega); have h7 := h9 7 (by omega); have h8 := h9 8 (by omega)
        simp only [badL, List.getD_cons_zero, List.getD_cons_succ] at h0 h1 h2 h3 h4 h5 h6 h7 h8
        simp [badL, h0, h1, h2, h3, h4, h5, h6, h7, h8]
      have hr : rawB n = (isB n && decide (32 < n)) := by unfold rawB; rw [hn]; simp
      have Hr := Lib.hid hr
      clear hr hn H
      generalize isB n = b at his Hr
      cases b
      · go_wp2_with (go_at_call 168; refine (his _).mono ?_; rintro e w1 ⟨rfl, rfl⟩)
        go_ret
        exact ⟨by rw [Hr.out]; rfl, rfl⟩
      · go_wp2_with (go_at_call 168; refine (his _).mono ?_; rintro e w1 ⟨rfl, rfl⟩)
        go_ret
        exact ⟨by rw [Hr.out]; simp, rfl⟩
end Go.Proofs.YtpnlabjgmdhicaaGreatDoor
namespace Go.Proofs.YtpnlabjgmdhicaaGreatDoor
open Go Go.RowKit Um Lx

end Go.Proofs.YtpnlabjgmdhicaaGreatDoor
namespace Go.Proofs.YtpnlabjgmdhicaaGreatDoor
open Go Go.RowKit Um Lx

end Go.Proofs.YtpnlabjgmdhicaaGreatDoor
namespace Go.Proofs.YtpnlabjgmdhicaaGreatDoor.Rl
open Go Go.Sort Go.RowKit Rg Rh Rf

section
variable {P : Program} {ops : Array Oper}

/-- Whatever order is drawn from here on; operation L may turn older blocks. -/
def AnyL (P : Program) (ops : Array Oper) (B L : Nat) (Q : Act → World → Prop) : Nat → Array Bool → Act → World → Prop
  | 0, listed, a, w => Region.ready .any ops listed = [] ∧ Q a w
  | fuel + 1, listed, a, w => (Region.ready .any ops listed = [] → Q a w) ∧
      ∀ i ∈ Region.ready .any ops listed, wpOp P ops Bot i (fun a' W' => (i = L ∨ Below B w W') ∧ AnyL P ops B L Q fuel (listed.setIfInBounds i true) a' W') a w
theorem AnyL.sound {B L : Nat} {Q : Act → World → Prop} {Q' : Exit → Act → World → Prop} (hQ : ∀ a w, Q a w → Q' .normal a w) : ∀ (fuel : Nat) (listed : Array Bool) (a : Act) (w : World),
    AnyL P ops B L Q fuel listed a w → wpAny P .any ops Q' fuel listed a w
  | 0, _, _, _, h => ⟨h.1, hQ _ _ h.2⟩
  | fuel + 1, _, a, w, h => by
    obtain ⟨h0, h1⟩ := h
    exact ⟨fun e => hQ _ _ (h0 e), fun i hi => wpOp_bot (wpOp_mono (fun a' W' h2 => AnyL.sound hQ fuel _ a' W' h2.2) (h1 i hi))⟩

/-- L stands behind all others. -/
def lastB (ops : Array Oper) (L : Nat) : Bool := match ops[L]? with
  | none => false
  | some o => (List.range ops.size).all fun k => k == L || o.after.any fun e => Region.binds .any e && e.on == k
theorem last_spec {L : Nat} (h : lastB ops L = true) {listed : Array Bool} (hL : L ∈ Region.ready .any ops listed) {i : Nat} (hi : i ∈ Region.ready .any ops listed) : i = L := by
  obtain ⟨_, o, ho, hall⟩ := mem_ready.1 hL
  obtain ⟨h0, oi, hoi, _⟩ := mem_ready.1 hi
  unfold lastB at h
  rw [ho] at h
  simp only at h
  have hlt : i < ops.size := (Array.getElem?_eq_some_iff.1 hoi).1
  have := List.all_eq_true.1 h i (by simpa using hlt)
  rw [Bool.or_eq_true, beq_iff_eq] at this
  rcases this with e | e
  · exact e
  · obtain ⟨x, hx, hb⟩ := Array.any_eq_true'.1 e
    rw [Bool.and_eq_true, beq_iff_eq] at hb
    have h1 := hall x hx hb.1
    rw [hb.2] at h1
    rcases Nat.lt_or_ge i listed.size with h' | h'
    · simp [h'] at h0 h1; rw [h0] at h1; cases h1
    · simp [Array.getElem?_eq_none h'] at h1

theorem AnyL.first {B L : Nat} (hlast : lastB ops L = true) {Q : Act → World → Prop} {i : Nat} {oi : Oper} {v : Value} (hi : ops[i]? = some oi) (hsel : ∀ (j : Nat) (o : Oper) cs b, ops[j]? = some o → o.op ≠ .select cs b) :
    ∀ (fuel : Nat) (listed : Array Bool) (a : Act) (w : World),
      (∀ j oj, ops[j]? = some oj → j ≠ i → listed.getD j true = false → (∀ e ∈ oj.after, Region.binds .any e = true → e.on ≠ i) → oi.apart ops oj = true) →
      i ∈ Region.ready .any ops listed → YB P ops B oi v a w →
      AnyL P ops B L Q fuel (listed.setIfInBounds i true) (a.put oi.dst v) w → AnyL P ops B L Q (fuel + 1) listed a w := by
  intro fuel
  induction fuel with
  | zero =>
    intro listed a w _ hr hy H
    refine ⟨fun h => (by rw [h] at hr; cases hr), fun j hj => ?_⟩
    by_cases hji : j = i
    · subst hji; exact hy.wpOp hi ⟨.inr (Below.refl _ _), H⟩
    · have := ready_mono hj hji
      rw [H.1] at this
      cases this
  | succ fuel ih =>
    intro listed a w hfree hr hy H
    refine ⟨fun h => (by rw [h] at hr; cases hr), fun j hj => ?_⟩
    by_cases hji : j = i
    · subst hji; exact hy.wpOp hi ⟨.inr (Below.refl _ _), H⟩
    · have hjL : j ≠ L := fun e => hji (by subst e; exact (last_spec hlast hj hr).symm)
      have h1 := H.2 j (ready_mono hj hji)
      obtain ⟨hjun, oj, hoj, hall⟩ := mem_ready.1 hj
      have hnot : ∀ e ∈ oj.after, Region.binds .any e = true → e.on ≠ i := fun e he hb heq => by
        have h1 := hall e he hb
        have h0 := (mem_ready.1 hr).1
        rw [heq] at h1
        rcases Nat.lt_or_ge i listed.size with h' | h'
        · simp [h'] at h0 h1; rw [h0] at h1; cases h1
        · simp [Array.getElem?_eq_none h'] at h1
      have h2 := wpOp_putB hoj (hfree j oj hoj hji hjun hnot) (fun cs b => hsel i oi cs b hi) (fun cs b => hsel j oj cs b hoj) hy h1
      have hfree' : ∀ k ok, ops[k]? = some ok → k ≠ i → (listed.setIfInBounds j true).getD k true = false →
          (∀ e ∈ ok.after, Region.binds .any e = true → e.on ≠ i) → oi.apart ops ok = true := fun k ok hk hki hun hno => by
        refine hfree k ok hk hki ?_ hno
        by_cases hjk : j = k
        · subst hjk; exact hjun
        · rw [getD_set_ne true hjk] at hun; exact hun
      refine wpOp_mono (fun a' W' h3 => ?_) h2
      obtain ⟨hy', hb1, h4⟩ := h3
      have hb1' := hb1.resolve_left hjL
      refine ⟨hb1, ih (listed.setIfInBounds j true) a' W' hfree' (ready_mono hr (Ne.symm hji)) (hy'.later hb1') ?_⟩
      rw [Array.setIfInBounds_comm _ _ hji]
      exact h4

/-- The steps: readers (true), or one operation alone (false); then the last one. -/
def wpSteps (P : Program) (ops : Array Oper) (B : Nat) (Q : Act → World → Prop) (last : Oper) : List (Bool × List Oper) → Act → World → Prop
  | [], a, w => wpList P ops (Exit.then Q Bot) [last] a w
  | (true, l) :: r, a, w => wpQuiet P ops (ClsB B w) (fun a' => wpSteps P ops B Q last r a' w) l a
  | (false, l) :: r, a, w => wpList P ops (Exit.then (fun a' W' => Below B w W' ∧ wpSteps P ops B Q last r a' W') Bot) l a w
theorem st_quiet {B : Nat} {Q : Act → World → Prop} {last : Oper} {l : List Oper} {r : List (Bool × List Oper)} {a : Act} {w : World} (h : wpQuiet P ops (ClsB B w) (fun a' => wpSteps P ops B Q last r a' w) l a) : wpSteps P ops B Q last ((true, l) :: r) a w := h
theorem st_one {B : Nat} {Q : Act → World → Prop} {last : Oper} {l : List Oper} {r : List (Bool × List Oper)} {a : Act} {w : World} (h : wpList P ops (Exit.then (fun a' W' => Below B w W' ∧ wpSteps P ops B Q last r a' W') Bot) l a w) : wpSteps P ops B Q last ((false, l) :: r) a w := h
theorem last_step {j : Nat} {o : Oper} (ho : ops[j]? = some o) {G X : Act → World → Prop} {a : Act} {w : World}
    (h : wpList P ops (Exit.then G Bot) [o] a w) (hx : ∀ a' W', G a' W' → X a' W') : wpOp P ops Bot j X a w := by
  unfold wpOp
  simp only [ho]
  have next : ∀ a' W', wpList P ops (Exit.then G Bot) [] a' W' → X a' W' := fun a' W' hh => hx a' W' hh
  simp only [wpList] at h
  split at h
  · rename_i hw
    rw [if_pos hw]
    rcases h with h | h
    · left
      exact upon_exit (fun c a w h => h) (fun h => h) (Oper.wp_mono next h)
    · obtain ⟨_, hl⟩ := h
      obtain ⟨_, _, hf⟩ := hl
      exact hf.elim
  · rename_i hw
    rw [if_neg hw]
    exact next _ _ h
end
end Go.Proofs.YtpnlabjgmdhicaaGreatDoor.Rl
