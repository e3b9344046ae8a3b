/- Layer 9's laws, walked: blank, LexParts. -/
import Derived.Test.YtjigcembbigbnaaDoorJLaw09b
namespace Go.Proofs.YtjigcembbigbnaaDoor
open Go Go.RowKit Um Lx

theorem lawBlank9 (s : ByteArray) (w : World) (hs : s.size ≤ 1000000) (hb : ∀ i, i < s.size → blankC (bn s i)) : Calls Tryd.prog 11 #[.string s] w fun e w' => e = .returned (.bool true) ∧ w = w' := by
  have Hb := Lib.hid hb
  clear hb
  go_enter Tryd.func11, Tryd.ntmps11
  go_wp2
  go_loop [3] (fun i => ∃ k : Nat, k ≤ s.size ∧ i = .int .i64 k) (fun i => s.size - (intOf i).toNat)
  case atStart => exact ⟨0, by omega, rfl⟩
  case round =>
    obtain ⟨k, hk, rfl⟩ := hrel
    by_cases hlt : k < s.size
    · have hd : decide (k < s.size) = true := by simp; omega
      have h1 := Hb.out k hlt
      rcases h1 with h1 | h1
      · have e1 : ((bn s k : Int) != 32) = false := by rw [h1]; rfl
        clear h1
        go_wp2
        go_round
        case rel => exact ⟨k + 1, by omega, by go_num⟩
        case measure => simp [intOf]; omega
      · have e1 : ((bn s k : Int) != 32) = true := by rw [h1]; rfl
        have e2 : ((bn s k : Int) != 9) = false := by rw [h1]; rfl
        clear h1
        go_wp2
        go_round
        case rel => exact ⟨k + 1, by omega, by go_num⟩
        case measure => simp [intOf]; omega
    · have hd : decide (k < s.size) = false := by simp; omega
      go_wp2
      go_ret
      exact ⟨rfl, rfl⟩
theorem drop_take9 (l : List UInt8) (a b : Nat) : (l.drop a).take (b - a) = (l.take b).drop a := by rw [List.drop_take]
theorem lineL_ok {l : List UInt8} {ts : List Tok} (hv : vld l) (h : lnL l 0 = .ok ts) : lineL l = (ts, 0, 0) := by
  unfold lineL
  rw [show (sgn l).2.2 = true from hv, h]; rfl
theorem lineL_no {l : List UInt8} {e : Nat} (hv : vld l) (h : lnL l 0 = .error e) : lineL l = ([], e, 10) := by
  unfold lineL
  rw [show (sgn l).2.2 = true from hv, h]; rfl
theorem sigR_ok {l : List UInt8} (hv : vld l) : sigR l = ((sgn l).1, 0, 0) := by
  unfold sigR
  rw [show (sgn l).2.2 = true from hv]; rfl
/-- What Signs says, with the signs left out. -/
theorem utfSignsS (s : ByteArray) (w : World) (hC : CtxL w) (hs : s.size ≤ 1000000) : Calls Tryd.prog 10 #[.string s] w fun e w' => ∃ v, e = .returned (.tuple #[v, .int .i64 (sigR s.data.toList).2.1, .int .i64 (sigR s.data.toList).2.2]) ∧ Below w.heap.size w w' := by
  refine (utfSigns s w hC.1 hs).mono ?_
  rintro e w' ⟨v, n, rfl, _, hb⟩
  exact ⟨v, rfl, hb⟩
theorem tok_size {l : List UInt8} {p : Nat} {t : Tok} {r : List Tok} (h : lnL l p = .ok (t :: r)) : t.x.size ≤ 4 * l.length := by
  obtain ⟨m, _, h2, _, _⟩ := lnL_cons l p t r h
  have hs := tkL_spec h2
  have h3 := hs.2.1
  have h4 := hs.2.2.2.2.2.1
  rw [List.length_drop] at h3
  omega
set_option maxRecDepth 10000 in
set_option maxHeartbeats 8000000 in
theorem lawLexParts (s : ByteArray) (w : World) (hC : CtxL w) (_hz : s.size ≤ 281474976710656) : Calls Tryd.prog 5 #[.string s] w fun e w' => e = .returned (.bool true) ∧ Below w.heap.size w w' := by
  have ha := lawAwake9 w hC
  have HC := Lib.hid hC
  clear hC
  by_cases hs : s.size ≤ 3000
  · have hd : decide ((3000 : Int) < s.size) = false := by simp; omega
    have hl := size_toList s
    have Hl := Lib.hid hl
    have hln := fun W (hW : CtxL W) => lexLineS s W hW (by omega)
    have hsg := fun W (hW : CtxL W) => utfSignsS s W hW (by omega)
    cases hv : (sgn s.data.toList).2.2
    · have hsr : sigR s.data.toList = ([], (sgn s.data.toList).2.1, 11) := by unfold sigR; rw [hv]; rfl
      have hli : lineL s.data.toList = ([], (sgn s.data.toList).2.1, 11) := by unfold lineL; rw [hv]; rfl
      unfold LineS at hln
      rw [hli] at hln
      rw [hsr] at hsg
      clear hv hsr hli hl
      generalize (sgn s.data.toList).2.1 = p at *
      go_enter Tryd.func5, Tryd.ntmps5
      go_wp2_with fail
      refine ha.mono ?_
      rintro e w1 ⟨rfl, hb1⟩
      have HC1 := Lib.hid (HC.out.step hb1)
      go_wp2_with fail
      refine (hln w1 HC1.out).mono ?_
      rintro e w2 ⟨A2, c2, rfl, hc2, hr2, hb2⟩
      have HC2 := Lib.hid (HC1.out.step hb2)
      have HB2 := Lib.hid (below_tr hb1 hb2)
      clear hr2 hb1 hb2
      simp only [List.length_nil] at hc2
      go_wp2_with fail
      refine (hsg w2 HC2.out).mono ?_
      rintro e w3 ⟨v3, rfl, hb3⟩
      go_wp2
      go_ret
      exact ⟨rfl, below_tr HB2.out hb3⟩
    · have hvl : vld s.data.toList := hv
      have hsr := sigR_ok hvl
      rw [hsr] at hsg
      cases hll : lnL s.data.toList 0 with
      | error e =>
        have hli := lineL_no hvl hll
        obtain ⟨a, h1, h2, h3, ⟨ts, h4, h5⟩, h6⟩ := lnL_err _ _ _ hll
        rw [Nat.zero_add] at h1
        obtain rfl : a = e := h1.symm
        rw [hl] at h2
        have k1 : (s.extract 0 a).data.toList = s.data.toList.take a := by rw [extract_toList]; simp
        have k2 : (s.extract a s.size).data.toList = s.data.toList.drop a := by rw [extract_toList, List.take_of_length_le]; simp
        have hl1 := fun W (hW : CtxL W) => lexLineS (s.extract 0 a) W hW (by rw [ByteArray.size_extract]; omega)
        have hl2 := fun W (hW : CtxL W) => lexLineS (s.extract a s.size) W hW (by rw [ByteArray.size_extract]; omega)
        unfold LineS at hln hl1 hl2
        rw [hli] at hln
        rw [k1, lineL_ok (h6 hvl).1 h4] at hl1
        rw [k2, lineL_no (h6 hvl).2 h3] at hl2
        have hle : decide (ts.length ≤ a) = true := by simp; omega
        obtain ⟨M, hM⟩ : ∃ M, ts.length = M := ⟨_, rfl⟩
        simp only [hM] at hl1 hle
        have h5' : M ≤ a := by omega
        clear hli k1 k2 h3 h4 h5 h6 hM hv hvl hsr hll hl
        go_enter Tryd.func5, Tryd.ntmps5
        go_wp2_with fail
        refine ha.mono ?_
        rintro e w1 ⟨rfl, hb1⟩
        have HC1 := Lib.hid (HC.out.step hb1)
        go_wp2_with fail
        refine (hln w1 HC1.out).mono ?_
        rintro e w2 ⟨A2, c2, rfl, hc2, hr2, hb2⟩
        have HC2 := Lib.hid (HC1.out.step hb2)
        have HB2 := Lib.hid (below_tr hb1 hb2)
        clear hr2 hb1 hb2
        simp only [List.length_nil] at hc2
        go_wp2_with fail
        refine (hsg w2 HC2.out).mono ?_
        rintro e w3 ⟨v3, rfl, hb3⟩
        have HC3 := Lib.hid (HC2.out.step hb3)
        have HB3 := Lib.hid (below_tr HB2.out hb3)
        clear hb3
        go_wp2_with fail
        refine (hl1 w3 HC3.out).mono ?_
        rintro e w4 ⟨A4, c4, rfl, hc4, hr4, hb4⟩
        have HC4 := Lib.hid (HC3.out.step hb4)
        have HB4 := Lib.hid (below_tr HB3.out hb4)
        clear hb4 hr4
        go_wp2_with fail
        refine (hl2 w4 HC4.out).mono ?_
        rintro e w5 ⟨A5, c5, rfl, hc5, hr5, hb5⟩
        have HB5 := Lib.hid (below_tr HB4.out hb5)
        clear hb5 hr5
        simp only [List.length_nil] at hc5
        go_wp2
        go_ret
        exact ⟨rfl, HB5.out⟩
      | ok ts =>
        have hli := lineL_ok hvl hll
        have hlen := line_len s
        unfold LineS at hln
        rw [hli] at hln hlen
        simp only at hln hlen
        obtain ⟨N, hN⟩ : ∃ N, ts.length = N := ⟨_, rfl⟩
        rw [hN] at hlen
        simp only [hN] at hln
        have HN := Lib.hid hN
        have Hll := Lib.hid hll
        have Hvl := Lib.hid hvl
        clear hN hll hvl hv hli hsr hl
        go_enter Tryd.func5, Tryd.ntmps5
        go_wp2_with fail
        refine ha.mono ?_
        rintro e w1 ⟨rfl, hb1⟩
        have HC1 := Lib.hid (HC.out.step hb1)
        go_wp2_with fail
        refine (hln w1 HC1.out).mono ?_
        rintro e w2 ⟨A2, c2, rfl, hc2, hr2, hb2⟩
        have HC2 := Lib.hid (HC1.out.step hb2)
        have HB2 := Lib.hid (below_tr hb1 hb2)
        clear hb1 hb2
        go_wp2_with fail
        refine (hsg w2 HC2.out).mono ?_
        rintro e w3 ⟨v3, rfl, hb3⟩
        have HC3 := Lib.hid (HC2.out.step hb3)
        have HB3 := Lib.hid (below_tr HB2.out hb3)
        have HR3 := Lib.hid (hr2.later hb3)
        clear hb3 hr2
        go_wp2
        go_loopw [15] (fun i wr => ∃ k : Nat, k ≤ N ∧ i = .int .i64 k ∧ Below w3.heap.size w3 wr) (fun i _ => N - (intOf i).toNat)
        case atStart => exact ⟨0, by omega, rfl, Below.refl _ _⟩
        case round =>
          obtain ⟨k, hk, rfl, hB⟩ := hrel
          by_cases hlt : k < N
          · have hd1 : decide (k < N) = true := by simp; omega
            obtain ⟨t, ht⟩ : ∃ t, ts[k]? = some t := ⟨_, List.getElem?_eq_getElem (by rw [HN.out]; exact hlt)⟩
            obtain ⟨a, b, ha1, hb1, hab, hbl, hvv, hone, hvx⟩ := lnL_parts k _ 0 ts t Hll.out ht
            rw [Nat.zero_add] at ha1
            rw [Nat.zero_add, Nat.zero_add, Hl.out] at hb1
            rw [Hl.out] at hbl
            obtain ⟨g, o, rfl, a1, a2, a3⟩ := (HR3.out.later hB).at3 ht
            rw [ha1] at a3
            have kx : (s.extract a b).data.toList = (s.data.toList.take b).drop a := by rw [extract_toList, drop_take9]
            have hl1 := fun W (hW : CtxL W) => lexLineS (s.extract a b) W hW (by rw [ByteArray.size_extract]; omega)
            unfold LineS at hl1
            rw [kx, lineL_ok (hvv Hvl.out) hone] at hl1
            have hxs := tok_size hone
            rw [List.length_drop, List.length_take, Hl.out] at hxs
            have hsx := fun W (hW : CtxL W) => utfSignsS t.x W hW (by simp only at hxs; omega)
            rw [sigR_ok hvx] at hsx
            have h0 : decide ((a : Int) < 0) = false := by simp
            have h1 : decide (b ≤ a) = false := by simp; omega
            have HBr := Lib.hid hB
            have hk3 : k ≤ 1000000 := by omega
            have hab2 : a ≤ b := by omega
            have HC4 := Lib.hid (HC3.out.step hB)
            simp only [List.length_cons, List.length_nil] at hl1
            clear ha1 kx hone hvv hvx hxs
            by_cases hk1 : k + 1 < N
            · have hd2 : decide ((k : Int) + 1 < N) = true := by simp; omega
              obtain ⟨u, hu⟩ : ∃ u, ts[k + 1]? = some u := ⟨_, List.getElem?_eq_getElem (by rw [HN.out]; exact hk1)⟩
              have hup : u.p = b := by
                unfold endP at hb1
                rw [hu] at hb1
                exact hb1
              obtain ⟨g', o', he', q1, q2, q3⟩ := (HR3.out.later hB).at3 hu
              injection he' with he'; injection he' with h5 h6; subst h5; subst h6
              rw [hup] at q3
              clear hu hup hb1 ht hB q1 q2
              go_wp2_with fail
              refine (hl1 wr HC4.out).mono ?_
              rintro e w4 ⟨A4, c4, rfl, hc4, hr4, hb4⟩
              have HC5 := Lib.hid (HC4.out.step hb4)
              obtain ⟨g4, o4, rfl, y1, y2, y3⟩ := hr4.at3 (i := 0) rfl
              simp only [Nat.zero_mul, Nat.add_zero] at y1 y2 y3
              have z1 := cell_on a1 hb4
              have z2 := cell_on a2 hb4
              have HB4 := Lib.hid hb4
              clear hr4
              go_wp2_with fail
              refine (hsx w4 HC5.out).mono ?_
              rintro e w5 ⟨v5, rfl, hb5⟩
              have y1 := cell_on y1 hb5
              have y2 := cell_on y2 hb5
              have y3 := cell_on y3 hb5
              have z1 := cell_on z1 hb5
              have z2 := cell_on z2 hb5
              have HB5 := Lib.hid (below_tr HBr.out (below_tr HB4.out hb5))
              clear hb5 hb4 a1 a2 a3 q3
              go_wp2
              go_quiet (fail)
              go_wp2
              go_roundw
              case rel => exact ⟨k + 1, by omega, by go_num, HB5.out.os, HB5.out.tape, HB5.out.output, HB5.out.size, HB5.out.block⟩
              case measure => simp [intOf]; omega
            · have hd2 : decide ((k : Int) + 1 < N) = false := by simp; omega
              have hbz : b = s.size := by
                unfold endP at hb1
                rw [List.getElem?_eq_none (by rw [HN.out]; omega)] at hb1
                exact hb1.symm
              subst hbz
              clear hb1 ht hB
              go_wp2_with fail
              refine (hl1 wr HC4.out).mono ?_
              rintro e w4 ⟨A4, c4, rfl, hc4, hr4, hb4⟩
              have HC5 := Lib.hid (HC4.out.step hb4)
              obtain ⟨g4, o4, rfl, y1, y2, y3⟩ := hr4.at3 (i := 0) rfl
              simp only [Nat.zero_mul, Nat.add_zero] at y1 y2 y3
              have z1 := cell_on a1 hb4
              have z2 := cell_on a2 hb4
              have HB4 := Lib.hid hb4
              clear hr4
              go_wp2_with fail
              refine (hsx w4 HC5.out).mono ?_
              rintro e w5 ⟨v5, rfl, hb5⟩
              have y1 := cell_on y1 hb5
              have y2 := cell_on y2 hb5
              have y3 := cell_on y3 hb5
              have z1 := cell_on z1 hb5
              have z2 := cell_on z2 hb5
              have HB5 := Lib.hid (below_tr HBr.out (below_tr HB4.out hb5))
              clear hb5 hb4 a1 a2 a3
              go_wp2
              go_quiet (fail)
              go_wp2
              go_roundw
              case rel => exact ⟨k + 1, by omega, by go_num, HB5.out.os, HB5.out.tape, HB5.out.output, HB5.out.size, HB5.out.block⟩
              case measure => simp [intOf]; omega
          · have hd1 : decide (k < N) = false := by simp; omega
            have HBr := Lib.hid hB
            by_cases h0 : N = 0
            · subst h0
              clear hB hlt
              go_wp2
              go_ret
              exact ⟨rfl, below_tr HB3.out HBr.out⟩
            · have hN0 : ((N : Int) == 0) = false := by simp; omega
              obtain ⟨t, r, hts⟩ : ∃ t r, ts = t :: r := by
                cases hx : ts with
                | nil => have := HN.out; rw [hx] at this; exact absurd this.symm h0
                | cons t r => exact ⟨t, r, rfl⟩
              have hll := Hll.out
              rw [hts] at hll
              obtain ⟨a, ha1, ha2, ha3⟩ := lnL_ahead hll
              rw [Nat.zero_add] at ha1
              rw [Hl.out] at ha2
              obtain ⟨g, o, rfl, a1, a2, a3⟩ := (HR3.out.later hB).at3 (i := 0) (t := t) (by rw [hts]; rfl)
              simp only [Nat.zero_mul, Nat.add_zero] at a3
              rw [ha1] at a3
              have hbl := fun W => lawBlank9 (s.extract 0 a) W (by rw [ByteArray.size_extract]; omega) (fun i hi => by
                have h1 : (s.extract 0 a).data.toList = s.data.toList.take a := by rw [extract_toList]; simp
                have h2 : i < a := by rw [ByteArray.size_extract] at hi; omega
                unfold bn
                rw [h1, take_getD _ _ _ h2]
                exact ha3 i h2)
              have hNp : 0 < N := by omega
              clear hts hll ha1 ha3 a1 a2 hB hlt h0
              go_wp2_with (go_at_call 11; refine (hbl _).mono ?_; rintro e w4 ⟨rfl, rfl⟩)
              go_ret
              exact ⟨rfl, below_tr HB3.out HBr.out⟩
  · have hd : decide ((3000 : Int) < s.size) = true := by simp; omega
    clear hs
    go_enter Tryd.func5, Tryd.ntmps5
    go_wp2_with (go_at_call 7; refine ha.mono ?_; rintro e w2 ⟨rfl, hb2⟩)
    go_ret
    exact ⟨rfl, hb2⟩
end Go.Proofs.YtjigcembbigbnaaDoor
