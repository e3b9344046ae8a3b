/- Layer 9's laws, walked: LexBlanks. -/
import Derived.Test.YtjigcembbigbnaaDoorJLaw09d
import Derived.Test.YtjigcembbigbnaaDoorJLexMath5
namespace Go.Proofs.YtjigcembbigbnaaDoor
open Go Go.RowKit Um Lx

def GapV (w0 : World) (s : Value) (wx : World) : Prop := ∃ g : ByteArray, s = .string g ∧ g.size ≤ 3 ∧ 1 ≤ g.size ∧ (∀ i, i < g.data.toList.length → blankC (g.data.toList.getD i 0).toNat) ∧ Below w0.heap.size w0 wx
theorem app_list9 (a b : ByteArray) : (a ++ b).data.toList = a.data.toList ++ b.data.toList := by rw [ByteArray.data_append]; simp
theorem lineL_inv {l : List UInt8} (h : (lineL l).2.2 = 0) : ∃ ts, vld l ∧ lnL l 0 = .ok ts ∧ lineL l = (ts, 0, 0) := by
  by_cases hv : vld l
  · cases hl : lnL l 0 with
    | ok ts => exact ⟨ts, hv, rfl, lineL_ok hv hl⟩
    | error e => rw [lineL_no hv hl] at h; cases h
  · exfalso
    have h2 : (sgn l).2.2 = false := by simpa [vld] using hv
    unfold lineL at h
    rw [h2] at h
    cases h
theorem lineL_at (l : List UInt8) : (lineL l).2.1 ≤ l.length := by
  by_cases hv : vld l
  · cases hl : lnL l 0 with
    | ok ts => rw [lineL_ok hv hl]; exact Nat.zero_le _
    | error e =>
      rw [lineL_no hv hl]
      obtain ⟨a, h1, h2, _⟩ := lnL_err _ _ _ hl
      show e ≤ _
      omega
  · have h2 : (sgn l).2.2 = false := by simpa [vld] using hv
    have h3 := (sgn_invalid l h2).1
    unfold lineL
    rw [h2]
    exact Nat.le_of_lt h3
theorem shT_zero (ts : List Tok) : ts.map (shT 0) = ts := by
  conv => rhs; rw [← List.map_id ts]
  apply List.map_congr_left
  intro t _
  rfl
theorem RdTk.take {w : World} {A : Option Addr} {ts us : List Tok} (h : RdTk w A (ts ++ us)) : RdTk w A ts := by
  have := Rd.take h (ts.length * 3)
  rw [List.flatMap_append, List.take_left' (tokC_len ts)] at this
  exact this
theorem RdTk.drop {w : World} {g o : Nat} {ts us : List Tok} (h : RdTk w (some ⟨g, o, none⟩) (ts ++ us)) : RdTk w (some ⟨g, o + ts.length * 3, none⟩) us := by
  rcases h with h0 | ⟨g', o', he, hc⟩
  · left
    rw [List.flatMap_append] at h0
    exact (List.append_eq_nil_iff.1 h0).2
  · injection he with he; injection he with h5 h6; subst h5; subst h6
    refine .inr ⟨g, o + ts.length * 3, rfl, fun j u hu => ?_⟩
    rw [Nat.add_assoc]
    refine hc _ u ?_
    rw [List.flatMap_append, List.getElem?_append_right (by rw [tokC_len]; omega), tokC_len, Nat.add_sub_cancel_left]
    exact hu
theorem lawSame9z {ts us : List Tok} {off N : Nat} {z : Int} {A1 : Option Addr} {c1 : Nat} {A2 : Option Addr} {c2 : Nat} {w : World} (hN : ts.length = N) (hz : z = (off : Int)) (hu : us = ts.map (shT off)) (hl : N ≤ 1000000) (ho : off ≤ 1000000) (hp : ∀ t ∈ ts, t.p ≤ 1000000) (hr1 : RdTk w A1 us) (hr2 : RdTk w A2 ts) :
    Calls Tryd.prog 13 #[.slice A1 N c1, .slice A2 N c2, .int .i64 z] w fun e w' => e = .returned (.bool true) ∧ Below w.heap.size w w' := by
  subst hN; subst hz; subst hu
  exact lawSame9 ts off A1 c1 A2 c2 w hl ho hp hr1 hr2
theorem RdTk.dropA {w : World} {A : Option Addr} {ts us : List Tok} (h : RdTk w A (ts ++ us)) : RdTk w (A.map fun x => x.add (ts.length * 3)) us := by
  rcases h with h0 | ⟨g, o, rfl, hc⟩
  · left
    rw [List.flatMap_append] at h0
    exact (List.append_eq_nil_iff.1 h0).2
  · have := RdTk.drop (w := w) (g := g) (o := o) (ts := ts) (us := us) (.inr ⟨g, o, rfl, hc⟩)
    rw [Option.map_some, add_zero_spot]
    exact this
set_option maxRecDepth 10000 in
set_option maxHeartbeats 16000000 in
theorem lawLexBlanks (a b : ByteArray) (tn : Int) (w : World) (hC : CtxL w) (_hz0 : a.size ≤ 281474976710656) (_hz1 : b.size ≤ 281474976710656) : Calls Tryd.prog 6 #[.string a, .string b, .int .i64 tn] w fun e w' => e = .returned (.bool true) ∧ Below w.heap.size w w' := by
  have ha := lawAwake9 w hC
  have HC := Lib.hid hC
  clear hC
  by_cases hs : a.size ≤ 1400 ∧ b.size ≤ 1400
  · obtain ⟨hsa, hsb⟩ := hs
    have hd1 : decide ((1400 : Int) < a.size) = false := by simp; omega
    have hd2 : decide ((1400 : Int) < b.size) = false := by simp; omega
    have hla := fun W (hW : CtxL W) => lexLineS a W hW (by omega)
    have hlb := fun W (hW : CtxL W) => lexLineS b W hW (by omega)
    have hln := fun (c : ByteArray) (hc : c.size ≤ 1000000) W (hW : CtxL W) => lexLineS c W hW hc
    have hpk := fun W => kitPick9 tn 3 W (by decide) (by decide)
    have hna := line_len a
    have hnb := line_len b
    have Sa := Lib.hid (size_toList a)
    have Sb := Lib.hid (size_toList b)
    unfold LineS at hla hlb
    obtain ⟨ra, hra⟩ : ∃ r, lineL a.data.toList = r := ⟨_, rfl⟩
    obtain ⟨rb, hrb⟩ : ∃ r, lineL b.data.toList = r := ⟨_, rfl⟩
    rw [hra] at hla hna
    rw [hrb] at hlb hnb
    obtain ⟨ts, p1, er1⟩ := ra
    obtain ⟨ys, p2, er2⟩ := rb
    simp only at hla hlb hna hnb
    obtain ⟨N, hN⟩ : ∃ N, ts.length = N := ⟨_, rfl⟩
    obtain ⟨M, hM⟩ : ∃ M, ys.length = M := ⟨_, rfl⟩
    rw [hN] at hna
    rw [hM] at hnb
    simp only [hN] at hla
    simp only [hM] at hlb
    have HN := Lib.hid hN
    have HM := Lib.hid hM
    have Hra := Lib.hid hra
    have Hrb := Lib.hid hrb
    clear hN hM hra hrb
    go_enter Tryd.func6, Tryd.ntmps6
    go_wp2_with fail
    refine ha.mono ?_
    rintro e w1 ⟨rfl, hb1⟩
    have HC1 := Lib.hid (HC.out.step hb1)
    go_wp2_with fail
    refine (hla w1 HC1.out).mono ?_
    rintro e w2 ⟨A2, c2, rfl, hc2, hr2, hb2⟩
    have HC2 := Lib.hid (HC1.out.step hb2)
    go_wp2_with fail
    refine (hlb w2 HC2.out).mono ?_
    rintro e w3 ⟨A3, c3, rfl, hc3, hr3, hb3⟩
    have HC3 := Lib.hid (HC2.out.step hb3)
    have HB3 := Lib.hid (below_tr (below_tr hb1 hb2) hb3)
    have HR3 := Lib.hid (And.intro (hr2.later hb3) hr3)
    clear hr2 hr3 hb1 hb2 hb3
    go_upto_region 7 with (fail)
    go_cut [13] from 46 to 50 (fun s wx => GapV w3 s wx)
    case first =>
      as_aux_lemma =>
        rename_i hJ hM
        go_wp2_with fail
        refine (hpk _).mono ?_
        rintro e w5 ⟨k, rfl, hk, rfl⟩
        have hb : Below w3.heap.size w3 (w3.alloc (.cells #[.string ⟨#[32]⟩, .string ⟨#[9]⟩, .string ⟨#[32, 9, 32]⟩] 9)) := (Below.refl _ _).alloc (Nat.le_refl _) _
        have HB := Lib.hid hb
        clear hb
        rcases (show k = 0 ∨ k = 1 ∨ k = 2 by omega) with rfl | rfl | rfl
        all_goals
          clear hk
          go_wp2
          refine Met.intro (hJ _ _ ?_)
          (repeat apply Exists.intro)
          refine ⟨?_, rfl⟩
        · exact ⟨_, rfl, by decide, by decide, by unfold blankC; decide, HB.out⟩
        · exact ⟨_, rfl, by decide, by decide, by unfold blankC; decide, HB.out⟩
        · exact ⟨_, rfl, by decide, by decide, by unfold blankC; decide, HB.out⟩
    obtain ⟨g, rfl, hg3, hg1, hgb, hb4⟩ := hcut
    have HC4 := Lib.hid (HC3.out.step hb4)
    have HB4 := Lib.hid (below_tr HB3.out hb4)
    have HR4 := Lib.hid (And.intro (HR3.out.1.later hb4) (HR3.out.2.later hb4))
    have Hgb := Lib.hid hgb
    have Sg := Lib.hid (size_toList g)
    clear hgb hb4
    by_cases he : er1 = 0
    · subst he
      obtain ⟨ts', hva, hll, h3⟩ := lineL_inv (l := a.data.toList) (by rw [Hra.out])
      rw [Hra.out] at h3
      obtain ⟨rfl, rfl, _⟩ : ts = ts' ∧ p1 = 0 ∧ True := by injection h3 with h4 h5; injection h5 with h5 h6; exact ⟨h4, h5, trivial⟩
      have hbeh := behind hva hll (by rw [Sg.out]; omega) Hgb.out
      have htp := lnL_p hll
      have Htp : Hid (∀ t ∈ ts, t.p ≤ 1000000) := fun t ht => by have := htp t ht; rw [Sa.out] at this; omega
      have tl : ∀ c : ByteArray, (a ++ g ++ c).data.toList = a.data.toList ++ g.data.toList ++ c.data.toList := fun c => by rw [app_list9, app_list9]
      have sz : ∀ c : ByteArray, c.size ≤ 1400 → (a ++ g ++ c).size ≤ 1000000 := fun c hc => by rw [ByteArray.size_append, ByteArray.size_append]; omega
      have hln1 := hln (a ++ g ++ ⟨#[35, 32, 46, 32, 60]⟩) (sz _ (by decide)) wc HC4.out
      have hln2 := fun W (hW : CtxL W) => hln (a ++ g ++ ⟨#[46]⟩) (sz _ (by decide)) W hW
      have hln3 := fun W (hW : CtxL W) => hln (a ++ g ++ b) (sz _ hsb) W hW
      unfold LineS at hln1 hln2 hln3
      rw [tl, show (⟨#[35, 32, 46, 32, 60]⟩ : ByteArray).data.toList = [35, 32, 46, 32, 60] from rfl, hbeh.none] at hln1
      rw [tl, show (⟨#[46]⟩ : ByteArray).data.toList = [46] from rfl] at hln2
      rw [tl] at hln3
      simp only [HN.out] at hln1
      have Hbeh := Lib.hid hbeh
      clear h3 hva hll hbeh htp tl sz hln
      go_wp2_with fail
      refine hln1.mono ?_
      rintro e w5 ⟨A5, c5, rfl, hc5, hr5, hb5⟩
      have HC5 := Lib.hid (HC4.out.step hb5)
      have HB5 := Lib.hid (below_tr HB4.out hb5)
      have HR5 := Lib.hid (And.intro (HR4.out.1.later hb5) (HR4.out.2.later hb5))
      have hs1 := lawSame9z (ts := ts) (us := ts) (off := 0) (N := N) (z := 0) (c1 := c5) (c2 := c2) HN.out rfl (shT_zero ts).symm (by omega) (by omega) Htp.out hr5 HR5.out.1
      clear hb5 hr5
      go_wp2_with fail
      refine hs1.mono ?_
      rintro e w6 ⟨rfl, hb6⟩
      have HC6 := Lib.hid (HC5.out.step hb6)
      have HB6 := Lib.hid (below_tr HB5.out hb6)
      have HR6 := Lib.hid (And.intro (HR5.out.1.later hb6) (HR5.out.2.later hb6))
      clear hb6 hs1 hln1
      rcases Hbeh.out.dots with hdots | ⟨hdots, hz⟩
      · rw [hdots] at hln2
        simp only [HN.out] at hln2
        have hNN : ((N : Int) == (N : Int)) = true := by simp
        clear hdots
        go_wp2_with fail
        refine (hln2 w6 HC6.out).mono ?_
        rintro e w7 ⟨A7, c7, rfl, hc7, hr7, hb7⟩
        clear hr7
        go_wp2
        go_ret
        exact ⟨rfl, below_tr HB6.out hb7⟩
      · rw [hdots] at hln2
        have hz := hz b.data.toList
        rw [Hrb.out] at hz
        have hl1 : (ts ++ [(⟨6, ⟨#[]⟩, a.data.toList.length + g.data.toList.length⟩ : Tok)]).length = N + 1 := by rw [List.length_append, HN.out]; rfl
        simp only [hl1] at hln2
        have hNN : (((N + 1 : Nat) : Int) == (N : Int)) = false := by simp; omega
        have hNN2 : (((N : Int) + 1) == (N : Int)) = false := by simp; omega
        have hNN3 : (N + 1 == N) = false := by simp
        rw [hz] at hln3
        clear hdots hz hl1
        have Hsz : Hid (a.data.toList.length + g.data.toList.length = a.size + g.size) := by show _ = _; rw [Sa.out, Sg.out]
        rw [Hsz.out] at hln3
        go_wp2_with fail
        refine (hln2 w6 HC6.out).mono ?_
        rintro e w7 ⟨A7, c7, rfl, hc7, hr7, hb7⟩
        have HC7 := Lib.hid (HC6.out.step hb7)
        have HB7 := Lib.hid (below_tr HB6.out hb7)
        have HR7 := Lib.hid (And.intro (HR6.out.1.later hb7) (HR6.out.2.later hb7))
        clear hr7 hb7 hln2
        by_cases he2 : er2 = 0
        · subst he2
          obtain ⟨ys', hvb, hlb2, h3⟩ := lineL_inv (l := b.data.toList) (by rw [Hrb.out])
          rw [Hrb.out] at h3
          obtain ⟨rfl, rfl, _⟩ : ys = ys' ∧ p2 = 0 ∧ True := by injection h3 with h4 h5; injection h5 with h5 h6; exact ⟨h4, h5, trivial⟩
          have hyp := lnL_p hlb2
          have Hyp : Hid (∀ t ∈ ys, t.p ≤ 1000000) := fun t ht => by have := hyp t ht; rw [Sb.out] at this; omega
          simp only [if_true] at hln3
          have hl2 : (ts ++ ys.map (shT (a.size + g.size))).length = N + M := by rw [List.length_append, List.length_map, HN.out, HM.out]
          simp only [hl2] at hln3
          clear h3 hvb hlb2 hyp hl2
          go_wp2_with fail
          refine (hln3 w7 HC7.out).mono ?_
          rintro e w8 ⟨A8, c8, rfl, hc8, hr8, hb8⟩
          have HB8 := Lib.hid (below_tr HB7.out hb8)
          have HR8 := Lib.hid (And.intro (HR7.out.1.later hb8) (HR7.out.2.later hb8))
          have Hr8 := Lib.hid hr8
          clear hr8 hb8 hln3
          have hs2 := lawSame9z (ts := ts) (us := ts) (off := 0) (N := N) (z := 0) (A1 := A8) (c1 := c8) (c2 := c2) HN.out rfl (shT_zero ts).symm (by omega) (by omega) Htp.out Hr8.out.take HR8.out.1
          go_wp2_with fail
          refine hs2.mono ?_
          rintro e w9 ⟨rfl, hb9⟩
          have HB9 := Lib.hid (below_tr HB8.out hb9)
          have HR9 := Lib.hid (And.intro (Hr8.out.later hb9) (HR8.out.2.later hb9))
          clear hb9 hs2
          have hy : ∀ (A : Option Addr) (c : Nat), RdTk w9 A (ys.map (shT (a.size + g.size))) → Calls Tryd.prog 13 #[.slice A M c, .slice A3 M c3, .int .i64 ((a.size : Int) + g.size)] w9 fun e w' => e = .returned (.bool true) ∧ Below w9.heap.size w9 w' :=
            fun A c h => lawSame9z (ts := ys) (off := a.size + g.size) HM.out (by omega) rfl (by omega) (by omega) Hyp.out h HR9.out.2
          have Hy := Lib.hid hy
          have HD : Hid (RdTk w9 (A8.map fun x => x.add (N * 3)) (ys.map (shT (a.size + g.size)))) := by have := HR9.out.1.dropA; rwa [HN.out] at this
          clear hy
          go_wp2_with fail
          · have hM0 : M = 0 := by omega
            have hy0 : ys = [] := List.eq_nil_of_length_eq_zero (by rw [HM.out]; exact hM0)
            refine (Hy.out _ _ (by rw [hy0]; exact Rd.nil _ _)).mono ?_
            rintro e w10 ⟨rfl, hb10⟩
            clear hM0 hy0
            go_wp2
            go_ret
            exact ⟨rfl, below_tr HB9.out hb10⟩
          · refine (Hy.out _ _ HD.out).mono ?_
            rintro e w10 ⟨rfl, hb10⟩
            go_wp2
            go_ret
            exact ⟨rfl, below_tr HB9.out hb10⟩
        · have hee : ((er2 : Int) != 0) = true := by simp; omega
          have hee2 : ((er2 : Int) == 0) = false := by simp; omega
          rw [if_neg he2] at hln3
          simp only [List.length_nil] at hln3
          have e9 : ((a.size + g.size + p2 : Nat) : Int) = (a.size : Int) + g.size + p2 := by omega
          rw [e9] at hln3
          have hp2 : p2 ≤ 1400 := by have := lineL_at b.data.toList; rw [Hrb.out, Sb.out] at this; simp only at this; omega
          clear he2 e9
          go_wp2_with fail
          refine (hln3 w7 HC7.out).mono ?_
          rintro e w8 ⟨A8, c8, rfl, hc8, hr8, hb8⟩
          clear hr8
          go_wp2
          go_ret
          exact ⟨rfl, below_tr HB7.out hb8⟩
    · have hee : ((er1 : Int) != 0) = true := by simp; omega
      have hln1 := hln (a ++ g ++ ⟨#[35, 32, 46, 32, 60]⟩) (by rw [ByteArray.size_append, ByteArray.size_append]; show a.size + g.size + 5 ≤ _; omega) wc HC4.out
      unfold LineS at hln1
      generalize lineL (a ++ g ++ ⟨#[35, 32, 46, 32, 60]⟩ : ByteArray).data.toList = r1 at *
      obtain ⟨us, p5, er5⟩ := r1
      simp only at hln1
      generalize us.length = L5 at *
      clear he
      go_wp2_with fail
      refine hln1.mono ?_
      rintro e w5 ⟨A5, c5, rfl, hc5, hr5, hb5⟩
      clear hr5
      go_wp2
      go_ret
      exact ⟨rfl, below_tr HB4.out hb5⟩
  · have hd : (decide ((1400 : Int) < a.size) || decide ((1400 : Int) < b.size)) = true := by simp; omega
    by_cases hsa : a.size ≤ 1400
    · have hd1 : decide ((1400 : Int) < a.size) = false := by simp; omega
      have hd2 : decide ((1400 : Int) < b.size) = true := by simp; omega
      clear hs hd hsa
      go_enter Tryd.func6, Tryd.ntmps6
      go_wp2_with (refine ha.mono ?_; rintro e w1 ⟨rfl, hb1⟩)
      go_ret
      exact ⟨rfl, hb1⟩
    · have hd1 : decide ((1400 : Int) < a.size) = true := by simp; omega
      clear hs hd hsa
      go_enter Tryd.func6, Tryd.ntmps6
      go_wp2_with (refine ha.mono ?_; rintro e w1 ⟨rfl, hb1⟩)
      go_ret
      exact ⟨rfl, hb1⟩
end Go.Proofs.YtjigcembbigbnaaDoor
