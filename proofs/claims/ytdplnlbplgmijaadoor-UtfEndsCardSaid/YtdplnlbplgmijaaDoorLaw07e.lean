/- The law's walk: UtfBack. -/
import Derived.Test.YtdplnlbplgmijaaDoorLaw07d
namespace Go.Proofs.YtdplnlbplgmijaaDoor
open Go Go.RowKit Um

theorem text_parts (l : List Int) : ∃ (a : ByteArray) (e : Int), textR l = .tuple #[.string a, .int .i64 e] ∧ ((e = 0 ∧ l.all isB = true ∧ a = textS l) ∨ e = 11) := by
  unfold textR
  by_cases h : l.all isB = true
  · rw [if_pos h]; exact ⟨_, _, rfl, .inl ⟨rfl, h, rfl⟩⟩
  · rw [if_neg h]; exact ⟨_, _, rfl, .inr rfl⟩
theorem tl_data (a : ByteArray) : a.toList = a.data.toList := by cases a; rw [ByteArray.toList_mk]
theorem bytes_ext (a b : ByteArray) (h : a.data.toList = b.data.toList) : a = b := by
  cases a; cases b
  simp at h
  rw [h]
theorem sig_parts (s : ByteArray) : ∃ (xs : List Int) (k : Nat) (e : Int), sigR s.data.toList = (xs, k, e) ∧
    ((e = 0 ∧ textR xs = .tuple #[.string s, .int .i64 0]) ∨ (e = 11 ∧ xs = [] ∧ k < s.size ∧ (sigR (s.extract 0 k).data.toList).2.2 = 0 ∧ ∀ j, k < j → j ≤ s.size → (sigR (s.extract k j).data.toList).2.2 = 11)) := by
  by_cases h : (sgn s.data.toList).2.2 = true
  · obtain ⟨h1, h2⟩ := text_sig _ h
    refine ⟨(sgn s.data.toList).1, 0, 0, by unfold sigR; rw [if_pos h], .inl ⟨rfl, ?_⟩⟩
    unfold textR
    rw [if_pos h1, bytes_ext _ _ h2]
  · obtain ⟨h1, h2, h3⟩ := sgn_invalid _ (by simpa using h)
    rw [size_toList] at h1
    refine ⟨[], (sgn s.data.toList).2.1, 11, by unfold sigR; rw [if_neg h], .inr ⟨rfl, rfl, h1, ?_, fun j hj hl => ?_⟩⟩
    · rw [extract_toList]
      unfold sigR
      rw [List.drop_zero, Nat.sub_zero, if_pos h3]
    · rw [extract_toList]
      unfold sigR
      rw [if_neg]
      rw [sgn_cut _ _ h2 (by omega) (by rw [List.length_drop, size_toList]; omega)]
      simp
theorem signs_err (t : ByteArray) (er : Int) (w : World) (hC : Ctx w) (hs : t.size ≤ 1000000) (h : (sigR t.data.toList).2.2 = er) :
    Calls Tryd.prog 19 #[.string t] w fun e w' => ∃ A n c, ∃ z : Nat, e = .returned (.tuple #[.slice A n c, .int .i64 z, .int .i64 er]) ∧ Below w.heap.size w w' :=
  (signs1 t w hC hs).mono fun e w' ⟨A, c, he, hr, hb⟩ => by subst h; exact ⟨A, _, c, _, he, hb⟩

set_option maxHeartbeats 4000000 in
theorem lawUtfBack (l : List Int) (A : Option Addr) (c : Nat) (m : List Int) (B : Option Addr) (d : Nat) (s : ByteArray) (w : World) (hC : Ctx w)
    (hl : l.length ≤ 281474976710656) (hr : Rd w A (l.map (Value.int .i64))) (hm : m.length ≤ 281474976710656) (hr2 : Rd w B (m.map (Value.int .i64))) (hs : s.size ≤ 281474976710656) :
    Calls Tryd.prog 7 #[.slice A l.length c, .slice B m.length d, .string s] w fun e w' => e = .returned (.bool true) ∧ Below w.heap.size w w' := by
  by_cases hbig : 2000 < l.length + m.length + s.size
  · go_enter Tryd.func7, Tryd.ntmps7
    go_wp2_with (go_at_call 8; refine (awake _ hC).mono ?_; rintro e w4 ⟨rfl, hb4⟩)
    go_ret
    exact ⟨rfl, hb4⟩
  clear hl hm hs
  have hl : l.length ≤ 1000000 := by omega
  have hm : m.length ≤ 1000000 := by omega
  have hs : s.size ≤ 1000000 := by omega
  obtain ⟨a, e1, hT1, hE1⟩ := text_parts l
  obtain ⟨b, e2, hT2, hE2⟩ := text_parts m
  obtain ⟨xs, at_, er, hsig, hE3⟩ := sig_parts s
  have hxl : xs.length ≤ 1000000 := by
    have := sig_bound s.data.toList
    rw [hsig, size_toList] at this
    simp only at this
    omega
  have c1 := fun W hh => utfText l A c W hl hh
  have c2 := fun W hh => utfText m B d W hm hh
  have c3 := fun W hW => signs1 s W hW hs
  rw [hT1] at c1
  rw [hT2] at c2
  rw [hsig] at c3
  dsimp only at c3
  clear hT1 hT2 hsig
  go_enter Tryd.func7, Tryd.ntmps7
  go_wp2_with (fail)
  go_at_call 8
  refine (awake _ hC).mono ?_
  rintro e w1 ⟨rfl, hB1⟩
  go_wp2_with (fail)
  go_at_call 10
  refine (c1 _ (hr.of_below hB1)).mono ?_
  rintro e w2 ⟨rfl, hb2⟩
  have hB2 := hB1.trans (hb2.mono hB1.size)
  clear hb2
  go_wp2_with (fail)
  go_at_call 10
  refine (c2 _ (hr2.of_below hB2)).mono ?_
  rintro e w3 ⟨rfl, hb3⟩
  have hB3 := hB2.trans (hb3.mono hB2.size)
  clear hb3 hB1 hB2 c1 c2
  rcases hE1 with ⟨rfl, hal, rfl⟩ | rfl
  · have hsg := sig_text l hal
    have hsz : (textS l).size ≤ 1000000 := by
      rw [← size_toList]
      have := encL_length l
      simp [textS]
      omega
    have c4 := fun W hW => signs1 (textS l) W hW hsz
    rw [hsg] at c4
    dsimp only at c4
    rcases hE2 with ⟨rfl, ham, rfl⟩ | rfl
    · have hless := text_less l m hal ham
      rw [← tl_data, ← tl_data] at hless
      have c5 := fun W h1 h2 => lawless l m A B c d W hl hm h1 h2
      generalize lessL l m = r at hless c5
      generalize textS l = ta at *
      generalize textS m = tb at *
      clear hal ham hsg hsz
      go_wp2_with (fail)
      go_at_call 19
      refine (c4 _ (hC.step hB3)).mono ?_
      rintro e w4 ⟨A4, n4, rfl, hrd, hb4⟩
      have hB4 := hB3.trans (hb4.mono hB3.size)
      clear hb4
      go_wp2_with (fail)
      go_at_call 21
      refine (same_self l A4 A n4 c _ hrd (hr.of_below hB4) (by omega)).mono ?_
      rintro e w5 ⟨rfl, hb5⟩
      have hB5 := hB4.trans (hb5.mono hB4.size)
      clear hb5
      go_wp2_with (fail)
      go_at_call 25
      refine (c5 _ (hr.of_below hB5) (hr2.of_below hB5)).mono ?_
      rintro e wz ⟨rfl, hb6⟩
      have hBz := hB5.trans (hb6.mono hB5.size)
      have hrr : (r != r) = false := by simp
      clear hb6 hB3 hB4 hB5 hrd c4 c5
      go_wp2_with (fail)
      go_at_call 19
      refine (c3 _ (hC.step hBz)).mono ?_
      rintro e x1 ⟨A1, n1, rfl, hrx, hb1⟩
      have hY1 := hBz.trans (hb1.mono hBz.size)
      clear hb1 hBz c3
      rcases hE3 with ⟨rfl, htx⟩ | ⟨rfl, rfl, hat, hpre, hcut⟩
      · have c6 := fun W hh => utfText xs A1 n1 W hxl hh
        rw [htx] at c6
        clear htx
        go_wp2_with (fail)
        go_at_call 10
        refine (c6 _ hrx).mono ?_
        rintro e x2 ⟨rfl, hb2⟩
        have hY2 := hY1.trans (hb2.mono hY1.size)
        go_wp2
        go_ret
        exact ⟨by simp, hY2⟩
      · have c7 := fun W hW => signs_err (s.extract 0 at_) 0 W hW (by rw [ByteArray.size_extract]; omega) hpre
        have q1 : decide ((at_ : Int) < 0) = false := by simp
        have q2 : decide (s.size ≤ at_) = false := by simp; omega
        clear hpre
        go_wp2_with (fail)
        go_at_call 19
        refine (c7 _ (hC.step hY1)).mono ?_
        rintro e x2 ⟨A2, n2, m2, z2, rfl, hb2⟩
        have hY2 := hY1.trans (hb2.mono hY1.size)
        clear hb2 hY1 hrx c7
        have Hcut := Lib.hid hcut
        clear hcut
        go_wp2_with (fail)
        go_loopw [22] (fun i wr => ∃ k : Nat, at_ < k ∧ k ≤ at_ + 5 ∧ k ≤ s.size + 1 ∧ i = .int .i64 k ∧ Below w.heap.size w wr) (fun i _ => at_ + 5 - (intOf i).toNat)
        case atStart => exact ⟨at_ + 1, by omega, by omega, by omega, by go_num, hY2⟩
        case round =>
          clear hY2
          obtain ⟨k, hk, hk2, hk3, rfl, hB⟩ := hrel
          by_cases h1 : k ≤ s.size
          · by_cases h2 : k ≤ at_ + 4
            · have d1 : decide (k ≤ s.size) = true := by simp [h1]
              have d2 : decide (k ≤ at_ + 4) = true := by simp [h2]
              have c8 := fun W hW => signs_err (s.extract at_ k) 11 W hW (by rw [ByteArray.size_extract]; omega) (Hcut.out k hk h1)
              go_wp2_with (fail)
              go_at_call 19
              refine (c8 _ (hC.step hB)).mono ?_
              rintro e x3 ⟨A3, n3, m3, z3, rfl, hb3⟩
              have hB3 := hB.trans (hb3.mono hB.size)
              clear hb3 c8
              go_wp2
              go_roundw
              case rel => exact ⟨k+1, by omega, by omega, by omega, by go_num, hB3⟩
              case measure => simp [intOf]; omega
            · have d1 : decide (k ≤ s.size) = true := by simp [h1]
              have d2 : decide (k ≤ at_ + 4) = false := by simp; omega
              go_wp2
              go_ret
              exact ⟨rfl, hB⟩
          · have d1 : decide (k ≤ s.size) = false := by simp; omega
            go_wp2
            go_ret
            exact ⟨rfl, hB⟩
    · generalize textS l = ta at *
      clear hal hsg hsz
      go_wp2_with (fail)
      go_at_call 19
      refine (c4 _ (hC.step hB3)).mono ?_
      rintro e w4 ⟨A4, n4, rfl, hrd, hb4⟩
      have hB4 := hB3.trans (hb4.mono hB3.size)
      clear hb4
      go_wp2_with (fail)
      go_at_call 21
      refine (same_self l A4 A n4 c _ hrd (hr.of_below hB4) (by omega)).mono ?_
      rintro e wz ⟨rfl, hb5⟩
      have hBz := hB4.trans (hb5.mono hB4.size)
      clear hb5 hB3 hB4 hrd c4
      go_wp2_with (fail)
      go_at_call 19
      refine (c3 _ (hC.step hBz)).mono ?_
      rintro e x1 ⟨A1, n1, rfl, hrx, hb1⟩
      have hY1 := hBz.trans (hb1.mono hBz.size)
      clear hb1 hBz c3
      rcases hE3 with ⟨rfl, htx⟩ | ⟨rfl, rfl, hat, hpre, hcut⟩
      · have c6 := fun W hh => utfText xs A1 n1 W hxl hh
        rw [htx] at c6
        clear htx
        go_wp2_with (fail)
        go_at_call 10
        refine (c6 _ hrx).mono ?_
        rintro e x2 ⟨rfl, hb2⟩
        have hY2 := hY1.trans (hb2.mono hY1.size)
        go_wp2
        go_ret
        exact ⟨by simp, hY2⟩
      · have c7 := fun W hW => signs_err (s.extract 0 at_) 0 W hW (by rw [ByteArray.size_extract]; omega) hpre
        have q1 : decide ((at_ : Int) < 0) = false := by simp
        have q2 : decide (s.size ≤ at_) = false := by simp; omega
        clear hpre
        go_wp2_with (fail)
        go_at_call 19
        refine (c7 _ (hC.step hY1)).mono ?_
        rintro e x2 ⟨A2, n2, m2, z2, rfl, hb2⟩
        have hY2 := hY1.trans (hb2.mono hY1.size)
        clear hb2 hY1 hrx c7
        have Hcut := Lib.hid hcut
        clear hcut
        go_wp2_with (fail)
        go_loopw [22] (fun i wr => ∃ k : Nat, at_ < k ∧ k ≤ at_ + 5 ∧ k ≤ s.size + 1 ∧ i = .int .i64 k ∧ Below w.heap.size w wr) (fun i _ => at_ + 5 - (intOf i).toNat)
        case atStart => exact ⟨at_ + 1, by omega, by omega, by omega, by go_num, hY2⟩
        case round =>
          clear hY2
          obtain ⟨k, hk, hk2, hk3, rfl, hB⟩ := hrel
          by_cases h1 : k ≤ s.size
          · by_cases h2 : k ≤ at_ + 4
            · have d1 : decide (k ≤ s.size) = true := by simp [h1]
              have d2 : decide (k ≤ at_ + 4) = true := by simp [h2]
              have c8 := fun W hW => signs_err (s.extract at_ k) 11 W hW (by rw [ByteArray.size_extract]; omega) (Hcut.out k hk h1)
              go_wp2_with (fail)
              go_at_call 19
              refine (c8 _ (hC.step hB)).mono ?_
              rintro e x3 ⟨A3, n3, m3, z3, rfl, hb3⟩
              have hB3 := hB.trans (hb3.mono hB.size)
              clear hb3 c8
              go_wp2
              go_roundw
              case rel => exact ⟨k+1, by omega, by omega, by omega, by go_num, hB3⟩
              case measure => simp [intOf]; omega
            · have d1 : decide (k ≤ s.size) = true := by simp [h1]
              have d2 : decide (k ≤ at_ + 4) = false := by simp; omega
              go_wp2
              go_ret
              exact ⟨rfl, hB⟩
          · have d1 : decide (k ≤ s.size) = false := by simp; omega
            go_wp2
            go_ret
            exact ⟨rfl, hB⟩
  · have hBz := hB3
    clear hB3
    go_wp2_with (fail)
    go_at_call 19
    refine (c3 _ (hC.step hBz)).mono ?_
    rintro e x1 ⟨A1, n1, rfl, hrx, hb1⟩
    have hY1 := hBz.trans (hb1.mono hBz.size)
    clear hb1 hBz c3
    rcases hE3 with ⟨rfl, htx⟩ | ⟨rfl, rfl, hat, hpre, hcut⟩
    · have c6 := fun W hh => utfText xs A1 n1 W hxl hh
      rw [htx] at c6
      clear htx
      go_wp2_with (fail)
      go_at_call 10
      refine (c6 _ hrx).mono ?_
      rintro e x2 ⟨rfl, hb2⟩
      have hY2 := hY1.trans (hb2.mono hY1.size)
      go_wp2
      go_ret
      exact ⟨by simp, hY2⟩
    · have c7 := fun W hW => signs_err (s.extract 0 at_) 0 W hW (by rw [ByteArray.size_extract]; omega) hpre
      have q1 : decide ((at_ : Int) < 0) = false := by simp
      have q2 : decide (s.size ≤ at_) = false := by simp; omega
      clear hpre
      go_wp2_with (fail)
      go_at_call 19
      refine (c7 _ (hC.step hY1)).mono ?_
      rintro e x2 ⟨A2, n2, m2, z2, rfl, hb2⟩
      have hY2 := hY1.trans (hb2.mono hY1.size)
      clear hb2 hY1 hrx c7
      have Hcut := Lib.hid hcut
      clear hcut
      go_wp2_with (fail)
      go_loopw [22] (fun i wr => ∃ k : Nat, at_ < k ∧ k ≤ at_ + 5 ∧ k ≤ s.size + 1 ∧ i = .int .i64 k ∧ Below w.heap.size w wr) (fun i _ => at_ + 5 - (intOf i).toNat)
      case atStart => exact ⟨at_ + 1, by omega, by omega, by omega, by go_num, hY2⟩
      case round =>
        clear hY2
        obtain ⟨k, hk, hk2, hk3, rfl, hB⟩ := hrel
        by_cases h1 : k ≤ s.size
        · by_cases h2 : k ≤ at_ + 4
          · have d1 : decide (k ≤ s.size) = true := by simp [h1]
            have d2 : decide (k ≤ at_ + 4) = true := by simp [h2]
            have c8 := fun W hW => signs_err (s.extract at_ k) 11 W hW (by rw [ByteArray.size_extract]; omega) (Hcut.out k hk h1)
            go_wp2_with (fail)
            go_at_call 19
            refine (c8 _ (hC.step hB)).mono ?_
            rintro e x3 ⟨A3, n3, m3, z3, rfl, hb3⟩
            have hB3 := hB.trans (hb3.mono hB.size)
            clear hb3 c8
            go_wp2
            go_roundw
            case rel => exact ⟨k+1, by omega, by omega, by omega, by go_num, hB3⟩
            case measure => simp [intOf]; omega
          · have d1 : decide (k ≤ s.size) = true := by simp [h1]
            have d2 : decide (k ≤ at_ + 4) = false := by simp; omega
            go_wp2
            go_ret
            exact ⟨rfl, hB⟩
        · have d1 : decide (k ≤ s.size) = false := by simp; omega
          go_wp2
          go_ret
          exact ⟨rfl, hB⟩
end Go.Proofs.YtdplnlbplgmijaaDoor
