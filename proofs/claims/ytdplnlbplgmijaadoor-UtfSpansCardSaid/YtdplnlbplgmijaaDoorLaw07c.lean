/- The law's walk: UtfSpans. -/
import Derived.Test.YtdplnlbplgmijaaDoorLaw07a
import Derived.Test.YtdplnlbplgmijaaDoorUtfMath2
namespace Go.Proofs.YtdplnlbplgmijaaDoor
open Go Go.RowKit Um

theorem app_list (a b : ByteArray) : (a ++ b).data.toList = a.data.toList ++ b.data.toList := by rw [ByteArray.data_append]; simp
theorem label_is (t : ByteArray) (k : Nat) (w : World) (hC : Ctx w) (hs : t.size ≤ 1000000) (h : label t.data.toList = k) :
    Calls Tryd.prog 17 #[.string t] w fun e w' => e = .returned (.int .i64 k) ∧ Below w.heap.size w w' := by
  subst h; exact utfLabel t w hC hs
theorem tag_is (t : ByteArray) (k : Nat) (w : World) (hs : t.size ≤ 1000000) (h : tag t.data.toList = k) :
    Calls Tryd.prog 18 #[.string t] w fun e w' => e = .returned (.int .i64 k) ∧ Below w.heap.size w w' := by
  subst h; exact utfTag t w hs

set_option maxHeartbeats 2000000 in
theorem lawUtfSpans (s more : ByteArray) (w : World) (hC : Ctx w) (hs : s.size ≤ 281474976710656) (hm : more.size ≤ 281474976710656) :
    Calls Tryd.prog 4 #[.string s, .string more] w fun e w' => e = .returned (.bool true) ∧ Below w.heap.size w w' := by
  by_cases hbig : 2000 < s.size + more.size
  · go_enter Tryd.func4, Tryd.ntmps4
    go_wp2_with (go_at_call 8; refine (awake _ hC).mono ?_; rintro e w4 ⟨rfl, hb4⟩)
    go_ret
    exact ⟨rfl, hb4⟩
  have hsz := size_toList s
  have hn1 := label_le s.data.toList
  have hm1 := tag_le s.data.toList
  have hn2 := label_take s.data.toList
  have hm2 := tag_take s.data.toList
  have hmn := tag_le_label s.data.toList
  have hn3 := label_blank s.data.toList more.data.toList
  have hm3 := tag_blank s.data.toList more.data.toList
  have hn4 := label_point s.data.toList more.data.toList
  have hn5 := label_more s.data.toList more.data.toList
  have hm5 := tag_more s.data.toList more.data.toList
  have hn6 := label_last s.data.toList
  have hm6 := tag_last s.data.toList
  obtain ⟨n, hn⟩ : ∃ n, label s.data.toList = n := ⟨_, rfl⟩
  obtain ⟨m, hm⟩ : ∃ m, tag s.data.toList = m := ⟨_, rfl⟩
  rw [hn] at hn1 hn2 hmn hn3 hn4 hn5 hn6
  rw [hm] at hm1 hm2 hmn hm3 hm5 hm6
  rw [hsz] at hn1 hm1
  clear hsz
  have Hn := Lib.hid hn
  have Hm := Lib.hid hm
  have Hn2 := Lib.hid hn2
  have Hm2 := Lib.hid hm2
  have Hn3 := Lib.hid hn3
  have Hm3 := Lib.hid hm3
  have Hn4 := Lib.hid hn4
  have Hn6 := Lib.hid hn6
  have Hm6 := Lib.hid hm6
  clear hn hm hn2 hm2 hn3 hm3 hn4 hn6 hm6
  go_enter Tryd.func4, Tryd.ntmps4
  go_wp2_with (fail)
  go_at_call 8
  refine (awake _ hC).mono ?_
  rintro e w1 ⟨rfl, hb1⟩
  go_wp2_with (fail)
  go_at_call 17
  refine (label_is s n _ (hC.step hb1) (by omega) Hn.out).mono ?_
  rintro e w2 ⟨rfl, hb2⟩
  have hB2 := hb1.trans (hb2.mono hb1.size)
  go_wp2_with (fail)
  go_at_call 18
  refine (tag_is s m _ (by omega) Hm.out).mono ?_
  rintro e w3 ⟨rfl, hb3⟩
  have hB3 := hB2.trans (hb3.mono hB2.size)
  have d1 : decide ((n : Int) < 0) = false := by simp
  have d2 : decide ((m : Int) < 0) = false := by simp
  have d3 : decide (s.size < n) = false := by simp; omega
  have d4 : decide (s.size < m) = false := by simp; omega
  have d5 : decide (n < m) = false := by simp; omega
  go_wp2_with (fail)
  go_at_call 17
  refine (label_is _ n _ (hC.step hB3) (by simp; omega) (by rw [extract_toList]; exact Hn2.out)).mono ?_
  rintro e w4 ⟨rfl, hb4⟩
  have hB4 := hB3.trans (hb4.mono hB3.size)
  go_wp2_with (fail)
  go_at_call 18
  refine (tag_is _ m _ (by simp; omega) (by rw [extract_toList]; exact Hm2.out)).mono ?_
  rintro e w5 ⟨rfl, hb5⟩
  have hB5 := hB4.trans (hb5.mono hB4.size)
  clear hb1 hb2 hb3 hb4 hb5 hB2 hB3 hB4
  have x32 : (ByteArray.mk #[32]).size = 1 := rfl
  have x46 : (ByteArray.mk #[46, 32]).size = 2 := rfl
  have c1 : (s.extract 0 n ++ ByteArray.mk #[32] ++ more).data.toList = s.data.toList.take n ++ 32 :: more.data.toList := by
    rw [app_list, app_list, extract_toList]; simp
  have c2 : (s.extract 0 m ++ ByteArray.mk #[32] ++ more).data.toList = s.data.toList.take m ++ 32 :: more.data.toList := by
    rw [app_list, app_list, extract_toList]; simp
  have c3 : (s.extract 0 n ++ ByteArray.mk #[46, 32] ++ more).data.toList = s.data.toList.take n ++ 46 :: 32 :: more.data.toList := by
    rw [app_list, app_list, extract_toList]; simp
  have e1 : (s.extract 0 n ++ ByteArray.mk #[32] ++ more).size ≤ 1000000 := by rw [ByteArray.size_append, ByteArray.size_append, ByteArray.size_extract, x32]; omega
  have e2 : (s.extract 0 m ++ ByteArray.mk #[32] ++ more).size ≤ 1000000 := by rw [ByteArray.size_append, ByteArray.size_append, ByteArray.size_extract, x32]; omega
  have e3 : (s.extract 0 n ++ ByteArray.mk #[46, 32] ++ more).size ≤ 1000000 := by rw [ByteArray.size_append, ByteArray.size_append, ByteArray.size_extract, x46]; omega
  have e4 : (s ++ more).size ≤ 1000000 := by rw [ByteArray.size_append]; omega
  have h1 := fun W hW => label_is _ n W hW e1 (by rw [c1]; exact Hn3.out)
  have h2 := fun W => tag_is _ m W e2 (by rw [c2]; exact Hm3.out)
  have h3 := fun W hW => label_is _ n W hW e3 (by rw [c3]; exact Hn4.out)
  obtain ⟨p, hp⟩ : ∃ p, label (s.data.toList ++ more.data.toList) = p := ⟨_, rfl⟩
  obtain ⟨q, hq⟩ : ∃ p, tag (s.data.toList ++ more.data.toList) = p := ⟨_, rfl⟩
  rw [hp] at hn5
  rw [hq] at hm5
  have h4 := fun W hW => label_is _ p W hW e4 (by rw [app_list]; exact hp)
  have h5 := fun W => tag_is _ q W e4 (by rw [app_list]; exact hq)
  clear hp hq x32 x46 c1 c2 c3 e1 e2 e3 e4
  have d6 : decide (n ≤ p) = true := by simp [hn5]
  have d7 : decide (m ≤ q) = true := by simp [hm5]
  have hcases : ((0 < n ∧ decide (0 < n) = true ∧ ((bn s (n - 1) : Int) == 46) = false) ∨ decide (0 < n) = false) ∧ ((0 < m ∧ decide (0 < m) = true ∧ ((bn s (m - 1) : Int) == 45) = false) ∨ decide (0 < m) = false) := by
    constructor
    · by_cases hn0 : 0 < n
      · exact .inl ⟨hn0, by simp [hn0], by have := Hn6.out hn0; simp; unfold bn; omega⟩
      · exact .inr (by simp; omega)
    · by_cases hm0 : 0 < m
      · exact .inl ⟨hm0, by simp [hm0], by have := Hm6.out hm0; simp; unfold bn; omega⟩
      · exact .inr (by simp; omega)
  obtain ⟨hc1, hc2⟩ := hcases
  clear hn5 hm5
  rcases hc1 with ⟨hn0, q1, q3⟩ | q1 <;> rcases hc2 with ⟨hm0, q2, q4⟩ | q2
  all_goals
    go_wp2_with (fail)
    go_at_call 17
    refine (h1 _ (hC.step hB5)).mono ?_
    rintro e w6 ⟨rfl, hb6⟩
    have hB6 := hB5.trans (hb6.mono hB5.size)
    clear hb6
    go_wp2_with (fail)
    go_at_call 18
    refine (h2 _).mono ?_
    rintro e w7 ⟨rfl, hb7⟩
    have hB7 := hB6.trans (hb7.mono hB6.size)
    clear hb7
    go_wp2_with (fail)
    go_at_call 17
    refine (h3 _ (hC.step hB7)).mono ?_
    rintro e w8 ⟨rfl, hb8⟩
    have hB8 := hB7.trans (hb8.mono hB7.size)
    clear hb8
    go_wp2_with (fail)
    go_at_call 17
    refine (h4 _ (hC.step hB8)).mono ?_
    rintro e w9 ⟨rfl, hb9⟩
    have hB9 := hB8.trans (hb9.mono hB8.size)
    clear hb9
    go_wp2_with (fail)
    go_at_call 18
    refine (h5 _).mono ?_
    rintro e w10 ⟨rfl, hb10⟩
    have hB10 := hB9.trans (hb10.mono hB9.size)
    clear hb10
    go_wp2_with (fail)
    go_ret
    exact ⟨rfl, hB10⟩
end Go.Proofs.YtdplnlbplgmijaaDoor
