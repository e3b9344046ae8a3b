/- The program's package filter, walked: numbers, order, Same, Less. -/
import Derived.Test.YtfijpdmkdoccjaaGreatDoorJFilProg
namespace Go.Proofs.YtfijpdmkdoccjaaGreatDoor
open Go Go.RowKit Fm

theorem trimZ_eq (l : List UInt8) : Lib.trimLeftB l 48 = l.dropWhile (· == 48) := rfl
theorem dropWhile_nil (p : UInt8 → Bool) : ∀ (l : List UInt8), l.dropWhile p = [] ↔ l.all p = true
  | [] => by simp
  | a :: l => by
    rw [List.dropWhile_cons]
    by_cases h : p a = true
    · simp [h, dropWhile_nil p l]
    · simp [h]
theorem all_reverse (p : UInt8 → Bool) (l : List UInt8) : l.reverse.all p = l.all p := by
  rw [Bool.eq_iff_iff]; simp
theorem trimS_nil (l cs : List UInt8) : (Lib.trimS l cs).isEmpty = l.all cs.contains := by
  rw [Bool.eq_iff_iff, List.isEmpty_iff, Lib.trimS, Lib.trimLeftS, dropWhile_nil, Lib.trimRightS]
  show (l.reverse.dropWhile cs.contains).reverse.all cs.contains = true ↔ _
  rw [all_reverse]
  have key : ∀ m : List UInt8, (m.dropWhile cs.contains).all cs.contains = true ↔ m.all cs.contains = true := by
    intro m
    induction m with
    | nil => simp
    | cons a m ih =>
      rw [List.dropWhile_cons]
      by_cases h : cs.contains a = true
      · rw [if_pos h, ih, List.all_cons, h]; simp
      · rw [if_neg h]
  rw [key, all_reverse]

theorem trimDigits (s : ByteArray) (hs : s.size ≤ 281474976710656) : ∃ r : ByteArray, r.toList.isEmpty = s.toList.all digs.contains ∧ ∀ w, Calls Tryz.prog 40 #[.string s, .string ⟨#[48, 49, 50, 51, 52, 53, 54, 55, 56, 57]⟩] w fun e w' => e = .returned (.string r) ∧ Below w.heap.size w w' := by
  refine ⟨⟨(Lib.trimS s.data.toList digs).toArray⟩, ?_, fun w => ?_⟩
  · rw [toList_mk, trimS_nil, ByteArray.toList_eq]
  · exact Any.strings_Trim_laid Tryz.lays160 (by kernel_rfl) s ⟨#[48, 49, 50, 51, 52, 53, 54, 55, 56, 57]⟩ w (by omega) (by decide) (ascii_of_all (by decide))
theorem trimZeros (s : ByteArray) (w : World) : Calls Tryz.prog 41 #[.string s, .string ⟨#[48]⟩] w fun e w' => e = .returned (.string ⟨(s.toList.dropWhile (· == 48)).toArray⟩) ∧ w = w' := by
  rw [ByteArray.toList_eq]
  exact (Tryz.strings_TrimLeft_one s 48 (by decide) w).mono fun _ _ ⟨he, hw⟩ => ⟨he, hw.symm⟩

theorem trimPre (s : ByteArray) (c : UInt8) (w : World) : Calls Tryz.prog 38 #[.string s, .string ⟨#[c]⟩] w fun e w' => e = .returned (.string ⟨(Lib.trimPrefix s.toList [c]).toArray⟩) ∧ w = w' := by
  rw [ByteArray.toList_eq]
  exact (Tryz.strings_TrimPrefix s ⟨#[c]⟩ w).mono fun _ _ ⟨he, hw⟩ => ⟨he, hw.symm⟩
theorem trimP_yes (c : UInt8) (r : List UInt8) : Lib.trimPrefix (c :: r) [c] = r := by
  simp [Lib.trimPrefix, Lib.hasPrefix, List.isPrefixOf]
theorem trimP_no (c d : UInt8) (r : List UInt8) (h : c ≠ d) : Lib.trimPrefix (d :: r) [c] = d :: r := by
  simp [Lib.trimPrefix, Lib.hasPrefix, List.isPrefixOf, h]
theorem trimP_nil (c : UInt8) : Lib.trimPrefix [] [c] = [] := by
  simp [Lib.trimPrefix, Lib.hasPrefix, List.isPrefixOf]

/-- What stands behind a sign, and whether that was a minus. -/
theorem sign_cases (x : List UInt8) : ∃ (m : Bool) (r : List UInt8), numL x = numR m r ∧
    ((m = true ∧ Lib.trimPrefix x [45] = r ∧ (r == x) = false) ∨ (m = false ∧ Lib.trimPrefix x [45] = x ∧ Lib.trimPrefix x [43] = r)) ∧ r.length ≤ x.length := by
  rcases x with _ | ⟨d, r⟩
  · exact ⟨false, [], rfl, .inr ⟨rfl, trimP_nil _, trimP_nil _⟩, by simp⟩
  · by_cases h1 : d = 45
    · subst h1
      refine ⟨true, r, rfl, .inl ⟨rfl, trimP_yes _ _, ?_⟩, by simp⟩
      rw [beq_eq_false_iff_ne]
      intro h
      have := congrArg List.length h
      simp at this
    · by_cases h2 : d = 43
      · subst h2
        exact ⟨false, r, rfl, .inr ⟨rfl, trimP_no _ _ _ (by decide), trimP_yes _ _⟩, by simp⟩
      · refine ⟨false, d :: r, ?_, .inr ⟨rfl, trimP_no _ _ _ (Ne.symm h1), trimP_no _ _ _ (Ne.symm h2)⟩, by simp⟩
        unfold numL
        split
        · rename_i h; injection h with h _; exact (h1 h).elim
        · rename_i h; injection h with h _; exact (h2 h).elim
        · rfl
def numV (o : Option (Bool × List UInt8)) : Value := .tuple #[.bool ((o.map (·.1)).getD false), .string ⟨((o.map (·.2)).getD []).toArray⟩, .bool o.isSome]
theorem numV_eq (t : Tm) : numV (numT t) = .tuple #[.bool (numM t), .string ⟨(numD t).toArray⟩, .bool (numI t)] := rfl
theorem numR_no {m : Bool} {r : List UInt8} (h : r.isEmpty = true ∨ (r.all digs.contains) = false) : numV (numR m r) = .tuple #[.bool false, .string ⟨#[]⟩, .bool false] := by
  unfold numR
  rw [if_pos (by rcases h with h | h <;> simp [h])]
  rfl
theorem numR_zero {m : Bool} {r : List UInt8} (h : r.isEmpty = false) (h2 : (r.all digs.contains) = true) (h3 : (r.dropWhile (· == 48)).isEmpty = true) : numV (numR m r) = .tuple #[.bool false, .string ⟨#[48]⟩, .bool true] := by
  unfold numR
  rw [if_neg (by simp only [h, h2]; decide), if_pos h3]
  rfl
theorem numR_yes {m : Bool} {r : List UInt8} (h : r.isEmpty = false) (h2 : (r.all digs.contains) = true) (h3 : (r.dropWhile (· == 48)).isEmpty = false) : numV (numR m r) = .tuple #[.bool m, .string ⟨(r.dropWhile (· == 48)).toArray⟩, .bool true] := by
  unfold numR
  rw [if_neg (by simp only [h, h2]; decide), if_neg (by simp [h3])]
  rfl
theorem numPack (x : ByteArray) (hs : x.size ≤ 281474976710656) : ∃ (m : Bool) (s rt z : ByteArray) (V : Value), numV (numL x.toList) = V ∧
    ((m = true ∧ (∀ W, Calls Tryz.prog 38 #[.string x, .string ⟨#[45]⟩] W fun e w' => e = .returned (.string s) ∧ W = w') ∧ (s.toList == x.toList) = false) ∨
     (m = false ∧ (∀ W, Calls Tryz.prog 38 #[.string x, .string ⟨#[45]⟩] W fun e w' => e = .returned (.string x) ∧ W = w') ∧
        (∀ W, Calls Tryz.prog 38 #[.string x, .string ⟨#[43]⟩] W fun e w' => e = .returned (.string s) ∧ W = w'))) ∧
    (∀ W, Calls Tryz.prog 40 #[.string s, .string ⟨#[48, 49, 50, 51, 52, 53, 54, 55, 56, 57]⟩] W fun e w' => e = .returned (.string rt) ∧ Below W.heap.size W w') ∧
    (∀ W, Calls Tryz.prog 41 #[.string s, .string ⟨#[48]⟩] W fun e w' => e = .returned (.string z) ∧ W = w') ∧
    (s.toList.isEmpty = true ∨ rt.toList.isEmpty = false → V = .tuple #[.bool false, .string ⟨#[]⟩, .bool false]) ∧
    (s.toList.isEmpty = false → rt.toList.isEmpty = true → z.toList.isEmpty = true → V = .tuple #[.bool false, .string ⟨#[48]⟩, .bool true]) ∧
    (s.toList.isEmpty = false → rt.toList.isEmpty = true → z.toList.isEmpty = false → V = .tuple #[.bool m, .string z, .bool true]) := by
  have h1 := fun W => trimPre x 45 W
  have h2 := fun W => trimPre x 43 W
  obtain ⟨m, r, hn, hm, hl⟩ := sign_cases x.toList
  have hrs : (⟨r.toArray⟩ : ByteArray).size ≤ 281474976710656 := by
    show r.toArray.size ≤ _
    rw [List.size_toArray]
    have : x.toList.length = x.size := by rw [ByteArray.toList_eq]; exact size_toList x
    omega
  obtain ⟨rt, hrt, hT⟩ := trimDigits ⟨r.toArray⟩ hrs
  have hz := fun W => trimZeros ⟨r.toArray⟩ W
  simp only [toList_mk] at hrt hz
  have hx : (⟨x.toList.toArray⟩ : ByteArray) = x := by rw [ByteArray.toList_eq]
  refine ⟨m, ⟨r.toArray⟩, rt, ⟨(r.dropWhile (· == 48)).toArray⟩, _, rfl, ?_, hT, hz, ?_, ?_, ?_⟩
  · rcases hm with ⟨rfl, e1, e2⟩ | ⟨rfl, e1, e2⟩
    · rw [e1] at h1
      exact .inl ⟨rfl, h1, by rw [toList_mk]; exact e2⟩
    · rw [e1, hx] at h1
      rw [e2] at h2
      exact .inr ⟨rfl, h1, h2⟩
  · rw [toList_mk r, hrt, hn]; exact numR_no
  · rw [toList_mk r, toList_mk (r.dropWhile _), hrt, hn]; exact numR_zero
  · rw [toList_mk r, toList_mk (r.dropWhile _), hrt, hn]; exact numR_yes
set_option maxHeartbeats 1000000 in
theorem filNumber (k : Int) (x l y : ByteArray) (w : World) (hs : x.size ≤ 281474976710656) :
    Calls Tryz.prog 12 #[.agg #[.int .i64 k, .string x, .string l, .string y]] w fun e w' => e = .returned (numV (numT ⟨k, x, l, y⟩)) ∧ Below w.heap.size w w' := by
  have ht := fun W => filTyped k x l y integerS W
  obtain ⟨m, s, rt, z, V, hV, hm, hT, hz, n1, n2, n3⟩ := numPack x hs
  have hfin : numV (numT ⟨k, x, l, y⟩) = if typedB ⟨k, x, l, y⟩ integerS then V else .tuple #[.bool false, .string ⟨#[]⟩, .bool false] := by
    unfold numT
    split
    · rw [← hV]
    · rfl
  rw [hfin]
  generalize typedB ⟨k, x, l, y⟩ integerS = q at ht ⊢
  unfold integerS at ht
  have N := Lib.hid (And.intro n1 (And.intro n2 n3))
  clear n1 n2 n3 hfin hV hs
  rcases hm with ⟨rfl, h1, hm⟩ | ⟨rfl, h1, h2⟩
  · cases q
    · go_enter Tryz.func12, Tryz.ntmps12
      go_wp2_with (first
        | (go_at_call 38; refine (h1 _).mono ?_; rintro e w1 ⟨rfl, rfl⟩)
        | (go_at_call 39; refine (ht _).mono ?_; rintro e w2 ⟨rfl, hb2⟩))
      go_ret3
      exact ⟨rfl, (by repeat (first | exact Below.refl _ _ | assumption | exact (Below.refl _ _).alloc (Nat.le_refl _) _ | refine below_tr ?_ (by assumption) | refine below_alloc ?_ | refine below_tr ?_ (below_regrown _ _ _)))⟩
    · go_enter Tryz.func12, Tryz.ntmps12
      go_wp2_with (first
        | (go_at_call 38; refine (h1 _).mono ?_; rintro e w1 ⟨rfl, rfl⟩)
        | (go_at_call 40; refine (hT _).mono ?_; rintro e w3 ⟨rfl, hb3⟩)
        | (go_at_call 41; refine (hz _).mono ?_; rintro e w4 ⟨rfl, rfl⟩)
        | (go_at_call 39; refine (ht _).mono ?_; rintro e w2 ⟨rfl, hb2⟩))
      all_goals
        go_ret3
        obtain ⟨n1, n2, n3⟩ := N.out
        refine ⟨?_, (by repeat (first | exact Below.refl _ _ | assumption | exact (Below.refl _ _).alloc (Nat.le_refl _) _ | refine below_tr ?_ (by assumption) | refine below_alloc ?_ | refine below_tr ?_ (below_regrown _ _ _)))⟩
        simp_all
  · have hxx : (x.toList == x.toList) = true := by simp
    cases q
    · go_enter Tryz.func12, Tryz.ntmps12
      go_wp2_with fail
      refine (h1 _).mono ?_
      rintro e w1 ⟨rfl, rfl⟩
      go_wp2_with fail
      refine (h2 _).mono ?_
      rintro e w1 ⟨rfl, rfl⟩
      go_wp2_with (go_at_call 39; refine (ht _).mono ?_; rintro e w2 ⟨rfl, hb2⟩)
      go_ret3
      exact ⟨rfl, (by repeat (first | exact Below.refl _ _ | assumption | exact (Below.refl _ _).alloc (Nat.le_refl _) _ | refine below_tr ?_ (by assumption) | refine below_alloc ?_ | refine below_tr ?_ (below_regrown _ _ _)))⟩
    · go_enter Tryz.func12, Tryz.ntmps12
      go_wp2_with fail
      refine (h1 _).mono ?_
      rintro e w1 ⟨rfl, rfl⟩
      go_wp2_with fail
      refine (h2 _).mono ?_
      rintro e w1 ⟨rfl, rfl⟩
      go_wp2_with (first
        | (go_at_call 40; refine (hT _).mono ?_; rintro e w3 ⟨rfl, hb3⟩)
        | (go_at_call 41; refine (hz _).mono ?_; rintro e w4 ⟨rfl, rfl⟩)
        | (go_at_call 39; refine (ht _).mono ?_; rintro e w2 ⟨rfl, hb2⟩))
      all_goals
        go_ret3
        obtain ⟨n1, n2, n3⟩ := N.out
        refine ⟨?_, (by repeat (first | exact Below.refl _ _ | assumption | exact (Below.refl _ _).alloc (Nat.le_refl _) _ | refine below_tr ?_ (by assumption) | refine below_alloc ?_ | refine below_tr ?_ (below_regrown _ _ _)))⟩
        simp_all
end Go.Proofs.YtfijpdmkdoccjaaGreatDoor
