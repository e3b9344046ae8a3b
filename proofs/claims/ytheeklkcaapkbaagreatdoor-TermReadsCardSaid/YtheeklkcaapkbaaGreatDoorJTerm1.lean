/- The program's package term, walked: Right. -/
import Derived.Test.YtheeklkcaapkbaaGreatDoorJUtfProg5
import Derived.Test.YtheeklkcaapkbaaGreatDoorJTms
import Derived.Test.YtheeklkcaapkbaaGreatDoorShelf2
import Derived.Test.YtheeklkcaapkbaaGreatDoorJUtfMath2
import Derived.Test.YtheeklkcaapkbaaGreatDoorJMapA
import Derived.Lib.ValidU
namespace Go.Proofs.YtheeklkcaapkbaaGreatDoor
open Go Go.RowKit Um Fm

/-- A sign's small one. -/
def lowI (r : Int) : Int := if 65 ≤ r ∧ r ≤ 90 then r + 32 else r
def validB (s : ByteArray) : Bool := Lib.validD s.data.toList
def labelB (s : ByteArray) : Bool := !s.toList.isEmpty && ((label s.data.toList : Int) == s.size)
def tagB (s : ByteArray) : Bool := ((tag s.data.toList : Int) == s.size) && ((⟨(Lib.mapD lowI s.data.toList).toArray⟩ : ByteArray).toList == s.toList)
def xsdL : List UInt8 := [104, 116, 116, 112, 58, 47, 47, 119, 119, 119, 46, 119, 51, 46, 111, 114, 103, 47, 50, 48, 48, 49, 47, 88, 77, 76, 83, 99, 104, 101, 109, 97, 35, 115, 116, 114, 105, 110, 103]

theorem termLower (r : Int) (w : World) (h0 : 0 ≤ r) (h1 : r ≤ 1114111) : Calls Tryz.prog 45 #[.int .i32 r] w fun e w' => e = .returned (.int .i32 (lowI r)) ∧ w = w' := by
  unfold lowI
  by_cases ha : 65 ≤ r
  · by_cases hb : r ≤ 90
    · have hr : (65 ≤ r ∧ r ≤ 90) := ⟨ha, hb⟩
      rw [if_pos hr]
      clear hr
      go_enter Tryz.func45, Tryz.ntmps45
      go_wp2
      go_ret
      exact ⟨rfl, rfl⟩
    · rw [if_neg (by omega)]
      go_enter Tryz.func45, Tryz.ntmps45
      go_wp2
      go_ret
      exact ⟨rfl, rfl⟩
  · rw [if_neg (by omega)]
    go_enter Tryz.func45, Tryz.ntmps45
    go_wp2
    go_ret
    exact ⟨rfl, rfl⟩
theorem termValid (l : List ByteArray) (A : Option Addr) (c : Nat) (w : World) (hl : l.length ≤ 1000) (hC : Ctx w) (hr : Rd w A (l.map Value.string)) (hz : ∀ s ∈ l, s.size ≤ 281474976710656) :
    Calls Tryz.prog 36 #[.slice A l.length c] w fun e w' => e = .returned (.bool (l.all validB)) ∧ Below w.heap.size w w' := by
  go_enter Tryz.func36, Tryz.ntmps36
  go_wp2
  go_loopw [7] (fun i wr => ∃ k : Nat, k ≤ l.length ∧ i = .int .i64 k ∧ Hid (l.all validB = (l.drop k).all validB) ∧ Below w.heap.size w wr) (fun i _ => l.length - (intOf i).toNat)
  case atStart => exact ⟨0, by omega, rfl, rfl, Below.refl _ _⟩
  case round =>
    obtain ⟨k, hk, rfl, H, hB⟩ := hrel
    by_cases hlt : k < l.length
    · obtain ⟨y, hx⟩ : ∃ x, l[k]? = some x := ⟨_, List.getElem?_eq_getElem hlt⟩
      obtain ⟨g, o, rfl, hcx⟩ := (hr.later hB).at_ (j := k) (u := .string y) (by simp [hx])
      have hd := drop_cons_of hx
      have H2 : Hid (l.all validB = (validB y && (l.drop (k+1)).all validB)) := by show _ = _; rw [H.out, hd, List.all_cons]
      have hV := Tryz.utf8_ValidString y wr (by have := hz y (List.mem_of_getElem? hx); omega) (hC.step hB).tabs
      rw [show Lib.validD y.data.toList = validB y from rfl] at hV
      clear hx hd H hr hz hC
      generalize validB y = q at *
      cases q
      · go_wp2_with (refine hV.mono ?_; rintro e w2 ⟨rfl, hb2⟩)
        go_ret
        exact ⟨by rw [H2.out]; rfl, below_tr hB hb2⟩
      · go_wp2_with (refine hV.mono ?_; rintro e w2 ⟨rfl, hb2⟩)
        go_roundw
        case rel => exact ⟨k+1, by omega, by go_num, by show _ = _; rw [H2.out]; rfl, below_tr hB hb2⟩
        case measure => simp [intOf]; omega
    · have H2 : Hid (l.all validB = true) := by show _ = _; rw [H.out, List.drop_eq_nil_of_le (by omega)]; rfl
      clear H hr hz
      go_wp2
      go_ret
      exact ⟨by rw [H2.out]; rfl, hB⟩
theorem termLabel (s : ByteArray) (w : World) (hC : Ctx w) (hs : s.size ≤ 281474976710656) : Calls Tryz.prog 37 #[.string s] w fun e w' => e = .returned (.bool (labelB s)) ∧ Below w.heap.size w w' := by
  have hL := utfLabel s w hC hs
  unfold labelB
  generalize label s.data.toList = n at *
  cases he : s.toList.isEmpty
  · cases hq : ((n : Int) == s.size)
    all_goals
      go_enter Tryz.func37, Tryz.ntmps37
      go_wp2_with (refine hL.mono ?_; rintro e w2 ⟨rfl, hb2⟩)
      go_ret
      exact ⟨rfl, hb2⟩
  · go_enter Tryz.func37, Tryz.ntmps37
    go_wp2
    go_ret
    exact ⟨rfl, Below.refl _ _⟩
theorem tag_plain {s : ByteArray} (h : ((tag s.data.toList : Int) == s.size) = true) : ∀ (i : Nat) (hi : i < s.size), (s[i]'hi).toNat < 128 := by
  have h1 : tag s.data.toList = s.size := by have := eq_of_beq h; omega
  intro i hi
  have h2 := (tag_reach s.data.toList).bytes i (by rw [h1]; exact hi)
  have h3 : s.data.toList.getD i 0 = s[i]'hi := by
    rw [List.getD_eq_getElem?_getD, List.getElem?_eq_getElem (by rw [← Lib.size_eq]; exact hi)]
    rfl
  rw [h3] at h2
  generalize (s[i]'hi).toNat = n at *
  simp [alnumB, alphaB, digitB, inB] at h2
  omega
theorem termTag (s : ByteArray) (w : World) (_hC : Ctx w) (hs : s.size ≤ 140737488351232) : Calls Tryz.prog 38 #[.string s] w fun e w' => e = .returned (.bool (tagB s)) ∧ Below w.heap.size w w' := by
  have hT := utfTag s w (by omega)
  have eg : ∀ args W, (callFunc 45 args).run Tryz.prog W = .ok (.enter 45 args) W := enters_of Tryz.func45 (by kernel_rfl) rfl
  have hM := fun (hp : ∀ (i : Nat) (hi : i < s.size), (s[i]'hi).toNat < 128) W (_ : Below w.heap.size w W) => mapPlain Tryz.lays230 Tryz.Builder_Extra_230 45 eg lowI s W (by omega) hp
    (fun W' x hx _ => (termLower x W' (by omega) (by omega)).mono fun e w' ⟨h1, h2⟩ => ⟨h1, 0, by rw [← h2]; rfl⟩) (fun x hx => by unfold lowI; split <;> omega)
  have hP := tag_plain (s := s)
  unfold tagB
  generalize (⟨(Lib.mapD lowI s.data.toList).toArray⟩ : ByteArray) = m at *
  generalize tag s.data.toList = n at *
  clear eg
  cases hq : ((n : Int) == s.size)
  · clear hM hP
    go_enter Tryz.func38, Tryz.ntmps38
    go_wp2_with (refine hT.mono ?_; rintro e w2 ⟨rfl, hb2⟩)
    go_ret
    exact ⟨rfl, hb2⟩
  · have hM1 := hM (hP hq)
    clear hM hP
    go_enter Tryz.func38, Tryz.ntmps38
    go_wp2_with fail
    refine hT.mono ?_
    rintro e w2 ⟨rfl, hb2⟩
    have hM2 := hM1 _ hb2
    clear hM1
    cases hq2 : (m.toList == s.toList)
    all_goals
      go_wp2_with (refine hM2.mono ?_; rintro e w3 ⟨rfl, hb3⟩)
      go_ret
      exact ⟨by rw [hq2]; rfl, below_tr hb2 hb3⟩

def emptyB (s : ByteArray) : Bool := s.toList.isEmpty
/-- What a right term is. -/
def rightB (t : Tm) : Bool :=
  if t.k = 1 then emptyB (t.l ++ t.y) && validB t.x
  else if t.k = 2 then emptyB (t.l ++ t.y) && labelB t.x
  else if t.k = 3 then emptyB t.y && validB t.x && tagB t.l
  else if t.k = 4 then emptyB t.l && !(t.y.toList == xsdL) && (validB t.x && validB t.y)
  else false
set_option maxRecDepth 20000 in
set_option maxHeartbeats 2000000 in
theorem termRight (t : Tm) (w : World) (hC : Ctx w) (hx : t.x.size ≤ 281474976710656) (hl : t.l.size ≤ 140737488351232) (hy : t.y.size ≤ 281474976710656) :
    Calls Tryz.prog 12 #[.agg #[.int .i64 t.k, .string t.x, .string t.l, .string t.y]] w fun e w' => e = .returned (.bool (rightB t)) ∧ Below w.heap.size w w' := by
  obtain ⟨k, x, l, y⟩ := t
  simp only at hx hl hy ⊢
  have hB0 : Below w.heap.size w (w.alloc (.cells #[.int .i64 k, .string x, .string l, .string y] 24)) := (by repeat (first | exact Below.refl _ _ | assumption | exact (Below.refl _ _).alloc (Nat.le_refl _) _ | refine below_tr ?_ (by assumption) | refine below_alloc ?_ | refine below_tr ?_ (below_regrown _ _ _)))
  have hC1 := hC.step hB0
  have hV : ∀ W, Below w.heap.size w W → Calls Tryz.prog 36 #[.slice (some ⟨W.heap.size, 0, none⟩) 1 1] (W.alloc (.cells #[.string x] 9)) fun e w' => e = .returned (.bool (validB x)) ∧ Below w.heap.size w w' ∧ Below W.heap.size W w' := by
    intro W hb
    have hb2 : Below W.heap.size W (W.alloc (.cells #[.string x] 9)) := (by repeat (first | exact Below.refl _ _ | assumption | exact (Below.refl _ _).alloc (Nat.le_refl _) _ | refine below_tr ?_ (by assumption) | refine below_alloc ?_ | refine below_tr ?_ (below_regrown _ _ _)))
    refine (termValid [x] (some ⟨W.heap.size, 0, none⟩) 1 _ (by simp) (hC.step (below_tr hb hb2)) (Rd.of_block (heap_alloc_new _ _) rfl) (by intro s hs; simp at hs; rw [hs]; exact hx)).mono ?_
    rintro e w' ⟨rfl, hb3⟩
    exact ⟨by simp, below_tr (below_tr hb hb2) hb3, below_tr hb2 hb3⟩
  have hV2 : ∀ W, Below w.heap.size w W → Calls Tryz.prog 36 #[.slice (some ⟨W.heap.size, 0, none⟩) 2 2] (W.alloc (.cells #[.string x, .string y] 9)) fun e w' => e = .returned (.bool (validB x && validB y)) ∧ Below w.heap.size w w' := by
    intro W hb
    have hb2 : Below W.heap.size W (W.alloc (.cells #[.string x, .string y] 9)) := (by repeat (first | exact Below.refl _ _ | assumption | exact (Below.refl _ _).alloc (Nat.le_refl _) _ | refine below_tr ?_ (by assumption) | refine below_alloc ?_ | refine below_tr ?_ (below_regrown _ _ _)))
    refine (termValid [x, y] (some ⟨W.heap.size, 0, none⟩) 2 _ (by simp) (hC.step (below_tr hb hb2)) (Rd.of_block (heap_alloc_new _ _) rfl) (by intro s hs; simp at hs; rcases hs with rfl | rfl; exact hx; exact hy)).mono ?_
    rintro e w' ⟨rfl, hb3⟩
    exact ⟨by simp, below_tr (below_tr hb hb2) hb3⟩
  have hL := termLabel x _ hC1 hx
  have hT := fun W hb => termTag l W (hC.step hb) hl
  have hV1 := hV _ hB0
  have hV3 := hV2 _ hB0
  simp only [World.size_alloc] at hV1 hV3
  clear hV hV2
  have HB := Lib.hid hB0
  unfold rightB emptyB xsdL
  simp only
  generalize validB x = v at *
  generalize validB y = v2 at *
  generalize labelB x = lb at *
  generalize tagB l = tg at *
  by_cases h1 : k = 1
  · subst h1
    rw [if_pos rfl]
    cases he : (l ++ y).toList.isEmpty
    · go_enter Tryz.func12, Tryz.ntmps12
      go_wp2
      go_ret
      exact ⟨rfl, hB0⟩
    · go_enter Tryz.func12, Tryz.ntmps12
      go_wp2_with (refine hV1.mono ?_; rintro e w2 ⟨rfl, hb2, hb2'⟩)
      go_ret
      exact ⟨rfl, hb2⟩
  rw [if_neg h1]
  by_cases h2 : k = 2
  · subst h2
    rw [if_pos rfl]
    clear h1
    cases he : (l ++ y).toList.isEmpty
    · go_enter Tryz.func12, Tryz.ntmps12
      go_wp2
      go_ret
      exact ⟨rfl, hB0⟩
    · go_enter Tryz.func12, Tryz.ntmps12
      go_wp2_with (refine hL.mono ?_; rintro e w2 ⟨rfl, hb2⟩)
      go_ret
      exact ⟨rfl, below_tr HB.out hb2⟩
  rw [if_neg h2]
  by_cases h3 : k = 3
  · subst h3
    rw [if_pos rfl]
    clear h1 h2
    cases he : y.toList.isEmpty
    · go_enter Tryz.func12, Tryz.ntmps12
      go_wp2
      go_ret
      exact ⟨rfl, hB0⟩
    · cases v
      · go_enter Tryz.func12, Tryz.ntmps12
        go_wp2_with (refine hV1.mono ?_; rintro e w2 ⟨rfl, hb2, hb2'⟩)
        go_ret
        exact ⟨rfl, hb2⟩
      · go_enter Tryz.func12, Tryz.ntmps12
        go_wp2_with fail
        refine hV1.mono ?_
        rintro e w2 ⟨rfl, hb2, hb2'⟩
        have hT2 := hT w2 hb2
        have e2 : w2.cell? ⟨w.heap.size, 2, none⟩ = some (.string l) := by
          rw [hb2'.cell (p := ⟨w.heap.size, 2, none⟩) (by simp), World.cell?, heap_alloc_new]; rfl
        clear hT hV1 hV3 hL
        go_wp2_with (refine hT2.mono ?_; rintro e w3 ⟨rfl, hb3⟩)
        go_ret
        exact ⟨rfl, below_tr hb2 hb3⟩
  rw [if_neg h3]
  by_cases h4 : k = 4
  · subst h4
    rw [if_pos rfl]
    clear h1 h2 h3
    cases he : l.toList.isEmpty
    · go_enter Tryz.func12, Tryz.ntmps12
      go_wp2
      go_ret
      exact ⟨rfl, hB0⟩
    · cases hq : (y.toList == [104, 116, 116, 112, 58, 47, 47, 119, 119, 119, 46, 119, 51, 46, 111, 114, 103, 47, 50, 48, 48, 49, 47, 88, 77, 76, 83, 99, 104, 101, 109, 97, 35, 115, 116, 114, 105, 110, 103])
      · have hqn : (y.toList != [104, 116, 116, 112, 58, 47, 47, 119, 119, 119, 46, 119, 51, 46, 111, 114, 103, 47, 50, 48, 48, 49, 47, 88, 77, 76, 83, 99, 104, 101, 109, 97, 35, 115, 116, 114, 105, 110, 103]) = true := by rw [bne, hq]; rfl
        go_enter Tryz.func12, Tryz.ntmps12
        go_wp2_with (refine hV3.mono ?_; rintro e w2 ⟨rfl, hb2⟩)
        go_ret
        exact ⟨rfl, hb2⟩
      · have hqn : (y.toList != [104, 116, 116, 112, 58, 47, 47, 119, 119, 119, 46, 119, 51, 46, 111, 114, 103, 47, 50, 48, 48, 49, 47, 88, 77, 76, 83, 99, 104, 101, 109, 97, 35, 115, 116, 114, 105, 110, 103]) = false := by rw [bne, hq]; rfl
        go_enter Tryz.func12, Tryz.ntmps12
        go_wp2
        go_ret
        exact ⟨rfl, hB0⟩
  rw [if_neg h4]
  have k1 : (k == 1) = false := by simpa using h1
  have k2 : (k == 2) = false := by simpa using h2
  have k3 : (k == 3) = false := by simpa using h3
  have k4 : (k == 4) = false := by simpa using h4
  clear h1 h2 h3 h4
  go_enter Tryz.func12, Tryz.ntmps12
  go_wp2
  go_ret
  exact ⟨rfl, hB0⟩
end Go.Proofs.YtheeklkcaapkbaaGreatDoor
