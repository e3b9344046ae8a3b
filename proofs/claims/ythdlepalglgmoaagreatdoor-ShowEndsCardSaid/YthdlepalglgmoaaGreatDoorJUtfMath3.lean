/- The program's package term, walked: Right. The answer for term (ossuaryref08), in plain words: valid texts, small tags. Texts and their signs, in plain Lean: there and back; what is not valid; in which order texts stand. -/
import Derived.Test.YthdlepalglgmoaaGreatDoorJUtfProg5
import Derived.Test.YthdlepalglgmoaaGreatDoorJTms
import Derived.Test.YthdlepalglgmoaaGreatDoorShelf2
import Derived.Test.YthdlepalglgmoaaGreatDoorJMapA
import Derived.Lib.ValidU
import Derived.Lib.TrimUEq
import Derived.Lib.TrimAscii
import Derived.Lib.MapLaws
import GoSem.Op.String
namespace Go.Proofs.YthdlepalglgmoaaGreatDoor
open Go Go.RowKit Um Fm

/-- A sign's small one. -/
def lowI (r : Int) : Int := if 65 ≤ r ∧ r ≤ 90 then r + 32 else r
def validB (s : ByteArray) : Bool := Lib.validD s.data.toList
def labelB (s : ByteArray) : Bool := !s.toList.isEmpty && ((label s.data.toList : Int) == s.size)
def tagB (s : ByteArray) : Bool := ((tag s.data.toList : Int) == s.size) && ((⟨(Lib.mapD lowI s.data.toList).toArray⟩ : ByteArray).toList == s.toList)
def xsdL : List UInt8 := [104, 116, 116, 112, 58, 47, 47, 119, 119, 119, 46, 119, 51, 46, 111, 114, 103, 47, 50, 48, 48, 49, 47, 88, 77, 76, 83, 99, 104, 101, 109, 97, 35, 115, 116, 114, 105, 110, 103]

theorem termLower (r : Int) (w : World) (h0 : 0 ≤ r) (h1 : r ≤ 1114111) : Calls Tryz.prog 11 #[.int .i32 r] w fun e w' => e = .returned (.int .i32 (lowI r)) ∧ w = w' := by
  unfold lowI
  by_cases ha : 65 ≤ r
  · by_cases hb : r ≤ 90
    · have hr : (65 ≤ r ∧ r ≤ 90) := ⟨ha, hb⟩
      rw [if_pos hr]
      clear hr
      go_enter Tryz.func11, Tryz.ntmps11
      go_wp2
      go_ret
      exact ⟨rfl, rfl⟩
    · rw [if_neg (by omega)]
      go_enter Tryz.func11, Tryz.ntmps11
      go_wp2
      go_ret
      exact ⟨rfl, rfl⟩
  · rw [if_neg (by omega)]
    go_enter Tryz.func11, Tryz.ntmps11
    go_wp2
    go_ret
    exact ⟨rfl, rfl⟩
theorem termValid (l : List ByteArray) (A : Option Addr) (c : Nat) (w : World) (hl : l.length ≤ 1000) (hC : Ctx w) (hr : Rd w A (l.map Value.string)) (hz : ∀ s ∈ l, s.size ≤ 281474976710656) :
    Calls Tryz.prog 48 #[.slice A l.length c] w fun e w' => e = .returned (.bool (l.all validB)) ∧ Below w.heap.size w w' := by
  go_enter Tryz.func48, Tryz.ntmps48
  go_wp2
  go_loopw [7] (fun i wr => ∃ k : Nat, k ≤ l.length ∧ i = .int .i64 k ∧ Hid (l.all validB = (l.drop k).all validB) ∧ Below w.heap.size w wr) (fun i _ => l.length - (intOf i).toNat)
  case atStart => exact ⟨0, by omega, rfl, rfl, Below.refl _ _⟩
  case round =>
    obtain ⟨k, hk, rfl, H, hB⟩ := hrel
    by_cases hlt : k < l.length
    · obtain ⟨y, hx⟩ : ∃ x, l[k]? = some x := ⟨_, List.getElem?_eq_getElem hlt⟩
      obtain ⟨g, o, rfl, hcx⟩ := (hr.later hB).at_ (j := k) (u := .string y) (by simp [hx])
      have hd := drop_cons_of hx
      have H2 : Hid (l.all validB = (validB y && (l.drop (k+1)).all validB)) := by show _ = _; rw [H.out, hd, List.all_cons]
      have hV := Tryz.utf8_ValidString y wr (by have := hz y (List.mem_of_getElem? hx); omega) (hC.step hB).tabs
      rw [show Lib.validD y.data.toList = validB y from rfl] at hV
      clear hx hd H hr hz hC
      generalize validB y = q at *
      cases q
      · go_wp2_with (refine hV.mono ?_; rintro e w2 ⟨rfl, hb2⟩)
        go_ret
        exact ⟨by rw [H2.out]; rfl, below_tr hB hb2⟩
      · go_wp2_with (refine hV.mono ?_; rintro e w2 ⟨rfl, hb2⟩)
        go_roundw
        case rel => exact ⟨k+1, by omega, by go_num, by show _ = _; rw [H2.out]; rfl, below_tr hB hb2⟩
        case measure => simp [intOf]; omega
    · have H2 : Hid (l.all validB = true) := by show _ = _; rw [H.out, List.drop_eq_nil_of_le (by omega)]; rfl
      clear H hr hz
      go_wp2
      go_ret
      exact ⟨by rw [H2.out]; rfl, hB⟩
theorem termLabel (s : ByteArray) (w : World) (hC : Ctx w) (hs : s.size ≤ 281474976710656) : Calls Tryz.prog 49 #[.string s] w fun e w' => e = .returned (.bool (labelB s)) ∧ Below w.heap.size w w' := by
  have hL := utfLabel s w hC hs
  unfold labelB
  generalize label s.data.toList = n at *
  cases he : s.toList.isEmpty
  · cases hq : ((n : Int) == s.size)
    all_goals
      go_enter Tryz.func49, Tryz.ntmps49
      go_wp2_with (refine hL.mono ?_; rintro e w2 ⟨rfl, hb2⟩)
      go_ret
      exact ⟨rfl, hb2⟩
  · go_enter Tryz.func49, Tryz.ntmps49
    go_wp2
    go_ret
    exact ⟨rfl, Below.refl _ _⟩
theorem tag_plain {s : ByteArray} (h : ((tag s.data.toList : Int) == s.size) = true) : ∀ (i : Nat) (hi : i < s.size), (s[i]'hi).toNat < 128 := by
  have h1 : tag s.data.toList = s.size := by have := eq_of_beq h; omega
  intro i hi
  have h2 := (tag_reach s.data.toList).bytes i (by rw [h1]; exact hi)
  have h3 : s.data.toList.getD i 0 = s[i]'hi := by
    rw [List.getD_eq_getElem?_getD, List.getElem?_eq_getElem (by rw [← Lib.size_eq]; exact hi)]
    rfl
  rw [h3] at h2
  generalize (s[i]'hi).toNat = n at *
  simp [alnumB, alphaB, digitB, inB] at h2
  omega
theorem termTag (s : ByteArray) (w : World) (_hC : Ctx w) (hs : s.size ≤ 140737488351232) : Calls Tryz.prog 50 #[.string s] w fun e w' => e = .returned (.bool (tagB s)) ∧ Below w.heap.size w w' := by
  have hT := utfTag s w (by omega)
  have eg : ∀ args W, (callFunc 11 args).run Tryz.prog W = .ok (.enter 11 args) W := enters_of Tryz.func11 (by kernel_rfl) rfl
  have hM := fun (hp : ∀ (i : Nat) (hi : i < s.size), (s[i]'hi).toNat < 128) W (_ : Below w.heap.size w W) => mapPlain Tryz.lays230 Tryz.Builder_Extra_230 11 eg lowI s W (by omega) hp
    (fun W' x hx _ => (termLower x W' (by omega) (by omega)).mono fun e w' ⟨h1, h2⟩ => ⟨h1, 0, by rw [← h2]; rfl⟩) (fun x hx => by unfold lowI; split <;> omega)
  have hP := tag_plain (s := s)
  unfold tagB
  generalize (⟨(Lib.mapD lowI s.data.toList).toArray⟩ : ByteArray) = m at *
  generalize tag s.data.toList = n at *
  clear eg
  cases hq : ((n : Int) == s.size)
  · clear hM hP
    go_enter Tryz.func50, Tryz.ntmps50
    go_wp2_with (refine hT.mono ?_; rintro e w2 ⟨rfl, hb2⟩)
    go_ret
    exact ⟨rfl, hb2⟩
  · have hM1 := hM (hP hq)
    clear hM hP
    go_enter Tryz.func50, Tryz.ntmps50
    go_wp2_with fail
    refine hT.mono ?_
    rintro e w2 ⟨rfl, hb2⟩
    have hM2 := hM1 _ hb2
    clear hM1
    cases hq2 : (m.toList == s.toList)
    all_goals
      go_wp2_with (refine hM2.mono ?_; rintro e w3 ⟨rfl, hb3⟩)
      go_ret
      exact ⟨by rw [hq2]; rfl, below_tr hb2 hb3⟩

def emptyB (s : ByteArray) : Bool := s.toList.isEmpty
/-- What a right term is. -/
def rightB (t : Tm) : Bool :=
  if t.k = 1 then emptyB (t.l ++ t.y) && validB t.x
  else if t.k = 2 then emptyB (t.l ++ t.y) && labelB t.x
  else if t.k = 3 then emptyB t.y && validB t.x && tagB t.l
  else if t.k = 4 then emptyB t.l && !(t.y.toList == xsdL) && (validB t.x && validB t.y)
  else false
set_option maxRecDepth 20000 in
set_option maxHeartbeats 2000000 in
theorem termRight (t : Tm) (w : World) (hC : Ctx w) (hx : t.x.size ≤ 281474976710656) (hl : t.l.size ≤ 140737488351232) (hy : t.y.size ≤ 281474976710656) :
    Calls Tryz.prog 37 #[.agg #[.int .i64 t.k, .string t.x, .string t.l, .string t.y]] w fun e w' => e = .returned (.bool (rightB t)) ∧ Below w.heap.size w w' := by
  obtain ⟨k, x, l, y⟩ := t
  simp only at hx hl hy ⊢
  have hB0 : Below w.heap.size w (w.alloc (.cells #[.int .i64 k, .string x, .string l, .string y] 24)) := (by repeat (first | exact Below.refl _ _ | assumption | exact (Below.refl _ _).alloc (Nat.le_refl _) _ | refine below_tr ?_ (by assumption) | refine below_alloc ?_ | refine below_tr ?_ (below_regrown _ _ _)))
  have hC1 := hC.step hB0
  have hV : ∀ W, Below w.heap.size w W → Calls Tryz.prog 48 #[.slice (some ⟨W.heap.size, 0, none⟩) 1 1] (W.alloc (.cells #[.string x] 9)) fun e w' => e = .returned (.bool (validB x)) ∧ Below w.heap.size w w' ∧ Below W.heap.size W w' := by
    intro W hb
    have hb2 : Below W.heap.size W (W.alloc (.cells #[.string x] 9)) := (by repeat (first | exact Below.refl _ _ | assumption | exact (Below.refl _ _).alloc (Nat.le_refl _) _ | refine below_tr ?_ (by assumption) | refine below_alloc ?_ | refine below_tr ?_ (below_regrown _ _ _)))
    refine (termValid [x] (some ⟨W.heap.size, 0, none⟩) 1 _ (by simp) (hC.step (below_tr hb hb2)) (Rd.of_block (heap_alloc_new _ _) rfl) (by intro s hs; simp at hs; rw [hs]; exact hx)).mono ?_
    rintro e w' ⟨rfl, hb3⟩
    exact ⟨by simp, below_tr (below_tr hb hb2) hb3, below_tr hb2 hb3⟩
  have hV2 : ∀ W, Below w.heap.size w W → Calls Tryz.prog 48 #[.slice (some ⟨W.heap.size, 0, none⟩) 2 2] (W.alloc (.cells #[.string x, .string y] 9)) fun e w' => e = .returned (.bool (validB x && validB y)) ∧ Below w.heap.size w w' := by
    intro W hb
    have hb2 : Below W.heap.size W (W.alloc (.cells #[.string x, .string y] 9)) := (by repeat (first | exact Below.refl _ _ | assumption | exact (Below.refl _ _).alloc (Nat.le_refl _) _ | refine below_tr ?_ (by assumption) | refine below_alloc ?_ | refine below_tr ?_ (below_regrown _ _ _)))
    refine (termValid [x, y] (some ⟨W.heap.size, 0, none⟩) 2 _ (by simp) (hC.step (below_tr hb hb2)) (Rd.of_block (heap_alloc_new _ _) rfl) (by intro s hs; simp at hs; rcases hs with rfl | rfl; exact hx; exact hy)).mono ?_
    rintro e w' ⟨rfl, hb3⟩
    exact ⟨by simp, below_tr (below_tr hb hb2) hb3⟩
  have hL := termLabel x _ hC1 hx
  have hT := fun W hb => termTag l W (hC.step hb) hl
  have hV1 := hV _ hB0
  have hV3 := hV2 _ hB0
  simp only [World.size_alloc] at hV1 hV3
  clear hV hV2
  have HB := Lib.hid hB0
  unfold rightB emptyB xsdL
  simp only
  generalize validB x = v at *
  generalize validB y = v2 at *
  generalize labelB x = lb at *
  generalize tagB l = tg at *
  by_cases h1 : k = 1
  · subst h1
    rw [if_pos rfl]
    cases he : (l ++ y).toList.isEmpty
    · go_enter Tryz.func37, Tryz.ntmps37
      go_wp2
      go_ret
      exact ⟨rfl, hB0⟩
    · go_enter Tryz.func37, Tryz.ntmps37
      go_wp2_with (refine hV1.mono ?_; rintro e w2 ⟨rfl, hb2, hb2'⟩)
      go_ret
      exact ⟨rfl, hb2⟩
  rw [if_neg h1]
  by_cases h2 : k = 2
  · subst h2
    rw [if_pos rfl]
    clear h1
    cases he : (l ++ y).toList.isEmpty
    · go_enter Tryz.func37, Tryz.ntmps37
      go_wp2
      go_ret
      exact ⟨rfl, hB0⟩
    · go_enter Tryz.func37, Tryz.ntmps37
      go_wp2_with (refine hL.mono ?_; rintro e w2 ⟨rfl, hb2⟩)
      go_ret
      exact ⟨rfl, below_tr HB.out hb2⟩
  rw [if_neg h2]
  by_cases h3 : k = 3
  · subst h3
    rw [if_pos rfl]
    clear h1 h2
    cases he : y.toList.isEmpty
    · go_enter Tryz.func37, Tryz.ntmps37
      go_wp2
      go_ret
      exact ⟨rfl, hB0⟩
    · cases v
      · go_enter Tryz.func37, Tryz.ntmps37
        go_wp2_with (refine hV1.mono ?_; rintro e w2 ⟨rfl, hb2, hb2'⟩)
        go_ret
        exact ⟨rfl, hb2⟩
      · go_enter Tryz.func37, Tryz.ntmps37
        go_wp2_with fail
        refine hV1.mono ?_
        rintro e w2 ⟨rfl, hb2, hb2'⟩
        have hT2 := hT w2 hb2
        have e2 : w2.cell? ⟨w.heap.size, 2, none⟩ = some (.string l) := by
          rw [hb2'.cell (p := ⟨w.heap.size, 2, none⟩) (by simp), World.cell?, heap_alloc_new]; rfl
        clear hT hV1 hV3 hL
        go_wp2_with (refine hT2.mono ?_; rintro e w3 ⟨rfl, hb3⟩)
        go_ret
        exact ⟨rfl, below_tr hb2 hb3⟩
  rw [if_neg h3]
  by_cases h4 : k = 4
  · subst h4
    rw [if_pos rfl]
    clear h1 h2 h3
    cases he : l.toList.isEmpty
    · go_enter Tryz.func37, Tryz.ntmps37
      go_wp2
      go_ret
      exact ⟨rfl, hB0⟩
    · cases hq : (y.toList == [104, 116, 116, 112, 58, 47, 47, 119, 119, 119, 46, 119, 51, 46, 111, 114, 103, 47, 50, 48, 48, 49, 47, 88, 77, 76, 83, 99, 104, 101, 109, 97, 35, 115, 116, 114, 105, 110, 103])
      · have hqn : (y.toList != [104, 116, 116, 112, 58, 47, 47, 119, 119, 119, 46, 119, 51, 46, 111, 114, 103, 47, 50, 48, 48, 49, 47, 88, 77, 76, 83, 99, 104, 101, 109, 97, 35, 115, 116, 114, 105, 110, 103]) = true := by rw [bne, hq]; rfl
        go_enter Tryz.func37, Tryz.ntmps37
        go_wp2_with (refine hV3.mono ?_; rintro e w2 ⟨rfl, hb2⟩)
        go_ret
        exact ⟨rfl, hb2⟩
      · have hqn : (y.toList != [104, 116, 116, 112, 58, 47, 47, 119, 119, 119, 46, 119, 51, 46, 111, 114, 103, 47, 50, 48, 48, 49, 47, 88, 77, 76, 83, 99, 104, 101, 109, 97, 35, 115, 116, 114, 105, 110, 103]) = false := by rw [bne, hq]; rfl
        go_enter Tryz.func37, Tryz.ntmps37
        go_wp2
        go_ret
        exact ⟨rfl, hB0⟩
  rw [if_neg h4]
  have k1 : (k == 1) = false := by simpa using h1
  have k2 : (k == 2) = false := by simpa using h2
  have k3 : (k == 3) = false := by simpa using h3
  have k4 : (k == 4) = false := by simpa using h4
  clear h1 h2 h3 h4
  go_enter Tryz.func37, Tryz.ntmps37
  go_wp2
  go_ret
  exact ⟨rfl, hB0⟩
end Go.Proofs.YthdlepalglgmoaaGreatDoor
namespace Go.Proofs.YthdlepalglgmoaaGreatDoor
open Go Go.RowKit Um Fm

theorem sgn_validR : ∀ (n : Nat) (l : List UInt8), l.length ≤ n → (sgn l).2.2 = Lib.validD l
  | 0, l, h => by
    have : l = [] := List.eq_nil_of_length_eq_zero (by omega)
    subst this; rfl
  | n + 1, l, h => by
    by_cases hne : l = []
    · subst hne; rfl
    · have hl : 0 < l.length := List.length_pos_iff.2 hne
      have hp := decodeN_pos l.length (l.getD 0 0).toNat (l.getD 1 0).toNat (l.getD 2 0).toNat (l.getD 3 0).toNat
      rw [Lib.validD_step l hne, Lib.decodeL_N]
      have hnx : nx l = if Lib.decodeN l.length (l.getD 0 0).toNat (l.getD 1 0).toNat (l.getD 2 0).toNat (l.getD 3 0).toNat = (65533, 1) then (0, 0) else Lib.decodeN l.length (l.getD 0 0).toNat (l.getD 1 0).toNat (l.getD 2 0).toNat (l.getD 3 0).toNat := by
        unfold nx; rw [if_neg (by omega)]
      generalize Lib.decodeN l.length (l.getD 0 0).toNat (l.getD 1 0).toNat (l.getD 2 0).toNat (l.getD 3 0).toNat = d at *
      obtain ⟨a, b⟩ := d
      by_cases hb : a = 65533 ∧ b = 1
      · obtain ⟨rfl, rfl⟩ := hb
        rw [if_pos rfl] at hnx
        rw [sgn_bad l (by omega) (by rw [hnx])]
        simp
      · rw [if_neg (by simpa using hb)] at hnx
        rw [sgn_cons l (by omega) (by rw [hnx]; simp only at hp ⊢; omega), hnx]
        rw [if_neg (by simpa using hb)]
        exact sgn_validR n _ (by simp only at hp ⊢; rw [List.length_drop]; omega)
/-- What Signs says of a text is whether it is valid. -/
theorem sigR_valid (s : ByteArray) : ((sigR s.data.toList).2.2 == 0) = validB s := by
  unfold sigR validB
  rw [← sgn_validR _ s.data.toList (Nat.le_refl _)]
  cases (sgn s.data.toList).2.2 <;> rfl
theorem sigR_of_valid {s : ByteArray} (h : validB s = true) : (sigR s.data.toList).2.2 = 0 := by rw [← sigR_valid] at h; exact eq_of_beq h
theorem sigR_of_not {s : ByteArray} (h : validB s = false) : (sigR s.data.toList).2.2 = 11 := by
  rw [← sigR_valid] at h
  revert h
  unfold sigR
  split <;> simp

def upB (b : UInt8) : Bool := decide (65 ≤ b.toNat) && decide (b.toNat ≤ 90)
def smallB (l : List UInt8) : Bool := l.all fun b => !upB b
theorem mapLow_cons (b : UInt8) (t : List UInt8) (h : b.toNat < 128) : Lib.mapD lowI (b :: t) = (if upB b then UInt8.ofNat (b.toNat + 32) else b) :: Lib.mapD lowI t := by
  rw [Lib.mapD_step lowI (b :: t) (by simp), Lib.decodeL_ascii b t h]
  have hlow : 0 ≤ lowI (b.toNat : Int) ∧ lowI (b.toNat : Int) ≤ 127 := by unfold lowI; split <;> omega
  have he : Lib.encodeRune (lowI (b.toNat : Int)) = [(lowI (b.toNat : Int)).toNat.toUInt8] := by unfold Lib.encodeRune; rw [Lib.encodeRuneZ_one hlow.1 hlow.2]; rfl
  simp only [List.drop_succ_cons, List.drop_zero]
  rw [if_pos hlow.1, he]
  simp only [List.cons_append, List.nil_append, List.cons.injEq, and_true]
  unfold lowI upB
  by_cases h1 : 65 ≤ b.toNat
  · by_cases h2 : b.toNat ≤ 90
    · rw [if_pos (by omega)]
      simp only [h1, h2, decide_true, Bool.and_self, if_true]
      congr 1
    · rw [if_neg (by omega)]
      simp [h2]
  · rw [if_neg (by omega)]
    simp [h1]
theorem mapLow_small : ∀ (l : List UInt8), (∀ b ∈ l, b.toNat < 128) → (decide (Lib.mapD lowI l = l)) = smallB l
  | [], _ => rfl
  | b :: t, h => by
    have hb := h b (by simp)
    have ih := mapLow_small t fun x hx => h x (by simp [hx])
    rw [mapLow_cons b t hb]
    unfold smallB at ih ⊢
    rw [List.all_cons, ← ih]
    cases hu : upB b
    · simp
    · have hne : UInt8.ofNat (b.toNat + 32) ≠ b := by
        intro e
        have h1 := congrArg UInt8.toNat e
        unfold upB at hu
        simp at hu
        rw [UInt8.toNat_ofNat'] at h1
        omega
      simp
/-- A tag is small just if none of A to Z is in it. -/
theorem tagB_small (s : ByteArray) : tagB s = (((tag s.data.toList : Int) == s.size) && smallB s.data.toList) := by
  unfold tagB
  cases h : ((tag s.data.toList : Int) == s.size)
  · rfl
  · have hp := tag_plain h
    rw [Bool.true_and, Bool.true_and, ← mapLow_small]
    · rw [ByteArray.toList_mk, ByteArray.toList_eq]
      rw [Bool.eq_iff_iff]; simp
    · intro b hb
      obtain ⟨i, hi, e⟩ := List.getElem_of_mem hb
      have := hp i (by rw [← size_toList]; exact hi)
      have e2 : s[i]'(by rw [← size_toList]; exact hi) = b := by rw [← e]; cases s; rfl
      rw [e2] at this; exact this
end Go.Proofs.YthdlepalglgmoaaGreatDoor
namespace Go.Proofs.YthdlepalglgmoaaGreatDoor.Um
open Go Go.Lib

theorem nx_enc_app (c : Int) (hc : isB c = true) (t : List UInt8) : nx (encodeRune c ++ t) = (c.toNat, (encodeRune c).length) :=
  nx_of_enc c _ hc _ (List.take_left' rfl) (by simp)
theorem enc_len_pos (c : Int) : 0 < (encodeRune c).length := by
  unfold encodeRune
  rw [List.length_map]
  exact encZ_pos c
/-- signs' bytes are those signs again -/
theorem sgn_flat : ∀ (l : List Int), (∀ x ∈ l, isB x = true) → sgn (l.flatMap encodeRune) = (l, (l.flatMap encodeRune).length, true)
  | [], _ => by rw [List.flatMap_nil, sgn_nil _ rfl]; rfl
  | c :: l, h => by
    have hc := h c (by simp)
    have hp := enc_len_pos c
    have hn := nx_enc_app c hc (l.flatMap encodeRune)
    rw [List.flatMap_cons, sgn_cons _ (by rw [List.length_append]; omega) (by rw [hn]; show (encodeRune c).length ≠ 0; omega), hn]
    simp only
    rw [List.drop_left' rfl, sgn_flat l (fun x hx => h x (by simp [hx]))]
    have h0 := ((isB_iff c).1 hc).1.1
    simp
    omega
theorem sgn_ind {P : List UInt8 → Prop} (nil : P []) (bad : ∀ l : List UInt8, l.length ≠ 0 → (nx l).2 = 0 → P l) (cons : ∀ l : List UInt8, l.length ≠ 0 → (nx l).2 ≠ 0 → P (l.drop (nx l).2) → P l) : ∀ l, P l := by
  have key : ∀ m : Nat, ∀ l : List UInt8, l.length ≤ m → P l := by
    intro m
    induction m with
    | zero => intro l h; have : l = [] := List.eq_nil_of_length_eq_zero (by omega); subst this; exact nil
    | succ m ih =>
      intro l h
      by_cases h0 : l.length = 0
      · have : l = [] := List.eq_nil_of_length_eq_zero h0
        subst this; exact nil
      · by_cases hx : (nx l).2 = 0
        · exact bad l h0 hx
        · exact cons l h0 hx (ih _ (by simp; omega))
  intro l
  exact key l.length l (Nat.le_refl _)
/-- a valid text's signs have just its bytes -/
theorem sgn_valid : ∀ l : List UInt8, (sgn l).2.2 = true → (∀ x ∈ (sgn l).1, isB x = true) ∧ (sgn l).1.flatMap encodeRune = l := by
  refine sgn_ind ?_ ?_ ?_
  · intro _; rw [sgn_nil [] rfl]; simp
  · intro l h0 hx h; rw [sgn_bad l h0 hx] at h; cases h
  · intro l h0 hx ih h
    rw [sgn_cons l h0 hx] at h ⊢
    obtain ⟨h1, h2⟩ := ih h
    have h3 := nx_enc l hx
    refine ⟨fun x hxx => ?_, ?_⟩
    · rcases List.mem_cons.1 hxx with rfl | h
      · exact h3.1
      · exact h1 x h
    · rw [List.flatMap_cons, h2, ← h3.2.2.1, List.take_append_drop]
/-- what Signs tells of signs' bytes -/
theorem sig_text (l : List Int) (h : l.all isB = true) : sigR (textS l).data.toList = (l, 0, 0) := by
  have e : (textS l).data.toList = l.flatMap encodeRune := by
    unfold textS encL
    simp only [List.map_flatMap]
    rfl
  unfold sigR
  rw [e, sgn_flat l (List.all_eq_true.1 h)]
  rfl
end Go.Proofs.YthdlepalglgmoaaGreatDoor.Um
