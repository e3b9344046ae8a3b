/- Layer 10's laws, walked: awake, LinesTerm. How long a file of triples is. Lines of triples stand as the triples do: plainly. Layer 11's law ShowBack. The library's facts out of a row's list; the witness's world. Printed by gen/close8.py for showBackRow. -/
import Derived.Test.YtpnlabjgmdhicaaGreatDoorJLn18
import Derived.Test.YtpnlabjgmdhicaaGreatDoorJShSet2
import Derived.Test.YtpnlabjgmdhicaaGreatDoorJR8g
import Derived.Test.YtpnlabjgmdhicaaGreatDoorJShRef2
import Derived.Test.YtpnlabjgmdhicaaGreatDoorJShFile
import Derived.Test.YtpnlabjgmdhicaaGreatDoorJLaw11q
import Derived.Test.YtpnlabjgmdhicaaGreatDoorJRegion
import Derived.Test.YtpnlabjgmdhicaaGreatDoorJWr3
import Derived.LaidLaws
import Derived.Lib.LaidIn
import Derived.Lib.LaidCaseMet
namespace Go.Proofs.YtpnlabjgmdhicaaGreatDoor
open Go Go.RowKit Um Fm Lx Tx
/-- What all these laws ask of the world. -/
def CtxA (w : World) : Prop := CtxT w ∧ ErrB w
theorem CtxA.step {w w' : World} (h : CtxA w) (hb : Below w.heap.size w w') : CtxA w' := ⟨h.1.step hb, h.2.step hb⟩
theorem CtxA.l {w : World} (h : CtxA w) : CtxL w := ⟨h.1.1, h.2.1⟩
theorem CtxA.t {w : World} (h : CtxA w) : CtxT w := h.1
end Go.Proofs.YtpnlabjgmdhicaaGreatDoor
namespace Go.Proofs.YtpnlabjgmdhicaaGreatDoor
open Go Go.RowKit Um Fm Lx Tx
theorem iri_len : ∀ l : List UInt8, (iriL l).length ≤ 6 * l.length
  | [] => Nat.le_refl _
  | c :: l => by
    have h := iri_len l
    have e : iriL (c :: l) = iriC c ++ iriL l := by unfold iriL; rw [List.flatMap_cons]
    have h1 : (iriC c).length ≤ 6 := by unfold iriC; split <;> simp
    rw [e, List.length_append, List.length_cons]
    omega
theorem lit_len : ∀ l : List UInt8, (litL l).length ≤ 6 * l.length
  | [] => Nat.le_refl _
  | c :: l => by
    have h := lit_len l
    have e : litL (c :: l) = litC c ++ litL l := by unfold litL; rw [List.flatMap_cons]
    have h1 : (litC c).length ≤ 6 := by unfold litC; (repeat' split) <;> simp
    rw [e, List.length_append, List.length_cons]
    omega
theorem text_len (t : Tm) : (textL t).length ≤ 6 * (t.x.size + t.l.size + t.y.size) + 8 := by
  have h1 := iri_len t.x.data.toList
  have h2 := iri_len t.y.data.toList
  have h3 := lit_len t.x.data.toList
  rw [size_toList] at h1 h2 h3
  have h4 := size_toList t.x
  have h5 := size_toList t.l
  unfold textL
  (repeat' split) <;> simp only [List.length_cons, List.length_append, List.length_nil] <;> omega
theorem lineB_len (t : Tp) : (lineB t).length ≤ 6 * szTp t + 28 := by
  have h1 := text_len t.s
  have h2 := text_len t.p
  have h3 := text_len t.o
  unfold lineB szTp
  simp only [List.length_cons, List.length_append, List.length_nil]
  omega
theorem body_len : ∀ l : List Tp, (bodyTp l).length ≤ 6 * sumTp l + 29 * l.length
  | [] => Nat.le_refl _
  | t :: l => by
    have h := body_len l
    have h1 := lineB_len t
    have e : bodyTp (t :: l) = (lineB t ++ [10]) ++ bodyTp l := by unfold bodyTp; rw [List.flatMap_cons]
    have e2 : sumTp (t :: l) = szTp t + sumTp l := by unfold sumTp; rw [List.map_cons, List.sum_cons]
    rw [e, e2]
    simp only [List.length_cons, List.length_append, List.length_nil]
    omega
theorem comp_sum (l : List Tp) : sumTp (compTp l) ≤ sumTp l := by
  have e2 : ∀ t l, sumTp (t :: l) = szTp t + sumTp l := fun t l => by unfold sumTp; rw [List.map_cons, List.sum_cons]
  induction l using compTp.induct with
  | case1 => exact Nat.le_refl _
  | case2 x => exact Nat.le_refl _
  | case3 x y r h ih => rw [compTp, if_pos h, e2 x]; omega
  | case4 x y r h ih => rw [compTp, if_neg h, e2 x, e2 x]; omega
theorem set_sum (l : List Tp) : sumTp (setTp l) ≤ sumTp l := by
  rw [← set_prog]
  refine Nat.le_trans (comp_sum _) ?_
  unfold sumTp
  exact Nat.le_of_eq (List.Perm.sum_nat ((List.mergeSort_perm l fun x y => !ltTp y x).map szTp))
theorem file_len {l : List Tp} (h1 : l.length ≤ 120) (h2 : sumTp l ≤ 20000) : (fileP l).1.size ≤ 200000 := by
  unfold fileP
  split
  · have a := body_len (setTp l)
    have b := set_sum l
    have c := set_len l
    simp only [mkS_size]
    omega
  · exact Nat.zero_le _
end Go.Proofs.YtpnlabjgmdhicaaGreatDoor
namespace Go.Proofs.YtpnlabjgmdhicaaGreatDoor
open Go Go.RowKit Um Fm Lx Tx

theorem enc_gt {n : Int} (h : isB n = true) (h1 : 32 < n) : ∀ b ∈ Lib.encodeRune n, 32 < b.toNat := by
  obtain ⟨h0, _, hn⟩ := isB_nat h
  intro b hb
  by_cases hl : n < 128
  · rw [enc_low h0 hl, List.mem_singleton] at hb
    subst hb
    rw [ofNat_low (by omega)]
    omega
  · have := enc_high (show 128 ≤ n by omega) b hb
    omega
theorem hxD_gt : ∀ d : Fin 16, 32 < (hxD d.val).toNat := by decide
theorem iriC_gt (c : UInt8) : ∀ b ∈ iriC c, 32 < b.toNat := by
  intro b hb
  unfold iriC at hb
  have hc := c.toNat_lt
  split at hb
  · have d1 := hxD_gt ⟨c.toNat / 16, by omega⟩
    have d2 := hxD_gt ⟨c.toNat % 16, by omega⟩
    simp only [List.mem_cons, List.not_mem_nil, or_false] at hb
    rcases hb with rfl | rfl | rfl | rfl | rfl | rfl
    · decide
    · decide
    · decide
    · decide
    · exact d1
    · exact d2
  · rename_i h
    rw [List.mem_singleton] at hb
    subst hb
    unfold escC rawB at h
    simp at h
    omega
theorem iriL_gt (l : List UInt8) : ∀ b ∈ iriL l, 32 < b.toNat := by
  intro b hb
  unfold iriL at hb
  obtain ⟨c, _, h⟩ := List.mem_flatMap.1 hb
  exact iriC_gt c b h
theorem low_out : ∀ (st : Bool) (n : Fin 33), mayB st (n.val : Int) = false := by decide
theorem reach_gt {l : List UInt8} {st : Bool} {k b : Nat} (h : Um.Reach l st k b) : ∀ c ∈ l.take k, 32 < c.toNat := by
  induction h with
  | start => intro c hc; simp at hc
  | @step st k b _ hk h0 hm ih =>
    intro c hc
    rw [List.take_add, List.mem_append] at hc
    rcases hc with hc | hc
    · exact ih c hc
    · obtain ⟨e1, -, e3, -, -⟩ := nx_enc (l.drop k) h0
      rw [e3] at hc
      refine enc_gt e1 ?_ c hc
      generalize (nx (l.drop k)).1 = n at hm
      rcases Nat.lt_or_ge n 33 with h | h
      · have := low_out st ⟨n, h⟩
        rw [hm] at this
        cases this
      · omega
theorem label_gt {x : ByteArray} (h : labelB x = true) : ∀ c ∈ x.data.toList, 32 < c.toNat := by
  unfold labelB at h
  rw [Bool.and_eq_true] at h
  have h1 := h.2
  rw [beq_iff_eq, ← size_toList] at h1
  have h2 : label x.data.toList = x.data.toList.length := Int.ofNat.inj h1
  obtain ⟨st, hr⟩ := label_reach x.data.toList
  have := reach_gt hr
  rwa [h2, List.take_length] at this
theorem al_low : ∀ n : Fin 33, ¬ (alnumB (n.val : Nat) = true ∨ n.val = 45) := by decide
theorem tag_gt {l : ByteArray} (h : tagB l = true) : ∀ c ∈ l.data.toList, 32 < c.toNat := by
  intro c hc
  obtain ⟨i, hi, rfl⟩ := List.mem_iff_getElem.1 hc
  have h1 := (tag_reach l.data.toList).bytes i (by rw [(tagB_iff.1 h).1]; exact hi)
  rw [List.getD_eq_getElem?_getD, List.getElem?_eq_getElem hi, Option.getD_some] at h1
  rcases Nat.lt_or_ge 32 (l.data.toList[i]).toNat with h2 | h2
  · exact h2
  · exfalso
    exact al_low ⟨_, Nat.lt_succ_of_le h2⟩ h1
/-- A literal's text: what is quoted; behind it no blank stands. -/
theorem text_lit {t : Tm} (h : rightB t = true) (h1 : t.k ≠ 1) (h2 : t.k ≠ 2) : ∃ r, textL t = 34 :: (litL t.x.data.toList ++ 34 :: r) ∧ (∀ b ∈ r, 32 < b.toNat) ∧ validB t.x = true := by
  obtain ⟨k, x, l, y⟩ := t
  rcases right_cases h with ⟨rfl, rfl, rfl, hx⟩ | ⟨rfl, rfl, rfl, hx⟩ | ⟨rfl, rfl, hx, hl⟩ | ⟨rfl, rfl, -, hx, hy⟩
  · exact absurd rfl h1
  · exact absurd rfl h2
  · by_cases h0 : l.data.toList = []
    · refine ⟨[], ?_, fun b hb => (by cases hb), hx⟩
      unfold textL; rw [if_neg (by simp), if_neg (by simp), if_neg (by simp), if_pos h0]
    · refine ⟨64 :: l.data.toList, ?_, fun b hb => ?_, hx⟩
      · unfold textL; rw [if_neg (by simp), if_neg (by simp), if_neg (by simp), if_neg h0]
      · rw [List.mem_cons] at hb
        rcases hb with rfl | hb
        · decide
        · exact tag_gt hl b hb
  · refine ⟨94 :: 94 :: 60 :: (iriL y.data.toList ++ [62]), rfl, fun b hb => ?_, hx⟩
    simp only [List.mem_cons, List.mem_append, List.not_mem_nil, or_false] at hb
    rcases hb with rfl | rfl | rfl | hb | rfl
    · decide
    · decide
    · decide
    · exact iriL_gt _ b hb
    · decide
theorem text_k1 {t : Tm} (h : t.k = 1) : textL t = 60 :: (iriL t.x.data.toList ++ [62]) := by unfold textL; rw [if_pos h]
theorem text_k2 {t : Tm} (h : t.k = 2) : textL t = 95 :: 58 :: t.x.data.toList := by unfold textL; rw [if_neg (by rw [h]; decide), if_pos h]
theorem right_k1 {t : Tm} (h : rightB t = true) (hk : t.k = 1) : validB t.x = true := by
  obtain ⟨k, x, l, y⟩ := t
  rcases right_cases h with ⟨rfl, rfl, rfl, hx⟩ | ⟨rfl, rfl, rfl, hx⟩ | ⟨rfl, rfl, hx, hl⟩ | ⟨rfl, rfl, -, hx, hy⟩
  · exact hx
  all_goals cases hk
theorem right_k2 {t : Tm} (h : rightB t = true) (hk : t.k = 2) : labelB t.x = true := by
  obtain ⟨k, x, l, y⟩ := t
  rcases right_cases h with ⟨rfl, rfl, rfl, hx⟩ | ⟨rfl, rfl, rfl, hx⟩ | ⟨rfl, rfl, hx, hl⟩ | ⟨rfl, rfl, -, hx, hy⟩
  · cases hk
  · exact hx
  all_goals cases hk
/-- Where a text goes on behind another one, it goes on with no blank. -/
theorem text_on {a b : Tm} (ha : rightB a = true) (hb : rightB b = true) {c : UInt8} {r : List UInt8} (h : textL b = textL a ++ c :: r) : 32 < c.toNat := by
  by_cases a1 : a.k = 1
  · rw [text_k1 a1] at h
    by_cases b1 : b.k = 1
    · rw [text_k1 b1] at h
      have e1 := tk_iri (right_k1 ha a1) (c :: r)
      have e2 := tk_iri (right_k1 hb b1) []
      have h' : (60 : UInt8) :: (iriL b.x.data.toList ++ 62 :: []) = 60 :: (iriL a.x.data.toList ++ 62 :: (c :: r)) := by rw [h]; simp
      rw [h', e1] at e2
      have h2 := congrArg List.length h'
      simp only [Option.some.injEq, Prod.mk.injEq] at e2
      simp at h2
      omega
    · by_cases b2 : b.k = 2
      · rw [text_k2 b2] at h; simp at h
      · obtain ⟨q, e, -, -⟩ := text_lit hb b1 b2
        rw [e] at h; simp at h
  · by_cases a2 : a.k = 2
    · rw [text_k2 a2] at h
      by_cases b1 : b.k = 1
      · rw [text_k1 b1] at h; simp at h
      · by_cases b2 : b.k = 2
        · rw [text_k2 b2] at h
          simp only [List.cons_append, List.cons.injEq, true_and] at h
          exact label_gt (right_k2 hb b2) c (by rw [h]; simp)
        · obtain ⟨q, e, -, -⟩ := text_lit hb b1 b2
          rw [e] at h; simp at h
    · obtain ⟨qa, ea, -, va⟩ := text_lit ha a1 a2
      rw [ea] at h
      by_cases b1 : b.k = 1
      · rw [text_k1 b1] at h; simp at h
      · by_cases b2 : b.k = 2
        · rw [text_k2 b2] at h; simp at h
        · obtain ⟨qb, eb, hq, vb⟩ := text_lit hb b1 b2
          rw [eb] at h
          have e1 := tk_lit va (qa ++ c :: r)
          have e2 := tk_lit vb qb
          have h' : (34 : UInt8) :: (litL b.x.data.toList ++ 34 :: qb) = 34 :: (litL a.x.data.toList ++ 34 :: (qa ++ c :: r)) := by rw [h]; simp
          rw [h', e1] at e2
          simp only [Option.some.injEq, Prod.mk.injEq] at e2
          have hx : a.x = b.x := e2.2.1
          rw [hx] at h'
          simp only [List.cons.injEq, true_and, List.append_cancel_left_eq] at h'
          exact hq c (by rw [h']; simp)
theorem lex_on : ∀ (a b z : List UInt8), a < b → (∀ c r, b = a ++ c :: r → 32 < c.toNat) → ∀ y, a ++ 32 :: z < b ++ y
  | [], [], z, h, _, _ => absurd h (by simp)
  | [], c :: r, z, _, h, y => by
    have h1 := h c r rfl
    rw [List.nil_append, List.cons_append, List.cons_lt_cons_iff]
    exact .inl (UInt8.lt_iff_toNat_lt.2 h1)
  | x :: a, [], z, h, _, _ => absurd h (by simp)
  | x :: a, w :: b, z, h, hn, y => by
    rw [List.cons_append, List.cons_append, List.cons_lt_cons_iff]
    rw [List.cons_lt_cons_iff] at h
    rcases h with h | ⟨rfl, h⟩
    · exact .inl h
    · exact .inr ⟨rfl, lex_on a b z h (fun c r e => hn c r (by rw [e]; rfl)) y⟩
theorem lex_same : ∀ (a : List UInt8) {y z : List UInt8}, y < z → a ++ y < a ++ z
  | [], _, _, h => h
  | x :: a, y, z, h => by
    rw [List.cons_append, List.cons_append, List.cons_lt_cons_iff]
    exact .inr ⟨rfl, lex_same a h⟩
theorem tm_lt {a b : Tm} (ha : rightB a = true) (hb : rightB b = true) (h : cmpTm a b < 0) : textL a < textL b := by
  unfold cmpTm at h
  rw [ha, hb, if_pos rfl] at h
  exact (cmpS_lt _ _).1 h
/-- Lines stand as their triples do. -/
theorem line_lt {a b : Tp} (ha : tripB a = true) (hb : tripB b = true) (h : cmpTp a b < 0) : lineB a < lineB b := by
  obtain ⟨-, -, a1, a2, a3⟩ := trip_parts ha
  obtain ⟨-, -, b1, b2, b3⟩ := trip_parts hb
  have step : ∀ {u v : Tm} {y z : List UInt8}, rightB u = true → rightB v = true → cmpTm u v < 0 → textL u ++ 32 :: y < textL v ++ z :=
    fun hu hv h => lex_on _ _ _ (tm_lt hu hv h) (fun c r e => text_on hu hv e) _
  unfold cmpTp orZ at h
  unfold lineB
  split at h
  · next e1 =>
    rw [ordF_Tm.zero _ _ e1]
    refine lex_same _ (List.cons_lt_cons_iff.2 (.inr ⟨rfl, ?_⟩))
    split at h
    · next e2 =>
      rw [ordF_Tm.zero _ _ e2]
      refine lex_same _ (List.cons_lt_cons_iff.2 (.inr ⟨rfl, ?_⟩))
      exact step a3 b3 h
    · exact step a2 b2 h
  · exact step a1 b1 h
end Go.Proofs.YtpnlabjgmdhicaaGreatDoor
namespace Go.Proofs.YtpnlabjgmdhicaaGreatDoor
open Go Go.RowKit Um Fm Lx Tx

theorem cmpS_one (a b : List UInt8) : cmpS a b = -1 ∨ cmpS a b = 0 ∨ cmpS a b = 1 := by
  unfold cmpS
  split
  · exact .inl rfl
  · split
    · exact .inr (.inl rfl)
    · exact .inr (.inr rfl)
theorem cmpTm_one {a b : Tm} (ha : rightB a = true) (hb : rightB b = true) : cmpTm a b = -1 ∨ cmpTm a b = 0 ∨ cmpTm a b = 1 := by
  unfold cmpTm
  rw [ha, hb, if_pos rfl]
  exact cmpS_one _ _
theorem orZ_one {a b : Int} (ha : a = -1 ∨ a = 0 ∨ a = 1) (hb : b = -1 ∨ b = 0 ∨ b = 1) : orZ a b = -1 ∨ orZ a b = 0 ∨ orZ a b = 1 := by
  unfold orZ
  split
  · exact hb
  · exact ha
theorem cmpTp_minus {a b : Tp} (ha : tripB a = true) (hb : tripB b = true) (h : cmpTp a b < 0) : cmpTp a b = -1 := by
  obtain ⟨-, -, a1, a2, a3⟩ := trip_parts ha
  obtain ⟨-, -, b1, b2, b3⟩ := trip_parts hb
  have : cmpTp a b = -1 ∨ cmpTp a b = 0 ∨ cmpTp a b = 1 := by
    unfold cmpTp
    exact orZ_one (cmpTm_one a1 b1) (orZ_one (cmpTm_one a2 b2) (cmpTm_one a3 b3))
  omega
theorem line_less {a b : Tp} (ha : errTp a = 0) (hb : errTp b = 0) (h : cmpTp a b < 0) : Op.bytesLess (lineS a).toList (lineS b).toList = true := by
  have h1 := line_lt (err_none ha).1 (err_none hb).1 h
  rw [bytesLess_eq, ByteArray.toList_eq, ByteArray.toList_eq, lineS_data ha, lineS_data hb]
  simpa using h1
/-- The file's lines are short. -/
theorem file_rows {l : List Tp} (he : errF l = 0) : ∀ a ∈ splitL (fileP l).1.data.toList, a.length ≤ 100000 := by
  intro a ha
  unfold fileP at ha
  rw [if_pos he] at ha
  simp only [] at ha
  rw [split_body _ (errF_set he)] at ha
  obtain ⟨t, ht, rfl⟩ := List.mem_map.1 ha
  have := lineB_le (errF_set he t ht)
  omega
theorem mem_turn (l : List Tp) (k : Nat) (u : Tp) : u ∈ l.drop k ++ l ↔ u ∈ l := by
  rw [List.mem_append]
  exact ⟨fun h => h.elim (fun h => List.mem_of_mem_drop h) id, .inr⟩
set_option maxRecDepth 20000 in
set_option maxHeartbeats 16000000 in
theorem lawShowBack (l : List Tp) (A : Option Addr) (c : Nat) (tn : Int) (w : World) (hC : CtxA w) (hr : Rd w A (l.flatMap tpL)) (hl : l.length ≤ 837723144947) (hcl : l.length ≤ c) (hz : ∀ t ∈ l, hugeTp t) :
    Calls Tryz.prog 6 #[.slice A l.length c, .int .i64 tn] w fun e w' => e = .returned (.bool true) ∧ Below w.heap.size w w' := by
  have ha := lawAwake11 w hC.1
  have hg := fun W (hB : Below w.heap.size w W) => lawGreat11 l A c W (hr.later hB) hl hz
  unfold GreatR at hg
  have HC := Lib.hid hC
  have HR := Lib.hid hr
  obtain ⟨N, hN⟩ : ∃ N, l.length = N := ⟨_, rfl⟩
  have HN := Lib.hid hN
  simp only [hN] at hg hl hcl ⊢
  clear hC hr hz hN
  go_enter Tryz.func6, Tryz.ntmps6
  go_wp2_with fail
  refine ha.mono ?_
  rintro e w1 ⟨rfl, b1⟩
  have hg := hg _ b1
  clear ha
  go_wp2_with fail
  refine hg.mono ?_
  rintro e w2 ⟨⟨g, rfl, hf⟩, b2⟩
  have b12 := below_tr b1 b2
  cases g
  · obtain ⟨hN1, hsum⟩ := hf rfl
    have hsm : ∀ t ∈ l, smallP t := fun t ht => (fit_of hsum t ht).small
    have Hsm := Lib.hid hsm
    have HB2 := Lib.hid b12
    have hfl := showFile l A c w2 (HC.out.step b12).1 (HR.out.later b12) hsm (by rw [HN.out]; omega)
    have hfz := file_len (by rw [HN.out]; exact hN1) hsum
    unfold FileR at hfl
    rw [HN.out] at hfl
    clear hf hg b1 b2 b12 hsm hsum
    by_cases he : errF l = 0
    · have hrd := file_read he
      have hrw := file_rows he
      have he2 : (fileP l).2 = 0 := by unfold fileP; rw [if_pos he]
      have hst := fun W (hB : Below w2.heap.size w2 W) => showSet l A c W ((HC.out.step HB2.out).step hB).1 ((HR.out.later HB2.out).later hB) Hsm.out (by rw [HN.out]; omega)
      have hps := fun W (hB : Below w2.heap.size w2 W) => linesParse2 (fileP l).1 W ((HC.out.step HB2.out).step hB).l ((HC.out.step HB2.out).step hB).t (by omega) hrw
      unfold SetR at hst
      unfold ParseR at hps
      rw [hrd.1] at hps
      simp only [HN.out] at hst hps
      have hf2 : fileP (setTp l) = ((fileP l).1, 0) := by rw [hrd.2, ← he2]
      have hft := fun k => file_turn (mem_turn l k) he
      have hme := errF_set he
      have hml := set_len l
      rw [HN.out] at hml
      have hmz : ∀ t ∈ setTp l, smallP t := fun t ht => Hsm.out t ((set_mem l t).1 ht)
      have hmr := set_rise l
      rw [he2] at hfl
      have Hft : Hid (∀ k, fileP (l.drop k ++ l) = ((fileP l).1, 0)) := fun k => by rw [hft k, ← he2]
      generalize (fileP l).1 = s at *
      generalize setTp l = m at *
      obtain ⟨M, hM⟩ : ∃ M, m.length = M := ⟨_, rfl⟩
      have HM := Lib.hid hM
      simp only [hM] at hst hps hml
      have Hme := Lib.hid hme
      have Hmz := Lib.hid hmz
      have Hmr := Lib.hid hmr
      have Hf2 := Lib.hid hf2
      clear hrd hrw hft hme hmz hmr hf2 hM he he2
      go_wp2_with fail
      refine hfl.mono ?_
      rintro e w3 ⟨rfl, b3⟩
      have hst := hst _ b3
      clear hfl
      go_wp2_with fail
      refine hst.mono ?_
      rintro e w4 ⟨v4, rfl, own4, b4⟩
      obtain ⟨A4, c4, rfl, -, r4⟩ := own_slice own4
      have b34 := below_tr b3 b4
      have hps := hps _ b34
      clear hst own4 b3 b4
      go_wp2_with fail
      refine hps.mono ?_
      rintro e w5 ⟨v5, rfl, own5, b5⟩
      obtain ⟨A5, c5, rfl, -, r5⟩ := own_slice own5
      have b35 := below_tr b34 b5
      have hf5 := showFile m A5 c5 w5 ((HC.out.step HB2.out).step b35).1 r5 Hmz.out (by rw [HM.out]; omega)
      unfold FileR at hf5
      rw [Hf2.out, HM.out] at hf5
      have r45 := r4.later b5
      clear hps own5 b34 b5 r4
      go_wp2_with fail
      refine hf5.mono ?_
      rintro e w6 ⟨rfl, b6⟩
      have hsm6 := kitSameTp m M A5 c5 A4 c4 w6 HM.out (by omega) (r5.later b6) (r45.later b6)
      have HR6 := Lib.hid (r45.later b6)
      have b36 := below_tr b35 b6
      clear hf5 b35 b6 r5 r45
      go_wp2_with fail
      refine hsm6.mono ?_
      rintro e w7 ⟨rfl, b7⟩
      have HR7 := Lib.hid (HR6.out.later b7)
      have HB7 := Lib.hid (below_tr HB2.out (below_tr b36 b7))
      clear hsm6 b36 b7
      go_wp2
      go_loopw [14] (fun i wr => ∃ k : Nat, 1 ≤ k ∧ (k ≤ M ∨ k = 1) ∧ i = .int .i64 k ∧ Below w7.heap.size w7 wr) (fun i _ => M - (intOf i).toNat)
      case atStart => exact ⟨1, by omega, .inr rfl, rfl, Below.refl _ _⟩
      case round =>
        obtain ⟨k, hk1, hk, rfl, hB⟩ := hrel
        have HBr := Lib.hid hB
        by_cases hlt : k < M
        · have hd1 : decide (k < M) = true := by simp; omega
          have hk9 : k - 1 < M := by omega
          obtain ⟨y, hy⟩ : ∃ y, m[k]? = some y := ⟨_, List.getElem?_eq_getElem (by rw [HM.out]; exact hlt)⟩
          obtain ⟨x, hx⟩ : ∃ x, m[k - 1]? = some x := ⟨_, List.getElem?_eq_getElem (by rw [HM.out]; omega)⟩
          have hxs := Hmz.out x (List.mem_of_getElem? hx)
          have hys := Hmz.out y (List.mem_of_getElem? hy)
          have hxe := Hme.out x (List.mem_of_getElem? hx)
          have hye := Hme.out y (List.mem_of_getElem? hy)
          have hn := rise_at Hmr.out hx hy (by omega)
          have hls := line_less hxe hye hn
          have hmi := cmpTp_minus (err_none hxe).1 (err_none hye).1 hn
          have hCw := HC.out.step (below_tr HB7.out hB)
          have hl1 := showLine x wr hCw.1 hxs
          have hl2 := fun W (hb : Below wr.heap.size wr W) => showLine y W (hCw.step hb).1 hys
          have hcm := fun W (hb : Below wr.heap.size wr W) => termTriples x y W (hCw.step hb).1 hxs hys
          unfold LineR11 at hl1 hl2
          rw [hmi] at hcm
          obtain ⟨gm, om, hA, a0, a1, a2, a3, a4, a5, a6, a7, a8, a9, a10, a11⟩ := rd_at12 (HR7.out.later hB) hx
          subst hA
          generalize lineS x = sx at *
          generalize lineS y = sy at *
          have Hxy := Lib.hid (And.intro hx hy)
          clear hx hy hxs hys hxe hye hn hmi hCw hB
          go_wp2_with fail
          refine hl1.mono ?_
          rintro e w8 ⟨rfl, b8⟩
          obtain ⟨gm2, om2, hA, d0, d1, d2, d3, d4, d5, d6, d7, d8, d9, d10, d11⟩ := rd_at12 ((HR7.out.later HBr.out).later b8) Hxy.out.2
          injection hA with hA; injection hA with h5 h6; subst h5; subst h6
          have hl2 := hl2 _ b8
          clear hl1 a0 a1 a2 a3 a4 a5 a6 a7 a8 a9 a10 a11
          go_wp2_with fail
          refine hl2.mono ?_
          rintro e w9 ⟨rfl, b9⟩
          have b89 := below_tr b8 b9
          clear hl2 d0 d1 d2 d3 d4 d5 d6 d7 d8 d9 d10 d11 b8 b9
          obtain ⟨gm2, om2, hA, a0, a1, a2, a3, a4, a5, a6, a7, a8, a9, a10, a11⟩ := rd_at12 ((HR7.out.later HBr.out).later b89) Hxy.out.1
          injection hA with hA; injection hA with h5 h6; subst h5; subst h6
          obtain ⟨gm2, om2, hA, d0, d1, d2, d3, d4, d5, d6, d7, d8, d9, d10, d11⟩ := rd_at12 ((HR7.out.later HBr.out).later b89) Hxy.out.2
          injection hA with hA; injection hA with h5 h6; subst h5; subst h6
          have x0 : ∀ d os, (Sort.grow (redrawn w9 d) os).cell? ⟨gm, om + (k - 1) * 12, none⟩ = some (.int .i64 x.s.k) := fun d os => cell_on a0 (below_regrown w9 d os)
          have x1 : ∀ d os, (Sort.grow (redrawn w9 d) os).cell? ⟨gm, om + (k - 1) * 12 + 1, none⟩ = some (.string x.s.x) := fun d os => cell_on a1 (below_regrown w9 d os)
          have x2 : ∀ d os, (Sort.grow (redrawn w9 d) os).cell? ⟨gm, om + (k - 1) * 12 + 2, none⟩ = some (.string x.s.l) := fun d os => cell_on a2 (below_regrown w9 d os)
          have x3 : ∀ d os, (Sort.grow (redrawn w9 d) os).cell? ⟨gm, om + (k - 1) * 12 + 3, none⟩ = some (.string x.s.y) := fun d os => cell_on a3 (below_regrown w9 d os)
          have x4 : ∀ d os, (Sort.grow (redrawn w9 d) os).cell? ⟨gm, om + (k - 1) * 12 + 4, none⟩ = some (.int .i64 x.p.k) := fun d os => cell_on a4 (below_regrown w9 d os)
          have x5 : ∀ d os, (Sort.grow (redrawn w9 d) os).cell? ⟨gm, om + (k - 1) * 12 + 5, none⟩ = some (.string x.p.x) := fun d os => cell_on a5 (below_regrown w9 d os)
          have x6 : ∀ d os, (Sort.grow (redrawn w9 d) os).cell? ⟨gm, om + (k - 1) * 12 + 6, none⟩ = some (.string x.p.l) := fun d os => cell_on a6 (below_regrown w9 d os)
          have x7 : ∀ d os, (Sort.grow (redrawn w9 d) os).cell? ⟨gm, om + (k - 1) * 12 + 7, none⟩ = some (.string x.p.y) := fun d os => cell_on a7 (below_regrown w9 d os)
          have x8 : ∀ d os, (Sort.grow (redrawn w9 d) os).cell? ⟨gm, om + (k - 1) * 12 + 8, none⟩ = some (.int .i64 x.o.k) := fun d os => cell_on a8 (below_regrown w9 d os)
          have x9 : ∀ d os, (Sort.grow (redrawn w9 d) os).cell? ⟨gm, om + (k - 1) * 12 + 9, none⟩ = some (.string x.o.x) := fun d os => cell_on a9 (below_regrown w9 d os)
          have x10 : ∀ d os, (Sort.grow (redrawn w9 d) os).cell? ⟨gm, om + (k - 1) * 12 + 10, none⟩ = some (.string x.o.l) := fun d os => cell_on a10 (below_regrown w9 d os)
          have x11 : ∀ d os, (Sort.grow (redrawn w9 d) os).cell? ⟨gm, om + (k - 1) * 12 + 11, none⟩ = some (.string x.o.y) := fun d os => cell_on a11 (below_regrown w9 d os)
          have y0 : ∀ d os, (Sort.grow (redrawn w9 d) os).cell? ⟨gm, om + k * 12, none⟩ = some (.int .i64 y.s.k) := fun d os => cell_on d0 (below_regrown w9 d os)
          have y1 : ∀ d os, (Sort.grow (redrawn w9 d) os).cell? ⟨gm, om + k * 12 + 1, none⟩ = some (.string y.s.x) := fun d os => cell_on d1 (below_regrown w9 d os)
          have y2 : ∀ d os, (Sort.grow (redrawn w9 d) os).cell? ⟨gm, om + k * 12 + 2, none⟩ = some (.string y.s.l) := fun d os => cell_on d2 (below_regrown w9 d os)
          have y3 : ∀ d os, (Sort.grow (redrawn w9 d) os).cell? ⟨gm, om + k * 12 + 3, none⟩ = some (.string y.s.y) := fun d os => cell_on d3 (below_regrown w9 d os)
          have y4 : ∀ d os, (Sort.grow (redrawn w9 d) os).cell? ⟨gm, om + k * 12 + 4, none⟩ = some (.int .i64 y.p.k) := fun d os => cell_on d4 (below_regrown w9 d os)
          have y5 : ∀ d os, (Sort.grow (redrawn w9 d) os).cell? ⟨gm, om + k * 12 + 5, none⟩ = some (.string y.p.x) := fun d os => cell_on d5 (below_regrown w9 d os)
          have y6 : ∀ d os, (Sort.grow (redrawn w9 d) os).cell? ⟨gm, om + k * 12 + 6, none⟩ = some (.string y.p.l) := fun d os => cell_on d6 (below_regrown w9 d os)
          have y7 : ∀ d os, (Sort.grow (redrawn w9 d) os).cell? ⟨gm, om + k * 12 + 7, none⟩ = some (.string y.p.y) := fun d os => cell_on d7 (below_regrown w9 d os)
          have y8 : ∀ d os, (Sort.grow (redrawn w9 d) os).cell? ⟨gm, om + k * 12 + 8, none⟩ = some (.int .i64 y.o.k) := fun d os => cell_on d8 (below_regrown w9 d os)
          have y9 : ∀ d os, (Sort.grow (redrawn w9 d) os).cell? ⟨gm, om + k * 12 + 9, none⟩ = some (.string y.o.x) := fun d os => cell_on d9 (below_regrown w9 d os)
          have y10 : ∀ d os, (Sort.grow (redrawn w9 d) os).cell? ⟨gm, om + k * 12 + 10, none⟩ = some (.string y.o.l) := fun d os => cell_on d10 (below_regrown w9 d os)
          have y11 : ∀ d os, (Sort.grow (redrawn w9 d) os).cell? ⟨gm, om + k * 12 + 11, none⟩ = some (.string y.o.y) := fun d os => cell_on d11 (below_regrown w9 d os)
          clear a0 a1 a2 a3 a4 a5 a6 a7 a8 a9 a10 a11 d0 d1 d2 d3 d4 d5 d6 d7 d8 d9 d10 d11
          have Hb89 := Lib.hid b89
          clear b89
          go_wp2
          refine wp_region_quiet_below (by kernel_rfl) (by kernel_rfl) ?_; (repeat (any_goals (go_big_quiet_step ((go_at_call 11; with_reducible exact Calls.regrown_of (hcm _ (below_tr Hb89.out (below_regrown _ _ _)))))))); all_goals (refine wpQuiet_nil ?_; intro _ hw9; obtain ⟨⟨d9, os9⟩, hw8⟩ := hw9; subst hw8)
          have kq := below_tr HBr.out (below_tr Hb89.out (below_regrown w9 d9 os9))
          go_wp2
          go_roundw
          case rel => exact ⟨k + 1, by omega, .inl (by omega), by go_num, kq⟩
          case measure => simp [intOf]; omega
        · have hd1 : decide (k < M) = false := by simp; omega
          have hpk := fun W => kitPick10 tn ((N : Int) + 1) W (by omega) (by omega)
          have HBk := Lib.hid (below_tr HB7.out hB)
          clear hB
          go_wp2_with fail
          refine (hpk _).mono ?_
          rintro e w8 ⟨q, rfl, hq, rfl⟩
          have hqN : q ≤ N := by omega
          have hsl := run_from12 A c q N hqN
          have hb6 : Below wr.heap.size wr (wr.alloc (.cells #[] 31)) := (Below.refl _ wr).alloc (Nat.le_refl _) _
          have own6 : (wr.alloc (.cells #[] 31)).ownsRow wr.heap.size 31 12 (.slice (some ⟨wr.heap.size, 0, none⟩) 0 0) 0 [] := own_new (by omega) rfl rfl (by omega)
          have hr6 := (HR.out.later HBk.out).later hb6
          have rd6 := hr6.from12 (c := c) (q := q) (by rw [HN.out]; exact hcl) (by rw [HN.out]; exact hqN)
          have htl : ((l.drop q).flatMap tpL).length = (N - q) * 12 := by rw [tpL_len, List.length_drop, HN.out]
          have hll : (l.flatMap tpL).length = N * 12 := by rw [tpL_len, HN.out]
          have hone2 : ∀ u ∈ (l.drop q).flatMap tpL, u.oneCell' = true := fun u hu => by obtain ⟨s, _, hs⟩ := List.mem_flatMap.1 hu; exact tpL_one s u hs
          have hone3 : ∀ u ∈ l.flatMap tpL, u.oneCell' = true := fun u hu => by obtain ⟨s, _, hs⟩ := List.mem_flatMap.1 hu; exact tpL_one s u hs
          have hof : (l.drop q).flatMap tpL ++ l.flatMap tpL = (l.drop q ++ l).flatMap tpL := by rw [List.flatMap_append]
          have Hof := Lib.hid hof
          clear hof hpk
          have hfx := fun W (A9 : Option Addr) (c9 : Nat) (hb : Below wr.heap.size wr W) (hr9 : Rd W A9 ((l.drop q ++ l).flatMap tpL)) => showFile (l.drop q ++ l) A9 c9 W ((HC.out.step HBk.out).step hb).1 hr9 (fun t ht => Hsm.out t ((mem_turn l q t).1 ht)) (by rw [List.length_append, List.length_drop, HN.out]; omega)
          have hln : (l.drop q ++ l).length = N - q + N := by rw [List.length_append, List.length_drop, HN.out]
          unfold FileR at hfx
          simp only [Hft.out q, hln] at hfx
          have Hfx := Lib.hid hfx
          clear hfx hln
          go_wp2_with (first
            | (at_builtin; refine wpList_appG rfl rfl Tryz.underlying22 info_trip rfl (by omega) rfl own6 rfl rd6 htl hone2 (by omega) (by omega) (by simp) ?_; intro v7 w7 own7 hb7 hg7; rw [Nat.zero_add, List.nil_append] at own7; obtain ⟨A7, c7, rfl, hc7, -⟩ := own_slice own7; have hb67 := hb6.trans hb7; have hr7 := (HR.out.later HBk.out).later hb67)
            | (at_builtin; refine wpList_appG rfl rfl Tryz.underlying22 info_trip rfl (by omega) rfl own7 rfl hr7 hll hone3 (by omega) (by omega) hb67.size ?_; intro v8 w8 own8 hb8 hg8; rw [Hof.out] at own8; obtain ⟨A8, c8, rfl, hc8, hr8⟩ := own_slice own8; have hb68 := hb67.trans hb8; have hf8 := Hfx.out _ _ c8 hb68 hr8))
          have Hb68 := Lib.hid hb68
          clear hb68 hb67 hb8 hb7 own8 own7 own6 hr7 hr8 hg7 hg8 rd6 hr6 hone2 hone3
          go_wp2_with fail
          refine hf8.mono ?_
          rintro e w9 ⟨rfl, b9⟩
          have HB9 := Lib.hid (below_tr HBk.out (below_tr Hb68.out b9))
          clear b9 hf8
          go_wp2
          go_ret
          exact ⟨rfl, HB9.out⟩
    · have h1 : fileP l = (⟨#[]⟩, errF l) := by unfold fileP; rw [if_neg he]
      rw [h1] at hfl
      have hq : (errF l != (0 : Int)) = true := by simpa using he
      simp only at hfl
      generalize errF l = er at *
      clear h1 he hfz
      go_wp2_with fail
      refine hfl.mono ?_
      rintro e w3 ⟨rfl, b3⟩
      have HB3 := Lib.hid (below_tr HB2.out b3)
      clear b3 hfl
      go_wp2
      go_ret
      exact ⟨rfl, HB3.out⟩
  · clear hf hg b1 b2
    go_wp2
    go_ret
    exact ⟨rfl, b12⟩
theorem lawShowBackQ (l : List Tp) (A : Option Addr) (c : Nat) (tn : Int) (w : World) (hC : CtxA w) (hr : RdL 12 (fun cs (t : Tp) => cs = (tpC t).toList) w A l) (hl : l.length ≤ 837723144947) (hz : ∀ t ∈ l, hugeTp t) (hcl : l.length ≤ c) :
    Calls Tryz.prog 6 #[.slice A l.length c, .int .i64 tn] w fun e w' => e = .returned (.bool true) ∧ Below w.heap.size w w' := by
  obtain ⟨xs, h1, ha⟩ := hr
  have e : l.flatMap tpL = xs := ha.flat.symm
  exact lawShowBack l A c tn w hC (by rw [e]; exact h1) hl hcl hz
end Go.Proofs.YtpnlabjgmdhicaaGreatDoor
namespace Go.Proofs.YtpnlabjgmdhicaaGreatDoor
open Go Go.ChangeShapes Go.WideShapes Go.ChangeAt Go.RowKit Go.Lib
open Go.ChangeMaps (open_string shut_string)

theorem own : ownKnob Tryz.prog.godebug = none := by kernel_rfl
theorem laidOut : laidOutB Tryz.prog = true := by kernel_rfl

def caseRen : Go.Shelf.Ren := ⟨Tryz.lays274_ren.f, Tryz.lays274_ren.t, fun | 13 => 3 | n => n⟩
theorem caseLays : Lays.n274 Tryz.prog caseRen := { Tryz.lays274 with }
def laidFore : List (String × DataW Unit) := [("math/bits.deBruijn32tab", Rows.laid_math_bits_deBruijn32tab), ("math/bits.deBruijn64tab", Rows.laid_math_bits_deBruijn64tab), ("internal/strconv.uint64pow10", Rows.laid_internal_strconv_uint64pow10), ("unicode/utf8.acceptRanges", Rows.laid_unicode_utf8_acceptRanges), ("strconv.ErrRange", Rows.laid_strconv_ErrRange), ("strconv.ErrSyntax", Rows.laid_strconv_ErrSyntax)]
def laidRear : List (String × DataW Unit) := [("unicode/utf8.first", Rows.laid_unicode_utf8_first)]
def laidList : List (String × DataW Unit) := [("math/bits.deBruijn32tab", Rows.laid_math_bits_deBruijn32tab), ("math/bits.deBruijn64tab", Rows.laid_math_bits_deBruijn64tab), ("internal/strconv.uint64pow10", Rows.laid_internal_strconv_uint64pow10), ("unicode/utf8.acceptRanges", Rows.laid_unicode_utf8_acceptRanges), ("strconv.ErrRange", Rows.laid_strconv_ErrRange), ("strconv.ErrSyntax", Rows.laid_strconv_ErrSyntax), ("unicode.CaseRanges", Rows.laid_unicode_CaseRanges), ("unicode/utf8.first", Rows.laid_unicode_utf8_first)]
theorem first_same : Rows.laid_unicode_utf8_first = Lib.firstData := by kernel_rfl
theorem accept_same : (Rows.laid_unicode_utf8_acceptRanges : DataW Unit) = Lib.acceptData := by kernel_rfl
theorem case_same : Rows.laid_unicode_CaseRanges = Lib.caseData := by kernel_rfl
theorem deb_same : (Rows.laid_math_bits_deBruijn64tab : DataW Unit) = Lib.tabData .u8 [0, 1, 56, 2, 57, 49, 28, 3, 61, 58, 42, 50, 38, 29, 17, 4, 62, 47, 59, 36, 45, 43, 51, 22, 53, 39, 33, 30, 24, 18, 12, 5, 63, 55, 48, 27, 60, 41, 37, 16, 46, 35, 44, 21, 52, 32, 23, 11, 54, 26, 40, 15, 34, 20, 31, 10, 25, 14, 19, 9, 13, 8, 7, 6] := by kernel_rfl

theorem ctxT_of {W : World} (hL : laidMetH Tryz.prog laidList W) (hsh : W.ShapedOpen Tryz.prog) : CtxT W := by
  refine ⟨⟨?_, Go.Proofs.cell_of_shapedOpen_int (zero := #[.int .i64 0]) (t := 3) hsh (of_decide_eq_true (by kernel_rfl)) (by kernel_rfl) rfl (by kernel_rfl) (by kernel_rfl) Tryz.underlying3⟩, ?_⟩
  · have h1 := Lib.laidMet.reads hL (.tail _ (.tail _ (.tail _ (.tail _ (.tail _ (.tail _ (.tail _ (.head _))))))))
    have h2 := Lib.laidMet.reads hL (.tail _ (.tail _ (.tail _ (.head _))))
    rw [first_same] at h1
    rw [accept_same] at h2
    exact utf8Tabs_of_reads Tryz.lays260 ⟨by kernel_rfl, by kernel_rfl, by kernel_rfl, by kernel_rfl, by kernel_rfl, by kernel_rfl, by kernel_rfl⟩ h1 h2
  · have h3 := Lib.laidMet.reads hL (.tail _ (.head _))
    rw [deb_same] at h3
    obtain ⟨g, t, cs, fuel, p, hg, hty, hvar, hd⟩ := h3
    have hg0 : Tryz.prog.globalNamed "math/bits.deBruijn64tab" = some 6 := by kernel_rfl
    obtain rfl := Option.some.inj (hg0.symm.trans hg)
    have ht0 : (Tryz.prog.globals[6]?).map (·.type) = some 286 := by kernel_rfl
    obtain rfl := Option.some.inj (ht0.symm.trans hty)
    have hcs := cells_of_tab Tryz.underlying286 Tryz.underlying5 (by kernel_rfl) (by kernel_rfl) hd
    unfold TzV
    rw [World.var?_cell hg hvar 15, ← Array.getElem?_toList, hcs]
    rfl

theorem err_of {W : World} (hL : laidMetH Tryz.prog laidList W) : ErrV W := by
  obtain ⟨g, t, cs, fuel, p, hg, ht, hv, hd⟩ := Lib.laidMet.reads hL (.tail _ (.tail _ (.tail _ (.tail _ (.tail _ (.head _))))))
  have hg0 : Tryz.prog.globalNamed "strconv.ErrSyntax" = some 7 := by kernel_rfl
  obtain rfl := Option.some.inj (hg0.symm.trans hg)
  have ht0 : (Tryz.prog.globals[7]?).map (·.type) = some 83 := by kernel_rfl
  obtain rfl := Option.some.inj (ht0.symm.trans ht)
  obtain ⟨_, u, v, hcs, _, _⟩ := iface_of_trod Tryz.underlying83 hd
  have hc := World.var?_cell hg hv 0
  refine ⟨.iface u v, ?_, .inr ⟨u, v, rfl⟩⟩
  rw [hc, ← Array.getElem?_toList, hcs]; rfl

theorem errR_of {W : World} (hL : laidMetH Tryz.prog laidList W) : ErrR W := by
  obtain ⟨g, t, cs, fuel, p, hg, ht, hv, hd⟩ := Lib.laidMet.reads hL (.tail _ (.tail _ (.tail _ (.tail _ (.head _)))))
  have hg0 : Tryz.prog.globalNamed "strconv.ErrRange" = some 8 := by kernel_rfl
  obtain rfl := Option.some.inj (hg0.symm.trans hg)
  have ht0 : (Tryz.prog.globals[8]?).map (·.type) = some 83 := by kernel_rfl
  obtain rfl := Option.some.inj (ht0.symm.trans ht)
  obtain ⟨_, u, v, hcs, _, _⟩ := iface_of_trod Tryz.underlying83 hd
  have hc := World.var?_cell hg hv 0
  refine ⟨.iface u v, ?_, .inr ⟨u, v, rfl⟩⟩
  rw [hc, ← Array.getElem?_toList, hcs]; rfl
theorem ctx_of {W : World} (hL : laidMetH Tryz.prog laidList W) (hsh : W.ShapedOpen Tryz.prog) : CtxT W ∧ ErrB W := ⟨ctxT_of hL hsh, err_of hL, errR_of hL⟩

theorem LaidVars_split {P : Program} {w : World} : ∀ {l l' : List (String × DataW Unit)} {ps : List MemPlace}, DataW.LaidVars P w (l ++ l') ps → ∃ a b, ps = a ++ b ∧ DataW.LaidVars P w l a ∧ DataW.LaidVars P w l' b
  | [], l', ps, h => ⟨[], ps, rfl, rfl, h⟩
  | (n, d) :: r, l', ps, h => by
    obtain ⟨g, t, cs, fuel, p, q, h1, h2, h3, h4, h5, rfl⟩ := h
    obtain ⟨a, b, rfl, ha, hb⟩ := LaidVars_split h5
    exact ⟨_, b, (List.append_assoc _ _ _).symm, ⟨g, t, cs, fuel, p, a, h1, h2, h3, h4, ha, rfl⟩, hb⟩
/-- A list's order does not matter. -/
theorem laidMet_turn {P : Program} {w : World} {l1 l2 l3 : List (String × DataW Unit)} (h : laidMet P ((l1 ++ l2) ++ l3) w) : laidMet P (l1 ++ (l3 ++ l2)) w := by
  obtain ⟨ps, hl, hn, hr⟩ := h
  obtain ⟨a, c, rfl, hab, hc⟩ := LaidVars_split hl
  obtain ⟨a, b, rfl, ha, hb⟩ := LaidVars_split hab
  have hp : (a ++ (c ++ b)).Perm ((a ++ b) ++ c) := by
    rw [List.append_assoc]
    exact List.Perm.append_left a List.perm_append_comm
  exact ⟨a ++ (c ++ b), Go.LaidVars_app ha (Go.LaidVars_app hc hb), hp.nodup_iff.2 hn, fun x off hx => hr x off (hp.mem_iff.1 hx)⟩

/-- A world for the witnesses: the settled one, the variables holding what their initialisers lay. -/
noncomputable def laidWorld (os : Os) : World :=
  let N := (World.settled Tryz.prog os).heap.size
  let w0 := World.holding Tryz.prog os ⟨#[.cells Lib.caseCells5 (Tryz.lays274_ren.t 208) (0, 0), .cells #[.string ⟨#[118, 97, 108, 117, 101, 32, 111, 117, 116, 32, 111, 102, 32, 114, 97, 110, 103, 101]⟩] 300 (0, 0), .cells #[.string ⟨#[105, 110, 118, 97, 108, 105, 100, 32, 115, 121, 110, 116, 97, 120]⟩] 300 (0, 0)], #[], []⟩
  let put (h : Array Obj) (g : Nat) (cs : Array Value) : Array Obj := h.modify g fun
    | .cells _ t frozen => .cells cs t frozen
    | o => o
  let h1 := put w0.heap 5 #[Value.int .u8 0, Value.int .u8 1, Value.int .u8 28, Value.int .u8 2, Value.int .u8 29, Value.int .u8 14, Value.int .u8 24, Value.int .u8 3, Value.int .u8 30, Value.int .u8 22, Value.int .u8 20, Value.int .u8 15, Value.int .u8 25, Value.int .u8 17, Value.int .u8 4, Value.int .u8 8, Value.int .u8 31, Value.int .u8 27, Value.int .u8 13, Value.int .u8 23, Value.int .u8 21, Value.int .u8 19, Value.int .u8 16, Value.int .u8 7, Value.int .u8 26, Value.int .u8 12, Value.int .u8 18, Value.int .u8 6, Value.int .u8 11, Value.int .u8 5, Value.int .u8 10, Value.int .u8 9]
  let h2 := put h1 6 #[Value.int .u8 0, Value.int .u8 1, Value.int .u8 56, Value.int .u8 2, Value.int .u8 57, Value.int .u8 49, Value.int .u8 28, Value.int .u8 3, Value.int .u8 61, Value.int .u8 58, Value.int .u8 42, Value.int .u8 50, Value.int .u8 38, Value.int .u8 29, Value.int .u8 17, Value.int .u8 4, Value.int .u8 62, Value.int .u8 47, Value.int .u8 59, Value.int .u8 36, Value.int .u8 45, Value.int .u8 43, Value.int .u8 51, Value.int .u8 22, Value.int .u8 53, Value.int .u8 39, Value.int .u8 33, Value.int .u8 30, Value.int .u8 24, Value.int .u8 18, Value.int .u8 12, Value.int .u8 5, Value.int .u8 63, Value.int .u8 55, Value.int .u8 48, Value.int .u8 27, Value.int .u8 60, Value.int .u8 41, Value.int .u8 37, Value.int .u8 16, Value.int .u8 46, Value.int .u8 35, Value.int .u8 44, Value.int .u8 21, Value.int .u8 52, Value.int .u8 32, Value.int .u8 23, Value.int .u8 11, Value.int .u8 54, Value.int .u8 26, Value.int .u8 40, Value.int .u8 15, Value.int .u8 34, Value.int .u8 20, Value.int .u8 31, Value.int .u8 10, Value.int .u8 25, Value.int .u8 14, Value.int .u8 19, Value.int .u8 9, Value.int .u8 13, Value.int .u8 8, Value.int .u8 7, Value.int .u8 6]
  let h3 := put h2 4 #[Value.int .u64 1, Value.int .u64 10, Value.int .u64 100, Value.int .u64 1000, Value.int .u64 10000, Value.int .u64 100000, Value.int .u64 1000000, Value.int .u64 10000000, Value.int .u64 100000000, Value.int .u64 1000000000, Value.int .u64 10000000000, Value.int .u64 100000000000, Value.int .u64 1000000000000, Value.int .u64 10000000000000, Value.int .u64 100000000000000, Value.int .u64 1000000000000000, Value.int .u64 10000000000000000, Value.int .u64 100000000000000000, Value.int .u64 1000000000000000000, Value.int .u64 10000000000000000000]
  let h4 := put h3 1 ((List.range 16).flatMap fun i => [Value.int .u8 (Lib.accLo i), Value.int .u8 (Lib.accHi i)]).toArray
  let h5 := put h4 8 #[.iface 298 (.pointer (some ⟨N + 1, 0, none⟩))]
  let h6 := put h5 7 #[.iface 298 (.pointer (some ⟨N + 2, 0, none⟩))]
  let h7 := put h6 3 #[.slice (some ⟨N, 0, none⟩) Lib.caseA.size Lib.caseA.size]
  let h8 := put h7 0 (Lib.firstTab.map fun z => Value.int .u8 z).toArray
  { w0 with heap := h8 }
set_option maxRecDepth 100000 in
theorem laid_met (os : Os) (args : Array Value) : laidMet Tryz.prog laidList ((laidWorld os).forCall (fun _ _ => 0) ⟨#[], args, []⟩).memory := by
  have h := laidMet_with_case (ρ := caseRen) caseLays (by kernel_rfl) ⟨by kernel_rfl, by kernel_rfl, by kernel_rfl, by kernel_rfl, by kernel_rfl, by kernel_rfl⟩ (w := ((laidWorld os).forCall (fun _ _ => 0) ⟨#[], args, []⟩).memory)
    (l := laidFore ++ laidRear) 10 (by kernel_rfl) (by kernel_rfl) (by kernel_rfl) ((World.settled Tryz.prog default).heap.size) (Tryz.lays274_ren.t 208) (of_decide_eq_true (by kernel_rfl)) (by kernel_rfl) (by kernel_rfl) (by kernel_rfl)
  have h2 := laidMet_turn h
  have e : laidList = laidFore ++ ([("unicode.CaseRanges", Lib.caseData)] ++ laidRear) := by rw [← case_same]; rfl
  rw [e]
  exact h2
end Go.Proofs.YtpnlabjgmdhicaaGreatDoor
