/- Words on signs' bytes that the walks of the program and of the document share. The program's package utf, walked: spans, letters. The program's package utf, walked: which signs begin a label, are letters; Is, Raw, at, next. The program's package utf, walked: at, next, Signs, Text. The program's package utf, walked: Label. The program's package utf, walked: run, Tag. -/
import Derived.Test.YtfijpdmkdoccjaaGreatDoorJClose2b
import Derived.Test.YtfijpdmkdoccjaaGreatDoorJUtfMath
import Derived.Test.YtfijpdmkdoccjaaGreatDoorJRegion
import Derived.Laws.EntriesVeiled
import Derived.Shelf.GgClosure.StringsIndexFunc
namespace Go.Proofs.YtfijpdmkdoccjaaGreatDoor
open Go Go.RowKit Um

def badS : ByteArray := ⟨#[60, 62, 34, 123, 125, 124, 94, 96, 92]⟩
/-- The bytes that stand from a place on. -/
abbrev from_ (s : ByteArray) (k : Nat) : List UInt8 := s.data.toList.drop k

theorem from_length (s : ByteArray) (k : Nat) : (from_ s k).length = s.size - k := by simp [from_]

theorem own_form {w : World} {base : Nat} {e : TypeId} {size n : Nat} {v : Value} {xs : List Value} (h : w.ownsRow base e size v n xs) : ∃ A c, v = .slice A n c := by
  rcases h.2 with ⟨hv, hn⟩ | ⟨g', cap, cur, hv, _⟩
  · subst hn; exact ⟨none, 0, hv⟩
  · exact ⟨_, cap, hv⟩

theorem nx_step (s : ByteArray) (k : Nat) (h : (nx (from_ s k)).2 ≠ 0) : k + (nx (from_ s k)).2 ≤ s.size ∧ (nx (from_ s k)).2 ≤ 4 ∧ (nx (from_ s k)).1 ≤ 1114111 := by
  have h1 := nx_enc (from_ s k) h
  rw [from_length] at h1
  have h2 := h1.1
  rw [isB_iff] at h2
  omega

theorem bn_getD (s : ByteArray) (k : Nat) : (s.data.toList.getD k 0).toNat = bn s k := rfl
end Go.Proofs.YtfijpdmkdoccjaaGreatDoor
namespace Go.Proofs.YtfijpdmkdoccjaaGreatDoor
open Go Go.RowKit Um

theorem inB_hit (n : Int) (l : List Int) (k : Nat) (x y : Int) (hx : l[2*k]? = some x) (hy : l[2*k+1]? = some y) (h : (decide (x ≤ n) && decide (n ≤ y)) = true) (H : inB n (l.drop (2*k)) = inB n l) : inB n l = true := by
  rw [← H, inB_drop n x y l (2*k) hx hy, h]; rfl
theorem inB_miss (n : Int) (l : List Int) (k : Nat) (x y : Int) (hx : l[2*k]? = some x) (hy : l[2*k+1]? = some y) (h : (decide (x ≤ n) && decide (n ≤ y)) = false) (H : inB n (l.drop (2*k)) = inB n l) : inB n (l.drop (2*(k+1))) = inB n l := by
  rw [← H, inB_drop n x y l (2*k) hx hy, h]; rfl

def lowL : List Int := [65, 90, 97, 122, 192, 214, 216, 246, 248, 767, 880, 893, 895, 8191]
def highL : List Int := [8204, 8205, 8304, 8591, 11264, 12271, 12289, 55295, 63744, 64975, 65008, 65533, 65536, 983039]
theorem firstB_low (r : Int) : firstB r = (inB r lowL || inB r highL) := by
  simp only [firstB, firstL, lowL, highL, inB, Bool.or_false, Bool.or_assoc]

end Go.Proofs.YtfijpdmkdoccjaaGreatDoor
namespace Go.Proofs.YtfijpdmkdoccjaaGreatDoor
open Go Go.RowKit Um

theorem beginB_or (r : Int) : beginB r = (firstB r || (r == 95) || (r == 58) || digitB r) := by
  rw [Bool.eq_iff_iff]
  simp only [beginB, beginL, digitB, inB, Bool.or_eq_true, Bool.and_eq_true, decide_eq_true_eq, beq_iff_eq, Bool.or_false]
  by_cases h : firstB r = true
  · simp [h]
  · have h' : firstB r = false := by simpa using h
    simp only [h', Bool.false_eq_true, false_or]; omega
theorem letterB_or (r : Int) : letterB r = (beginB r || (r == 45) || (r == 183) || inB r [768, 879, 8255, 8256]) := by
  rw [Bool.eq_iff_iff]
  simp only [letterB, letterL, beginB, beginL, inB, Bool.or_eq_true, Bool.and_eq_true, decide_eq_true_eq, beq_iff_eq, Bool.or_false]
  by_cases h : firstB r = true
  · simp [h]
  · have h' : firstB r = false := by simpa using h
    simp only [h', Bool.false_eq_true, false_or]; omega

end Go.Proofs.YtfijpdmkdoccjaaGreatDoor
namespace Go.Proofs.YtfijpdmkdoccjaaGreatDoor
open Go Go.RowKit Um

theorem get!_getD (t : ByteArray) (i : Nat) : t.get! i = t.data.toList.getD i 0 := by
  cases t with
  | mk d =>
    show d[i]! = _
    by_cases h : i < d.size
    · simp [List.getD_eq_getElem?_getD, h]
    · simp [List.getD_eq_getElem?_getD, h]
      rfl

theorem decodeGo_nx (s : ByteArray) (k : Nat) (_hk : k ≤ s.size) :
    (if (Lib.decodeGo (s.extract k s.size)).1 = 65533 ∧ (Lib.decodeGo (s.extract k s.size)).2 < 2 then (0, 0) else Lib.decodeGo (s.extract k s.size)) = nx (from_ s k) := by
  have hl : (s.extract k s.size).data.toList = from_ s k := by
    rw [extract_toList, from_, List.take_of_length_le]
    simp
  have hsz : (s.extract k s.size).size = s.size - k := by simp [ByteArray.size_extract]
  have hfl := from_length s k
  unfold Lib.decodeGo nx
  by_cases h0 : s.size - k = 0
  · rw [hsz, if_pos h0, hfl, if_pos h0, if_pos ⟨rfl, by decide⟩]
  · rw [hsz, if_neg h0, hfl, if_neg h0, Lib.decode_at, hsz]
    simp only [get!_getD, hl, Nat.sub_zero, Nat.zero_add]
    have hp := decodeN_pos (s.size - k) ((from_ s k).getD 0 0).toNat ((from_ s k).getD 1 0).toNat ((from_ s k).getD 2 0).toNat ((from_ s k).getD 3 0).toNat
    generalize Lib.decodeN (s.size - k) ((from_ s k).getD 0 0).toNat ((from_ s k).getD 1 0).toNat ((from_ s k).getD 2 0).toNat ((from_ s k).getD 3 0).toNat = d at hp
    by_cases hd : d = (65533, 1)
    · rw [if_pos hd, if_pos (by rw [hd]; exact ⟨rfl, by decide⟩)]
    · rw [if_neg hd, if_neg]
      intro ⟨h1, h2⟩
      exact hd (Prod.ext h1 (by show d.2 = 1; omega))

/-- Only block g has turned, and what is new. -/
theorem only_set {a w : World} {g : Nat} (h : Below a.heap.size a w) (_hg : g < a.heap.size) (i : Nat) (u : Value) : a.grownBy (w.setCell ⟨g, i, none⟩ u) (some g) :=
  ⟨h.os, h.tape, h.output, by simpa [World.setCell] using h.size, fun j hj hne => (Below.heap_setCell w ⟨g, i, none⟩ u j (fun e => hne (by rw [e]))).trans (h.block j hj)⟩

theorem own_grown {w w' : World} {base : Nat} {e : TypeId} {size n : Nat} {v : Value} {xs : List Value} {g : Nat} (h : w.ownsRow base e size v n xs) (hg : w.grownBy w' (some g)) (hlt : g < base) : w'.ownsRow base e size v n xs := by
  refine h.kept hg ?_
  cases hv : v.ownBlock with
  | none => exact .inl rfl
  | some k => exact .inr (fun e => by injection e with e; have := (h.lt k hv).1; omega)

theorem below_grown {B g : Nat} {a w w' : World} (h : Below B a w) (hg : w.grownBy w' (some g)) (hB : B ≤ w.heap.size) (hgB : B ≤ g) : Below B a w' :=
  h.grown hg hB (fun k hk => by injection hk with hk; omega)

theorem Ctx.grown {w' : World} {w0 : World} (h0 : Ctx w0) (hb : Below w0.heap.size w0 w') : Ctx w' := h0.step hb
end Go.Proofs.YtfijpdmkdoccjaaGreatDoor
namespace Go.Proofs.YtfijpdmkdoccjaaGreatDoor
open Go Go.RowKit Um

def bOf : Value → Nat
  | .bool true => 1
  | _ => 0
theorem lab_next {l : List UInt8} {k d x best : Nat} (h : labRest l false (k + d) (if x = 46 then best else k + d)) : (((x : Int) != 46) = true → labRest l false (k + d) (k + d)) ∧ (((x : Int) != 46) = false → labRest l false (k + d) best) := by
  constructor
  · intro hx
    have h2 : ¬ x = 46 := by rw [bne_iff_ne] at hx; omega
    rwa [if_neg h2] at h
  · intro hx
    have h2 : x = 46 := by simp at hx; omega
    rwa [if_pos h2] at h

theorem lab_measure {S k d d1 : Nat} (h : k + d + d1 ≤ S) (_h0 : ¬ d = 0) : 2 * (S - (k + d + d1)) + bOf (.bool (decide (0 < d1))) < 2 * (S - (k + d)) + bOf (.bool true) := by
  by_cases h1 : d1 = 0
  · subst h1; simp [bOf]
  · have : bOf (.bool (decide (0 < d1))) ≤ 1 := by simp [show 0 < d1 by omega, bOf]
    simp only [bOf] at *; omega

end Go.Proofs.YtfijpdmkdoccjaaGreatDoor
namespace Go.Proofs.YtfijpdmkdoccjaaGreatDoor
open Go Go.RowKit Um

theorem decode_high (t : ByteArray) (pos : Nat) (h : 128 ≤ (t.get! pos).toNat) : 128 ≤ (Utf8.decode t pos).1 := by
  rw [Lib.decode_at]
  unfold Lib.decodeN
  repeat' split
  all_goals simp only
  all_goals omega
theorem decode_low (t : ByteArray) (pos : Nat) (h : (t.get! pos).toNat < 128) : Utf8.decode t pos = ((t.get! pos).toNat, 1) := by
  rw [Lib.decode_at, dec1 _ _ _ _ _ h]

theorem idx_span_from (q : Int → Bool) (hq : ∀ x : Nat, 128 ≤ x → q x = false) (t : ByteArray) : ∀ f pos, t.size ≤ pos + f → pos ≤ t.size →
    Lib.idxFuncFrom (fun x => !q x) true t f pos = if pos + span q (t.data.toList.drop pos) < t.size then ((pos + span q (t.data.toList.drop pos) : Nat) : Int) else -1
  | 0, pos, h, h2 => by
    have hp : pos = t.size := by omega
    rw [span_end _ _ _ (by rw [size_toList]; omega), if_neg (by omega)]
    rfl
  | f + 1, pos, h, h2 => by
    unfold Lib.idxFuncFrom
    by_cases hlt : pos < t.size
    · rw [if_pos hlt]
      have hb : (t.get! pos).toNat = bn t pos := by rw [get!_getD]; rfl
      rw [span_drop _ _ _ (by rw [size_toList]; exact hlt), bn_getD]
      by_cases hlow : bn t pos < 128
      · rw [decode_low t pos (by omega), hb]
        simp only
        cases hqb : q (bn t pos) with
        | true =>
          simp only [Bool.not_true, Bool.false_eq_true, if_false, if_true]
          rw [idx_span_from q hq t f (pos + 1) (by omega) (by omega)]
          rw [show pos + 1 + span q (List.drop (pos + 1) t.data.toList) = pos + (span q (List.drop (pos + 1) t.data.toList) + 1) by omega]
        | false =>
          simp only [Bool.not_false, if_true, Bool.false_eq_true, if_false, Nat.add_zero, if_pos hlt]
      · have hq1 := hq _ (decode_high t pos (by omega))
        have hq2 := hq (bn t pos) (by omega)
        simp only [hq1, hq2, Bool.not_false, if_true, Bool.false_eq_true, if_false, Nat.add_zero, if_pos hlt]
    · rw [if_neg hlt, span_end _ _ _ (by rw [size_toList]; omega), if_neg (by omega)]

theorem idx_span (q : Int → Bool) (hq : ∀ x : Nat, 128 ≤ x → q x = false) (t : ByteArray) :
    Lib.idxFunc (fun x => !q x) true t = if span q t.data.toList < t.size then (span q t.data.toList : Int) else -1 := by
  have := idx_span_from q hq t t.size 0 (by omega) (by omega)
  simpa [Lib.idxFunc] using this

theorem alpha_high (x : Nat) (h : 128 ≤ x) : alphaB x = false := by
  simp [alphaB, inB]; omega
theorem alnum_high (x : Nat) (h : 128 ≤ x) : alnumB x = false := by
  simp [alnumB, alphaB, digitB, inB]; omega

end Go.Proofs.YtfijpdmkdoccjaaGreatDoor
