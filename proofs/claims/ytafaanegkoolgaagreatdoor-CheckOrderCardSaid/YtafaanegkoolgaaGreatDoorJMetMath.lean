/- What the library's variables hold, out of a row's list. The library's slices.Index, Contains over texts. Names, each once, as they came, in plain words. -/
import Derived.Test.YtafaanegkoolgaaGreatDoorJOpen2
import Derived.Test.YtafaanegkoolgaaGreatDoorJBase
import Derived.Lib.SlicesS
import Derived.Lib.Small
namespace Go.Proofs.YtafaanegkoolgaaGreatDoor
open Go Go.ChangeShapes Go.WideShapes Go.ChangeAt Go.RowKit Go.Lib
theorem ctx_of {W : World} (hL : laidMetH Tryz.prog laidList W) (hsh : W.ShapedOpen Tryz.prog) : Ctx W := by
  refine ⟨?_, Go.Proofs.cell_of_shapedOpen_int (zero := #[.int .i64 0]) (t := 3) hsh (of_decide_eq_true (by kernel_rfl)) (by kernel_rfl) rfl (by kernel_rfl) (by kernel_rfl) Tryz.underlying3⟩
  have h1 := Lib.laidMet.reads hL (.tail _ (.head _))
  have h2 := Lib.laidMet.reads hL (.head _)
  rw [first_same] at h1
  rw [accept_same] at h2
  exact utf8Tabs_of_reads Tryz.lays260 ⟨by kernel_rfl, by kernel_rfl, by kernel_rfl, by kernel_rfl, by kernel_rfl, by kernel_rfl, by kernel_rfl⟩ h1 h2
end Go.Proofs.YtafaanegkoolgaaGreatDoor
namespace Go.Proofs.YtafaanegkoolgaaGreatDoor
open Go Go.RowKit

theorem beq_str (x y : ByteArray) : (x.toList == y.toList) = decide (y = x) := by
  by_cases h : y = x
  · subst h; simp
  · simp only [h, decide_false]; rw [Lib.bytes_beq_false_iff]; exact fun e => h e.symm
theorem idxTxt (l : List ByteArray) (x : ByteArray) (A : Option Addr) (c : Nat) (w : World) (hl : l.length ≤ 281474976710656) (hr : Rd w A (l.map Value.string)) :
    Calls Tryz.prog 106 #[.slice A l.length c, .string x] w fun e w' => e = .returned (.int .i64 (Lib.idxOfS l x)) ∧ w = w' := by
  go_enter Tryz.func106, Tryz.ntmps106
  go_wp2
  go_loop [8] (fun i => ∃ k : Nat, k ≤ l.length ∧ i = .int .i64 k ∧ Hid (Lib.idxOfS l x = Lib.idxFromS (l.drop k) x k)) (fun i => l.length - (intOf i).toNat)
  case atStart => exact ⟨0, by omega, rfl, rfl⟩
  case round =>
    obtain ⟨k, hk, rfl, H⟩ := hrel
    by_cases hlt : k < l.length
    · obtain ⟨y, hx⟩ : ∃ x, l[k]? = some x := ⟨_, List.getElem?_eq_getElem hlt⟩
      obtain ⟨g, o, rfl, hcx⟩ := hr.at_ (j := k) (u := .string y) (by simp [hx])
      have hd : l.drop k = y :: l.drop (k + 1) := by
        rw [List.drop_eq_getElem_cons hlt]
        rw [List.getElem?_eq_getElem hlt] at hx
        injection hx with hx; rw [hx]
      have H2 : Hid (Lib.idxOfS l x = if (x.toList == y.toList) then (k : Int) else Lib.idxFromS (l.drop (k+1)) x (k+1)) := by
        show Lib.idxOfS l x = _
        rw [H.out, hd, Lib.idxFromS, beq_str]; simp
      clear hx hd H hr
      cases hx0 : (x.toList == y.toList)
      · rw [hx0] at H2
        go_wp2
        go_round
        case rel => exact ⟨k+1, by omega, by go_num, H2⟩
        case measure => simp [intOf]; omega
      · rw [hx0] at H2
        go_wp2
        go_ret
        exact ⟨by rw [H2.out]; rfl, rfl⟩
    · have H2 : Hid (Lib.idxOfS l x = -1) := by
        show Lib.idxOfS l x = _
        rw [H.out, List.drop_eq_nil_of_le (by omega)]; rfl
      clear H
      go_wp2
      go_ret
      exact ⟨by rw [H2.out]; rfl, rfl⟩
end Go.Proofs.YtafaanegkoolgaaGreatDoor
namespace Go.Proofs.YtafaanegkoolgaaGreatDoor.Mt
open Go

def hasS (l : List ByteArray) (s : ByteArray) : Bool := decide (0 ≤ Lib.idxOfS l s)
theorem hasS_iff {l : List ByteArray} {s : ByteArray} : hasS l s = true ↔ s ∈ l := by unfold hasS; rw [decide_eq_true_iff, Lib.idxOfS_nonneg_iff]
theorem hasS_no {l : List ByteArray} {s : ByteArray} : hasS l s = false ↔ s ∉ l := by unfold hasS; rw [decide_eq_false_iff_not, Lib.idxOfS_nonneg_iff]
/-- A name behind others, if it is not among them. -/
def metN (l : List ByteArray) (s : ByteArray) : List ByteArray := if hasS l s then l else l ++ [s]
def metsN (l names : List ByteArray) : List ByteArray := names.foldl metN l
theorem metsN_nil (l : List ByteArray) : metsN l [] = l := rfl
theorem metsN_cons (l : List ByteArray) (s : ByteArray) (r : List ByteArray) : metsN l (s :: r) = metsN (metN l s) r := rfl
theorem metsN_app (l a b : List ByteArray) : metsN l (a ++ b) = metsN (metsN l a) b := List.foldl_append
theorem metsN_one (l : List ByteArray) (s : ByteArray) : metsN l [s] = metN l s := rfl
theorem metN_has {l : List ByteArray} {s : ByteArray} (h : hasS l s = true) : metN l s = l := by unfold metN; rw [if_pos h]
theorem metN_new {l : List ByteArray} {s : ByteArray} (h : hasS l s = false) : metN l s = l ++ [s] := by unfold metN; rw [h]; rfl
theorem metN_ext (l : List ByteArray) (s : ByteArray) : ∃ r, metN l s = l ++ r ∧ r.length ≤ 1 := by
  unfold metN; split
  · exact ⟨[], by simp, by simp⟩
  · exact ⟨[s], rfl, by simp⟩
theorem metsN_ext : ∀ (names l : List ByteArray), ∃ r, metsN l names = l ++ r ∧ r.length ≤ names.length
  | [], l => ⟨[], by simp [metsN_nil], by simp⟩
  | s :: t, l => by
    obtain ⟨r1, h1, k1⟩ := metN_ext l s
    obtain ⟨r2, h2, k2⟩ := metsN_ext t (metN l s)
    exact ⟨r1 ++ r2, by rw [metsN_cons, h2, h1, List.append_assoc], by simp; omega⟩
theorem metN_mem {l : List ByteArray} {s x : ByteArray} : x ∈ metN l s ↔ x ∈ l ∨ x = s := by
  unfold metN; split
  · rename_i h
    rw [hasS_iff] at h
    exact ⟨.inl, fun e => e.elim id fun e => e ▸ h⟩
  · simp
theorem metsN_mem {x : ByteArray} : ∀ (names l : List ByteArray), x ∈ metsN l names ↔ x ∈ l ∨ x ∈ names
  | [], l => by simp [metsN_nil]
  | s :: t, l => by rw [metsN_cons, metsN_mem t, metN_mem, List.mem_cons, or_assoc]
theorem metN_nodup {l : List ByteArray} (s : ByteArray) (h : l.Nodup) : (metN l s).Nodup := by
  unfold metN; split
  · exact h
  · rename_i hs
    have : s ∉ l := hasS_no.1 (by simpa using hs)
    rw [List.nodup_append]
    exact ⟨h, by simp, fun a ha b hb e => by simp at hb; subst hb; subst e; exact this ha⟩
theorem metsN_nodup : ∀ (names : List ByteArray) {l : List ByteArray}, l.Nodup → (metsN l names).Nodup
  | [], _, h => h
  | _ :: t, _, h => by rw [metsN_cons]; exact metsN_nodup t (metN_nodup _ h)
theorem metsN_len (names l : List ByteArray) : (metsN l names).length ≤ l.length + names.length := by
  obtain ⟨r, h, k⟩ := metsN_ext names l
  rw [h, List.length_append]; omega
theorem metN_len (l : List ByteArray) (s : ByteArray) : (metN l s).length ≤ l.length + 1 := by
  obtain ⟨r, h, k⟩ := metN_ext l s
  rw [h, List.length_append]; omega
/-- Two lists without doublings that have the same are as long. -/
theorem nodup_len {a b : List ByteArray} (ha : a.Nodup) (hb : b.Nodup) (h : ∀ x, x ∈ a ↔ x ∈ b) : a.length = b.length :=
  ((List.perm_ext_iff_of_nodup ha hb).2 h).length_eq
theorem mets_same {a b : List ByteArray} (h : ∀ x, x ∈ a ↔ x ∈ b) : (metsN [] a).length = (metsN [] b).length :=
  nodup_len (metsN_nodup a List.nodup_nil) (metsN_nodup b List.nodup_nil) fun x => by rw [metsN_mem, metsN_mem, h]
/-- What is met first stands first. -/
theorem mets_pre (a b : List ByteArray) : metsN [] (a ++ b) = metsN [] a ++ (metsN [] (a ++ b)).drop (metsN [] a).length := by
  obtain ⟨r, h, _⟩ := metsN_ext b (metsN [] a)
  rw [metsN_app, h, List.drop_left]
theorem mets_take (a b : List ByteArray) : (metsN [] (a ++ b)).take (metsN [] a).length = metsN [] a := by
  obtain ⟨r, h, _⟩ := metsN_ext b (metsN [] a)
  rw [metsN_app, h, List.take_left]
theorem mets_next {a b : List ByteArray} {s : ByteArray} (h : hasS (metsN [] a) s = false) : (metsN [] (a ++ [s] ++ b))[(metsN [] a).length]? = some s ∧ (metsN [] a).length < (metsN [] (a ++ [s] ++ b)).length := by
  obtain ⟨r, hr, _⟩ := metsN_ext b (metsN [] (a ++ [s]))
  have e : metsN [] (a ++ [s]) = metsN [] a ++ [s] := by rw [metsN_app, metsN_one, metN_new h]
  rw [metsN_app, hr, e]
  refine ⟨?_, by simp⟩
  rw [List.append_assoc, List.getElem?_append_right (Nat.le_refl _)]; simp
theorem nodup_has {l : List ByteArray} (h : l.Nodup) {i : Nat} {s : ByteArray} (hs : l[i]? = some s) : hasS (l.take i) s = false := by
  rw [hasS_no]
  intro hm
  obtain ⟨hlt, hge⟩ := List.getElem?_eq_some_iff.1 hs
  obtain ⟨j, hj, he⟩ := List.getElem_of_mem hm
  rw [List.getElem_take] at he
  have hj' : j < i := by simp at hj; omega
  have := List.pairwise_iff_getElem.1 h j i (by omega) hlt hj'
  exact this (by rw [he, hge])
end Go.Proofs.YtafaanegkoolgaaGreatDoor.Mt
