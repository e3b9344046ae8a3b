/- Layer 25's law: how great a condition is. Layer 25's law, walked: FilterKeeps. Names, each once, as they came, in plain words. -/
import Derived.Test.YtfijpdmkdoccjaaGreatDoorJFilKind
import Derived.Test.YtfijpdmkdoccjaaGreatDoorJExprMath
import Derived.Test.YtfijpdmkdoccjaaGreatDoorJFilOf
import Derived.Test.YtfijpdmkdoccjaaGreatDoorJLaw25a
import Derived.Lib.SlicesS
import Derived.Lib.Small
namespace Go.Proofs.YtfijpdmkdoccjaaGreatDoor
open Go Go.RowKit Fm

def SomeB (w : World) (e : Ending) (w' : World) : Prop := ∃ b, e = .returned (.bool b) ∧ Below w.heap.size w w'
def PartR (most deep : Int) (w : World) (e : Ending) (w' : World) : Prop := ∃ r : Int, e = .returned (.int .i64 r) ∧ 1 ≤ r ∧ r ≤ (62 - deep) * (most + 1) ∧ Below w.heap.size w w'
set_option maxRecDepth 10000 in
set_option maxHeartbeats 1000000 in
theorem lawPart (n : Nat) : ∀ (x : ExT n) (cs : List Value) (deep : Int) (w : World), 0 ≤ deep → deep ≤ 61 → RdE n w cs x → szE n x →
    Calls Tryz.prog 53 #[.agg cs.toArray, .int .i64 deep] w (PartR 300 deep w) := by
  induction n with
  | zero => intro x cs deep w _ _ h; exact h.elim
  | succ n ih =>
    rintro ⟨k, s, t, kids⟩ cs deep w hd0 hd1 ⟨A, c, rfl, hcap, hk⟩ ⟨hs1, hs2, hkl, hkz⟩
    have hkl' : (kids.length : Int) ≤ 1353245080300 := by omega
    by_cases h60 : 60 < deep
    · clear ih
      go_enter Tryz.func53, Tryz.ntmps53
      go_wp2
      go_ret
      exact ⟨301, rfl, by omega, by omega, (by repeat (first | exact Below.refl _ _ | assumption | exact (Below.refl _ _).alloc (Nat.le_refl _) _ | refine below_tr ?_ (by assumption) | refine below_alloc ?_ | refine below_tr ?_ (below_regrown _ _ _)))⟩
    · go_enter Tryz.func53, Tryz.ntmps53
      go_wp2
      obtain ⟨W, hW⟩ : ∃ W : World, w.alloc (.cells #[.int .i64 k, .string s, .int .i64 t.k, .string t.x, .string t.l, .string t.y, .slice A kids.length c] 31) = W := ⟨_, rfl⟩
      have hB0 : Below w.heap.size w W := by rw [← hW]; exact (by repeat (first | exact Below.refl _ _ | assumption | exact (Below.refl _ _).alloc (Nat.le_refl _) _ | refine below_tr ?_ (by assumption) | refine below_alloc ?_ | refine below_tr ?_ (below_regrown _ _ _)))
      have hz : W.heap.size = w.heap.size + 1 := by rw [← hW]; simp
      have hc6 : W.cell? ⟨w.heap.size, 6, none⟩ = some (.slice A kids.length c) := by rw [← hW, World.cell?, heap_alloc_new]; rfl
      have hkW := RdEs.later hk hB0
      simp only [hW]
      have HW := Lib.hid hW
      clear hW hk
      go_loopw [5, 6] (fun nv i wr => ∃ j : Nat, ∃ r : Int, j ≤ kids.length ∧ i = .int .i64 j ∧ nv = .int .i64 r ∧ 1 ≤ r ∧ r ≤ (62 - deep) * 301 ∧ Below W.heap.size W wr) (fun _ i _ => kids.length - (intOf i).toNat)
      case atStart => exact ⟨0, 1, by omega, rfl, rfl, by omega, by omega, Below.refl _ _⟩
      case round =>
        obtain ⟨j, r, hj, rfl, rfl, hr1, hr2, hB⟩ := hrel
        have hc := hB.cell (p := ⟨w.heap.size, 6, none⟩) (by simp; omega)
        rw [hc6] at hc
        have Hz := Lib.hid hz
        clear hz hc6
        by_cases hlt : j < kids.length
        · by_cases hr3 : r ≤ 300
          · obtain ⟨y, hy⟩ : ∃ y, kids[j]? = some y := ⟨_, List.getElem?_eq_getElem hlt⟩
            have hzy := hkz y (List.mem_of_getElem? hy)
            obtain ⟨g, o, u0, u1, u2, u3, u4, u5, u6, rfl, hR, c0, c1, c2, c3, c4, c5, c6⟩ := (RdEs.later hkW hB).at7 hy
            clear hy
            have hih := ih y [u0, u1, u2, u3, u4, u5, u6] (deep + 1) wr (by omega) (by omega) hR hzy
            clear ih
            go_wp2_with (refine hih.mono ?_; rintro e w2 ⟨r2, rfl, hr4, hr5, hB2⟩)
            go_roundw
            case rel => exact ⟨j + 1, r + r2, by omega, by go_num, rfl, by omega, by omega, below_tr hB hB2⟩
            case measure => simp [intOf]; omega
          · clear ih
            go_wp2
            go_ret
            exact ⟨r, rfl, by omega, by omega, below_tr hB0 hB⟩
        · clear ih
          go_wp2
          go_ret
          exact ⟨r, rfl, by omega, by omega, below_tr hB0 hB⟩

set_option maxRecDepth 10000 in
set_option maxHeartbeats 1000000 in
theorem lawGreat (n : Nat) (l : List (ExT n)) (A A1 A2 : Option Addr) (c n1 c1 n2 c2 : Nat) (w : World) (hr : RdEs n w A l) (hl : l.length ≤ 1353245080300) (h1 : n1 ≤ 281474976710656) (h2 : n2 ≤ 281474976710656) (hz : ∀ x ∈ l, szE n x) :
    Calls Tryz.prog 27 #[.slice A l.length c, .slice A1 n1 c1, .slice A2 n2 c2] w (SomeB w) := by
  have hl' : (l.length : Int) ≤ 1353245080300 := by omega
  have h1' : (n1 : Int) ≤ 281474976710656 := by omega
  have h2' : (n2 : Int) ≤ 281474976710656 := by omega
  go_enter Tryz.func27, Tryz.ntmps27
  go_wp2
  go_loopw [7, 8] (fun nv i wr => ∃ j : Nat, ∃ r : Int, j ≤ l.length ∧ i = .int .i64 j ∧ nv = .int .i64 r ∧ 0 ≤ r ∧ r ≤ 1000000000000000 ∧ Below w.heap.size w wr) (fun _ i _ => l.length - (intOf i).toNat)
  case atStart => exact ⟨0, (l.length : Int) + n1 + n2, by omega, rfl, rfl, by omega, by omega, Below.refl _ _⟩
  case round =>
    obtain ⟨j, r, hj, rfl, rfl, hr1, hr2, hB⟩ := hrel
    by_cases hlt : j < l.length
    · by_cases hr3 : r ≤ 300
      · obtain ⟨y, hy⟩ : ∃ y, l[j]? = some y := ⟨_, List.getElem?_eq_getElem hlt⟩
        have hzy := hz y (List.mem_of_getElem? hy)
        obtain ⟨g, o, u0, u1, u2, u3, u4, u5, u6, rfl, hR, c0, c1, c2, c3, c4, c5, c6⟩ := (RdEs.later hr hB).at7 hy
        clear hy
        have hih := lawPart n y [u0, u1, u2, u3, u4, u5, u6] 0 wr (by omega) (by omega) hR hzy
        go_wp2_with (refine hih.mono ?_; rintro e w2 ⟨r2, rfl, hr4, hr5, hB2⟩)
        go_roundw
        case rel => exact ⟨j + 1, r + r2, by omega, by go_num, rfl, by omega, by omega, below_tr hB hB2⟩
        case measure => simp [intOf]; omega
      · go_wp2
        go_ret
        exact ⟨_, rfl, hB⟩
    · go_wp2
      all_goals (go_ret; exact ⟨_, rfl, hB⟩)

end Go.Proofs.YtfijpdmkdoccjaaGreatDoor
namespace Go.Proofs.YtfijpdmkdoccjaaGreatDoor
open Go Go.RowKit Go.Maps Go.ChangeMaps Fm

theorem stringInfo : (Tryz.prog.info? 9).map (fun i => (i.zero, i.size, i.bytes)) = some (some (.string ⟨#[]⟩), 1, 16) := by kernel_rfl
theorem termInfo : (Tryz.prog.info? 28).map (fun i => (i.zero, i.size, i.bytes)) = some (some (.agg #[.int .i64 0, .string ⟨#[]⟩, .string ⟨#[]⟩, .string ⟨#[]⟩]), 4, 56) := by kernel_rfl
theorem strs1 (l : List ByteArray) : ∀ u ∈ l.map Value.string, u.oneCell' = true := by intro u hu; obtain ⟨x, _, rfl⟩ := List.mem_map.1 hu; rfl
theorem tms1 (l : List Tm) : ∀ u ∈ l.flatMap tmC, u.oneCell' = true := by
  intro u hu
  obtain ⟨t, _, ht⟩ := List.mem_flatMap.1 hu
  simp only [tmC, List.mem_cons, List.not_mem_nil, or_false] at ht
  rcases ht with rfl | rfl | rfl | rfl <;> rfl
theorem RdTs.flat {w : World} {A : Option Addr} {l : List Tm} : RdTs w A l ↔ Rd w A (l.flatMap tmC) := by
  constructor
  · rintro ⟨xs, h, ha⟩
    rw [← ha.flat]; exact h
  · intro h
    exact ⟨_, h, All.of_flat l fun _ _ => rfl⟩
theorem tms_len (l : List Tm) : (l.flatMap tmC).length = l.length * 4 := by
  induction l with
  | nil => rfl
  | cons a r ih => simp [List.flatMap_cons, ih, tmC, Nat.add_mul]
theorem fails_snoc {vars : List ByteArray} {row : List Tm} {n : Nat} {l : List (ExT n)} {j : Nat} {y : ExT n} (h : l[j]? = some y) : (!failsI vars row n (l.take (j + 1))) = (!failsI vars row n (l.take j) && (ofI vars row n y == 1)) := by
  rw [take_snoc_of h]
  unfold failsI
  simp [List.any_append, Bool.not_or]

end Go.Proofs.YtfijpdmkdoccjaaGreatDoor
namespace Go.Proofs.YtfijpdmkdoccjaaGreatDoor.Mt
open Go

def hasS (l : List ByteArray) (s : ByteArray) : Bool := decide (0 ≤ Lib.idxOfS l s)
theorem hasS_iff {l : List ByteArray} {s : ByteArray} : hasS l s = true ↔ s ∈ l := by unfold hasS; rw [decide_eq_true_iff, Lib.idxOfS_nonneg_iff]
theorem hasS_no {l : List ByteArray} {s : ByteArray} : hasS l s = false ↔ s ∉ l := by unfold hasS; rw [decide_eq_false_iff_not, Lib.idxOfS_nonneg_iff]
/-- A name behind others, if it is not among them. -/
def metN (l : List ByteArray) (s : ByteArray) : List ByteArray := if hasS l s then l else l ++ [s]
def metsN (l names : List ByteArray) : List ByteArray := names.foldl metN l
theorem metsN_nil (l : List ByteArray) : metsN l [] = l := rfl
theorem metsN_cons (l : List ByteArray) (s : ByteArray) (r : List ByteArray) : metsN l (s :: r) = metsN (metN l s) r := rfl
theorem metsN_app (l a b : List ByteArray) : metsN l (a ++ b) = metsN (metsN l a) b := List.foldl_append
theorem metsN_one (l : List ByteArray) (s : ByteArray) : metsN l [s] = metN l s := rfl
theorem metN_has {l : List ByteArray} {s : ByteArray} (h : hasS l s = true) : metN l s = l := by unfold metN; rw [if_pos h]
theorem metN_new {l : List ByteArray} {s : ByteArray} (h : hasS l s = false) : metN l s = l ++ [s] := by unfold metN; rw [h]; rfl
theorem metN_ext (l : List ByteArray) (s : ByteArray) : ∃ r, metN l s = l ++ r ∧ r.length ≤ 1 := by
  unfold metN; split
  · exact ⟨[], by simp, by simp⟩
  · exact ⟨[s], rfl, by simp⟩
theorem metsN_ext : ∀ (names l : List ByteArray), ∃ r, metsN l names = l ++ r ∧ r.length ≤ names.length
  | [], l => ⟨[], by simp [metsN_nil], by simp⟩
  | s :: t, l => by
    obtain ⟨r1, h1, k1⟩ := metN_ext l s
    obtain ⟨r2, h2, k2⟩ := metsN_ext t (metN l s)
    exact ⟨r1 ++ r2, by rw [metsN_cons, h2, h1, List.append_assoc], by simp; omega⟩
theorem metN_mem {l : List ByteArray} {s x : ByteArray} : x ∈ metN l s ↔ x ∈ l ∨ x = s := by
  unfold metN; split
  · rename_i h
    rw [hasS_iff] at h
    exact ⟨.inl, fun e => e.elim id fun e => e ▸ h⟩
  · simp
theorem metsN_mem {x : ByteArray} : ∀ (names l : List ByteArray), x ∈ metsN l names ↔ x ∈ l ∨ x ∈ names
  | [], l => by simp [metsN_nil]
  | s :: t, l => by rw [metsN_cons, metsN_mem t, metN_mem, List.mem_cons, or_assoc]
theorem metN_nodup {l : List ByteArray} (s : ByteArray) (h : l.Nodup) : (metN l s).Nodup := by
  unfold metN; split
  · exact h
  · rename_i hs
    have : s ∉ l := hasS_no.1 (by simpa using hs)
    rw [List.nodup_append]
    exact ⟨h, by simp, fun a ha b hb e => by simp at hb; subst hb; subst e; exact this ha⟩
theorem metsN_nodup : ∀ (names : List ByteArray) {l : List ByteArray}, l.Nodup → (metsN l names).Nodup
  | [], _, h => h
  | _ :: t, _, h => by rw [metsN_cons]; exact metsN_nodup t (metN_nodup _ h)
theorem metsN_len (names l : List ByteArray) : (metsN l names).length ≤ l.length + names.length := by
  obtain ⟨r, h, k⟩ := metsN_ext names l
  rw [h, List.length_append]; omega
theorem metN_len (l : List ByteArray) (s : ByteArray) : (metN l s).length ≤ l.length + 1 := by
  obtain ⟨r, h, k⟩ := metN_ext l s
  rw [h, List.length_append]; omega
/-- Two lists without doublings that have the same are as long. -/
theorem nodup_len {a b : List ByteArray} (ha : a.Nodup) (hb : b.Nodup) (h : ∀ x, x ∈ a ↔ x ∈ b) : a.length = b.length :=
  ((List.perm_ext_iff_of_nodup ha hb).2 h).length_eq
theorem mets_same {a b : List ByteArray} (h : ∀ x, x ∈ a ↔ x ∈ b) : (metsN [] a).length = (metsN [] b).length :=
  nodup_len (metsN_nodup a List.nodup_nil) (metsN_nodup b List.nodup_nil) fun x => by rw [metsN_mem, metsN_mem, h]
/-- What is met first stands first. -/
theorem mets_pre (a b : List ByteArray) : metsN [] (a ++ b) = metsN [] a ++ (metsN [] (a ++ b)).drop (metsN [] a).length := by
  obtain ⟨r, h, _⟩ := metsN_ext b (metsN [] a)
  rw [metsN_app, h, List.drop_left]
theorem mets_take (a b : List ByteArray) : (metsN [] (a ++ b)).take (metsN [] a).length = metsN [] a := by
  obtain ⟨r, h, _⟩ := metsN_ext b (metsN [] a)
  rw [metsN_app, h, List.take_left]
theorem mets_next {a b : List ByteArray} {s : ByteArray} (h : hasS (metsN [] a) s = false) : (metsN [] (a ++ [s] ++ b))[(metsN [] a).length]? = some s ∧ (metsN [] a).length < (metsN [] (a ++ [s] ++ b)).length := by
  obtain ⟨r, hr, _⟩ := metsN_ext b (metsN [] (a ++ [s]))
  have e : metsN [] (a ++ [s]) = metsN [] a ++ [s] := by rw [metsN_app, metsN_one, metN_new h]
  rw [metsN_app, hr, e]
  refine ⟨?_, by simp⟩
  rw [List.append_assoc, List.getElem?_append_right (Nat.le_refl _)]; simp
theorem nodup_has {l : List ByteArray} (h : l.Nodup) {i : Nat} {s : ByteArray} (hs : l[i]? = some s) : hasS (l.take i) s = false := by
  rw [hasS_no]
  intro hm
  obtain ⟨hlt, hge⟩ := List.getElem?_eq_some_iff.1 hs
  obtain ⟨j, hj, he⟩ := List.getElem_of_mem hm
  rw [List.getElem_take] at he
  have hj' : j < i := by simp at hj; omega
  have := List.pairwise_iff_getElem.1 h j i (by omega) hlt hj'
  exact this (by rw [he, hge])
end Go.Proofs.YtfijpdmkdoccjaaGreatDoor.Mt
