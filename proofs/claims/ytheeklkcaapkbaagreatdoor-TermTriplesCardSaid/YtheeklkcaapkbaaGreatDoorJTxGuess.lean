/- The program's package term, walked: guess, Parse. Printed by gen/txguess.py. -/
import Derived.Test.YtheeklkcaapkbaaGreatDoorJTxRaw
import Derived.Test.YtheeklkcaapkbaaGreatDoorJLaw08s
namespace Go.Proofs.YtheeklkcaapkbaaGreatDoor
open Go Go.RowKit Um Fm Lx Tx

theorem termBlank (s : ByteArray) (w : World) : Calls Tryz.prog 28 #[.string s] w fun e w' => e = .returned (tA ⟨2, s, ⟨#[]⟩, ⟨#[]⟩⟩) ∧ Below w.heap.size w w' := by
  go_enter Tryz.func28, Tryz.ntmps28
  go_wp2
  refine bodyPost_ret (v := tA ⟨2, s, ⟨#[]⟩, ⟨#[]⟩⟩) (by simp [results, Tryz.results28, go_sem]) rfl ⟨rfl, (by repeat (first | exact Below.refl _ _ | assumption | exact (Below.refl _ _).alloc (Nat.le_refl _) _ | refine below_tr ?_ (by assumption) | refine below_alloc ?_ | refine below_tr ?_ (below_regrown _ _ _)))⟩
theorem termLiteral (s : ByteArray) (w : World) : Calls Tryz.prog 29 #[.string s] w fun e w' => e = .returned (tA ⟨3, s, ⟨#[]⟩, ⟨#[]⟩⟩) ∧ Below w.heap.size w w' := by
  go_enter Tryz.func29, Tryz.ntmps29
  go_wp2
  refine bodyPost_ret (v := tA ⟨3, s, ⟨#[]⟩, ⟨#[]⟩⟩) (by simp [results, Tryz.results29, go_sem]) rfl ⟨rfl, (by repeat (first | exact Below.refl _ _ | assumption | exact (Below.refl _ _).alloc (Nat.le_refl _) _ | refine below_tr ?_ (by assumption) | refine below_alloc ?_ | refine below_tr ?_ (below_regrown _ _ _)))⟩
theorem trim_lib (l : List UInt8) : Lib.trimSuffix l [62] = trimL l := rfl
theorem drop_ext (s : ByteArray) (k : Nat) : (s.extract k s.size).data.toList = s.data.toList.drop k := by
  rw [extract_toList, List.take_of_length_le (by rw [List.length_drop, size_toList]; omega)]
theorem mid_ext (s : ByteArray) (k n : Nat) : (s.extract k n).data.toList = (s.data.toList.drop k).take (n - k) := extract_toList s k n
theorem cutP (s p : ByteArray) (l : List UInt8) (hl : p.data.toList = l) (n k : Nat) (hk : l.length = k) (W : World) : Calls Tryz.prog 74 #[.string (s.extract n s.size), .string p] W fun e w' =>
    e = .returned (.tuple #[.string (mkS (if l.isPrefixOf (s.data.toList.drop n) then (s.data.toList.drop n).drop k else s.data.toList.drop n)), .bool (l.isPrefixOf (s.data.toList.drop n))]) ∧ w' = W := by
  have := Tryz.strings_CutPrefix (s.extract n s.size) p W
  rw [drop_ext] at this
  subst hl hk
  exact this
/-- A new term's block. -/
def zT (w : World) (V : World) : Prop := V.heap[w.heap.size]? = some (.cells #[.int .i64 0, .string ⟨#[]⟩, .string ⟨#[]⟩, .string ⟨#[]⟩] 24 (0, 0))
theorem zT.new (w : World) : zT w (w.alloc (.cells #[.int .i64 0, .string ⟨#[]⟩, .string ⟨#[]⟩, .string ⟨#[]⟩] 24)) := heap_alloc_new w _
theorem zT.step {w V V' : World} (h : zT w V) (hb : Below V.heap.size V V') : zT w V' := below_blk hb h
theorem zT.d {w V : World} (h : zT w V) : V.cell? ⟨w.heap.size, 0, none⟩ = some (.int .i64 0) ∧ V.cell? ⟨w.heap.size, 1, none⟩ = some (.string ⟨#[]⟩) ∧ V.cell? ⟨w.heap.size, 2, none⟩ = some (.string ⟨#[]⟩) ∧ V.cell? ⟨w.heap.size, 3, none⟩ = some (.string ⟨#[]⟩) ∧ ∀ i, V.frozen? ⟨w.heap.size, i, none⟩ = false :=
  ⟨by rw [Lib.cell_of_heap h]; rfl, by rw [Lib.cell_of_heap h]; rfl, by rw [Lib.cell_of_heap h]; rfl, by rw [Lib.cell_of_heap h]; rfl, fun i => Lib.frozen_of_heap h i⟩

set_option maxHeartbeats 4000000 in
set_option maxRecDepth 100000 in
theorem termGuess (s : ByteArray) (w : World) (hE : ErrB w) (hs : s.size ≤ 1000000) :
    Calls Tryz.prog 47 #[.string s] w fun e w' => e = .returned (tA (guessP s.data.toList)) ∧ Below w.heap.size w w' := by
  have hB0 : Below w.heap.size w (w.alloc (.cells #[.int .i64 0, .string ⟨#[]⟩, .string ⟨#[]⟩, .string ⟨#[]⟩] 24)) := (Below.refl _ w).alloc (Nat.le_refl _) _
  have hblk := zT.new w
  have hg0 : (w.alloc (.cells #[.int .i64 0, .string ⟨#[]⟩, .string ⟨#[]⟩, .string ⟨#[]⟩] 24)).heap.size = w.heap.size + 1 := by simp
  have hz := size_toList s
  have hqn : qtL s.data.toList = 0 ∨ (1 < qtL s.data.toList ∧ qtL s.data.toList ≤ s.size) := by
    rcases qtF_le (s.data.toList.drop 1) 1 with h | ⟨h1, h2⟩
    · exact .inl h
    · refine .inr ⟨h1, ?_⟩
      have h3 : (s.data.toList.drop 1).length = s.size - 1 := by rw [List.length_drop, hz]
      have h4 : 1 ≤ (s.data.toList.drop 1).length := by unfold qtL at *; omega
      show qtF (s.data.toList.drop 1) 1 ≤ s.size
      omega
  have hq := fun W => termQuoted s W hs
  have hp1 := fun W => Tryz.strings_HasPrefix s ⟨#[60]⟩ W
  have hp2 := fun W => Tryz.strings_HasPrefix s ⟨#[95, 58]⟩ W
  have hp3 := fun W => Tryz.strings_HasPrefix s ⟨#[34]⟩ W
  unfold Lib.hasPrefix at hp1 hp2 hp3
  obtain ⟨res, hres⟩ : ∃ r, guessP s.data.toList = r := ⟨_, rfl⟩
  rw [hres]
  have HG : Hid (res = guessP s.data.toList) := by show _ = _; rw [hres]
  clear hres
  unfold guessP at HG
  have ht1 := fun W => Tryz.strings_TrimSuffix (s.extract 1 s.size) ⟨#[62]⟩ W (by rw [ByteArray.size_extract]; omega)
  rw [drop_ext] at ht1
  simp only [trim_lib] at ht1
  have hn1 : (trimL (s.data.toList.drop 1)).length ≤ 1000000 := by
    have : (s.data.toList.drop 1).length ≤ 1000000 := by rw [List.length_drop, hz]; omega
    unfold trimL; split <;> (try simp only [List.length_take]) <;> omega
  have hr1 := fun W hb => termRaw (mkS (trimL (s.data.toList.drop 1))) W (hE.step hb) (by rw [mkS_size]; exact hn1)
  obtain ⟨t1, hT1⟩ : ∃ t, trimL (s.data.toList.drop 1) = t := ⟨_, rfl⟩
  rw [hT1] at ht1 hr1 HG
  clear hT1 hn1
  have hx1 : [60].isPrefixOf s.data.toList = true → 1 ≤ s.size := fun h => by
    rw [List.isPrefixOf_iff_prefix] at h; have := h.length_le; simp at this; omega
  have hx2 : [95, 58].isPrefixOf s.data.toList = true → 2 ≤ s.size := fun h => by
    rw [List.isPrefixOf_iff_prefix] at h; have := h.length_le; simp at this; omega
  have hd2 := drop_ext s 2
  have Hd2 := Lib.hid hd2
  have HE := Lib.hid hE
  have HQ := Lib.hid hqn
  have HX1 := Lib.hid hx1
  have HX2 := Lib.hid hx2
  have HB0 := Lib.hid hB0
  have Hbk := Lib.hid hblk
  clear hE hqn hx1 hx2 hB0 hblk hd2 hz
  go_enter Tryz.func47, Tryz.ntmps47
  go_upto_region 1 with fail
  generalize w.alloc (.cells #[.int .i64 0, .string ⟨#[]⟩, .string ⟨#[]⟩, .string ⟨#[]⟩] 24) = W0 at *
  have hw0 : w.heap.size ≤ W0.heap.size := by omega
  have HX := fun V (hb : Below W0.heap.size W0 V) => zT.d (zT.step Hbk.out hb)
  have hIr := fun x W => termIri x W
  have hBl := fun x W => termBlank x W
  have hLi := fun x W => termLiteral x W
  cases h1 : [60].isPrefixOf s.data.toList
  case true =>
    rw [h1] at hp1
    rw [h1, if_pos rfl] at HG
    have hle := HX1.out h1
    clear hp2 hp3 h1 hBl hLi
    go_wp2_with (first
          | (go_at_call 70; with_reducible refine (hq _).mono ?_; rintro e w1 ⟨rfl, rfl⟩)
          | (go_at_call 71; with_reducible refine (hp1 _).mono ?_; rintro e w1 ⟨rfl, rfl⟩)
          | (go_at_call 73; with_reducible refine (ht1 _).mono ?_; rintro e w1 ⟨rfl, rfl⟩)
          | (go_at_call 72; with_reducible refine (hr1 _ HB0.out).mono ?_; rintro e w3 ⟨rfl, k3⟩)
          | (go_at_call 27; with_reducible refine (hIr _ _).mono ?_; rintro e w4 ⟨rfl, k4⟩; have k5 := below_tr k3 k4; obtain ⟨d0, d1, d2, d3, f0⟩ := HX _ k5; have KF := Lib.hid (HB0.out.trans (k5.mono hw0))))
    refine bodyPost_ret (v := tA res) (by rw [HG.out]; simp [results, Tryz.results47, go_sem, d0, d1, d2, d3]) rfl ⟨rfl, ?_⟩
    exact KF.out.trans (below_set4 (Nat.le_refl _) _ _ _ _)
  rw [h1] at hp1
  rw [h1, if_neg (by decide)] at HG
  clear ht1 hr1 h1 hIr
  cases h2 : [95, 58].isPrefixOf s.data.toList
  case true =>
    rw [h2] at hp2
    rw [h2, if_pos rfl] at HG
    have hle := HX2.out h2
    have hx2 : s.extract 2 s.size = mkS (s.data.toList.drop 2) := ba_ext Hd2.out
    clear hp3 h2 hLi
    go_wp2_with (first
          | (go_at_call 70; with_reducible refine (hq _).mono ?_; rintro e w1 ⟨rfl, rfl⟩)
          | (go_at_call 71; (first | with_reducible refine (hp2 _).mono ?_ | with_reducible refine (hp1 _).mono ?_); rintro e w1 ⟨rfl, rfl⟩)
          | (go_at_call 28; with_reducible refine (hBl _ _).mono ?_; rintro e w4 ⟨rfl, k4⟩; have k5 := k4; obtain ⟨d0, d1, d2, d3, f0⟩ := HX _ k5; have KF := Lib.hid (HB0.out.trans (k5.mono hw0))))
    refine bodyPost_ret (v := tA res) (by rw [HG.out]; simp [results, Tryz.results47, go_sem, d0, d1, d2, d3]) rfl ⟨rfl, ?_⟩
    exact KF.out.trans (below_set4 (Nat.le_refl _) _ _ _ _)
  rw [h2] at hp2
  rw [h2, if_neg (by decide)] at HG
  clear Hd2 h2 hBl
  cases h3 : [34].isPrefixOf s.data.toList
  case false =>
    rw [h3] at hp3
    rw [h3, if_pos (by rfl)] at HG
    clear h3 hLi
    obtain ⟨d0, d1, d2, d3, f0⟩ := HX W0 (Below.refl _ _)
    clear HX
    go_wp2_with (first
          | (go_at_call 70; with_reducible refine (hq _).mono ?_; rintro e w1 ⟨rfl, rfl⟩)
          | (go_at_call 71; (first | with_reducible refine (hp3 _).mono ?_ | with_reducible refine (hp2 _).mono ?_ | with_reducible refine (hp1 _).mono ?_); rintro e w1 ⟨rfl, rfl⟩))
    refine bodyPost_ret (v := tA res) (by rw [HG.out]; simp [results, Tryz.results47, go_sem, d0, d1, d2, d3]) rfl ⟨rfl, ?_⟩
    exact HB0.out.trans (below_set4 (Nat.le_refl _) _ _ _ _)
  rw [h3] at hp3
  rw [h3] at HG
  clear h3
  obtain ⟨n, hn⟩ : ∃ n, qtL s.data.toList = n := ⟨_, rfl⟩
  rw [hn] at HG hq HQ
  clear hn
  by_cases hn0 : n = 0
  · subst hn0
    rw [if_pos (by rfl)] at HG
    obtain ⟨d0, d1, d2, d3, f0⟩ := HX W0 (Below.refl _ _)
    clear HX hLi
    go_wp2_with (first
          | (go_at_call 70; with_reducible refine (hq _).mono ?_; rintro e w1 ⟨rfl, rfl⟩)
          | (go_at_call 71; (first | with_reducible refine (hp3 _).mono ?_ | with_reducible refine (hp2 _).mono ?_ | with_reducible refine (hp1 _).mono ?_); rintro e w1 ⟨rfl, rfl⟩))
    refine bodyPost_ret (v := tA res) (by rw [HG.out]; simp [results, Tryz.results47, go_sem, d0, d1, d2, d3]) rfl ⟨rfl, ?_⟩
    exact HB0.out.trans (below_set4 (Nat.le_refl _) _ _ _ _)
  obtain ⟨hn1, hn2⟩ := HQ.out.resolve_left hn0
  rw [if_neg (by simpa using hn0)] at HG
  have hnz : ((n : Int) == 0) = false := by simp; omega
  have hsz : (s.size : Int) ≤ 1000000 := by omega
  have hwn : wrap64 ((n : Int) - 1) = (n : Int) - 1 := IntWalk.wrap64_in _ ⟨by omega, by omega⟩
  have hr2 := fun W hb => termRaw (s.extract 1 (n - 1)) W (HE.out.step hb) (by rw [ByteArray.size_extract]; omega)
  have hm : (s.extract 1 (n - 1)).data.toList = (s.data.toList.drop 1).take (n - 2) := by rw [extract_toList]; rfl
  rw [hm] at hr2
  clear hm
  generalize rdG puP ((s.data.toList.drop 1).take (n - 2)) = lit at *
  have hc1 := fun W => cutP s ⟨#[64]⟩ [64] rfl n 1 rfl W
  have hc2 := fun W => cutP s ⟨#[94, 94, 60]⟩ [94, 94, 60] rfl n 3 rfl W
  have hrz : (s.data.toList.drop n).length ≤ 1000000 := by rw [List.length_drop, size_toList]; omega
  generalize s.data.toList.drop n = rest at *
  have HRZ := Lib.hid hrz
  clear hrz
  cases h4 : [64].isPrefixOf rest
  case true =>
    rw [h4, if_pos rfl] at hc1 HG
    generalize rest.drop 1 = lg at *
    clear hc2 h4 hLi HQ
    go_wp2_with (first
          | (go_at_call 70; with_reducible refine (hq _).mono ?_; rintro e w1 ⟨rfl, rfl⟩)
          | (go_at_call 71; (first | with_reducible refine (hp3 _).mono ?_ | with_reducible refine (hp2 _).mono ?_ | with_reducible refine (hp1 _).mono ?_); rintro e w1 ⟨rfl, rfl⟩)
          | (go_at_call 72; with_reducible refine (hr2 _ HB0.out).mono ?_; rintro e w3 ⟨rfl, k3⟩; have k5 := k3; obtain ⟨d0, d1, d2, d3, f0⟩ := HX _ k5; have KF := Lib.hid (HB0.out.trans (k5.mono hw0)))
          | (go_at_call 74; (with_reducible refine (hc1 _).mono ?_); rintro e w6 ⟨rfl, rfl⟩))
    refine bodyPost_ret (v := tA res) (by rw [HG.out]; simp [results, Tryz.results47, go_sem, d0, d1, d2, d3]) rfl ⟨rfl, ?_⟩
    exact KF.out.trans (below_set4 (Nat.le_refl _) _ _ _ _)
  rw [h4, if_neg (by decide)] at hc1 HG
  clear h4
  cases h5 : [94, 94, 60].isPrefixOf rest
  case true =>
    rw [h5, if_pos rfl] at hc2 HG
    have ht2 := fun W => Tryz.strings_TrimSuffix (mkS (rest.drop 3)) ⟨#[62]⟩ W (by rw [mkS_size, List.length_drop]; have := HRZ.out; omega)
    simp only [trim_lib] at ht2
    clear hLi HQ h5
    have hr3 := fun W hb => termRaw (mkS (trimL (rest.drop 3))) W (HE.out.step hb) (by rw [mkS_size]; have := HRZ.out; unfold trimL; split <;> simp only [List.length_take, List.length_drop] <;> omega)
    generalize trimL (rest.drop 3) = t3 at *
    generalize rest.drop 3 = r3 at *
    go_wp2_with (first
          | (go_at_call 70; with_reducible refine (hq _).mono ?_; rintro e w1 ⟨rfl, rfl⟩)
          | (go_at_call 71; (first | with_reducible refine (hp3 _).mono ?_ | with_reducible refine (hp2 _).mono ?_ | with_reducible refine (hp1 _).mono ?_); rintro e w1 ⟨rfl, rfl⟩)
          | (go_at_call 72; with_reducible refine (hr2 _ HB0.out).mono ?_; rintro e w3 ⟨rfl, k3⟩)
          | (go_at_call 74; (first | with_reducible refine (hc2 _).mono ?_ | with_reducible refine (hc1 _).mono ?_); rintro e w6 ⟨rfl, rfl⟩)
          | (go_at_call 73; with_reducible refine (ht2 _).mono ?_; rintro e w1 ⟨rfl, rfl⟩)
          | (go_at_call 72; with_reducible refine (hr3 _ (below_tr HB0.out k3)).mono ?_; rintro e w4 ⟨rfl, k4⟩; have k5 := below_tr k3 k4; obtain ⟨d0, d1, d2, d3, f0⟩ := HX _ k5; have KF := Lib.hid (HB0.out.trans (k5.mono hw0))))
    refine bodyPost_ret (v := tA res) (by rw [HG.out]; simp [results, Tryz.results47, go_sem, d0, d1, d2, d3]) rfl ⟨rfl, ?_⟩
    exact KF.out.trans (below_set4 (Nat.le_refl _) _ _ _ _)
  rw [h5, if_neg (by decide)] at hc2 HG
  clear HQ h5
  go_wp2_with (first
        | (go_at_call 70; with_reducible refine (hq _).mono ?_; rintro e w1 ⟨rfl, rfl⟩)
        | (go_at_call 71; (first | with_reducible refine (hp3 _).mono ?_ | with_reducible refine (hp2 _).mono ?_ | with_reducible refine (hp1 _).mono ?_); rintro e w1 ⟨rfl, rfl⟩)
        | (go_at_call 72; with_reducible refine (hr2 _ HB0.out).mono ?_; rintro e w3 ⟨rfl, k3⟩)
        | (go_at_call 74; (first | with_reducible refine (hc2 _).mono ?_ | with_reducible refine (hc1 _).mono ?_); rintro e w6 ⟨rfl, rfl⟩)
        | (go_at_call 29; with_reducible refine (hLi _ _).mono ?_; rintro e w4 ⟨rfl, k4⟩; have k5 := below_tr k3 k4; obtain ⟨d0, d1, d2, d3, f0⟩ := HX _ k5; have KF := Lib.hid (HB0.out.trans (k5.mono hw0))))
  refine bodyPost_ret (v := tA res) (by rw [HG.out]; simp [results, Tryz.results47, go_sem, d0, d1, d2, d3]) rfl ⟨rfl, ?_⟩
  exact KF.out.trans (below_set4 (Nat.le_refl _) _ _ _ _)
def parseP (l : List UInt8) : Tm × Int := if 4096 < l.length then (⟨0, ⟨#[]⟩, ⟨#[]⟩, ⟨#[]⟩⟩, 3) else if okP l (guessP l) then (guessP l, 0) else (⟨0, ⟨#[]⟩, ⟨#[]⟩, ⟨#[]⟩⟩, 10)
theorem rdF_len (p : List UInt8 → Option Nat) : ∀ (f : Nat) (l : List UInt8), (rdF p f l).length ≤ l.length
  | 0, l => by simp [rdF]
  | f + 1, [] => Nat.le_refl _
  | f + 1, [c] => Nat.le_refl _
  | f + 1, c :: d :: r => by
    have h1 := rdF_len p f (d :: r)
    have h2 := rdF_len p f r
    have h3 := rdF_len p f (r.drop 4)
    rw [List.length_drop] at h3
    rw [rdF]
    split
    · simp only [List.length_cons] at *; omega
    split
    · simp only [List.length_cons] at *; omega
    · simp only [List.length_cons] at *; omega
theorem rdG_len (p : List UInt8 → Option Nat) (l : List UInt8) : (rdG p l).length ≤ l.length := rdF_len p _ l
theorem trimL_len (l : List UInt8) : (trimL l).length ≤ l.length := by unfold trimL; split <;> (try simp only [List.length_take]) <;> omega
theorem guess_small (l : List UInt8) (h : l.length ≤ 1000000) : smallT (guessP l) := by
  have z : (⟨#[]⟩ : ByteArray).size = 0 := rfl
  have h1 : (rdG puP (trimL (l.drop 1))).length ≤ 1000000 := Nat.le_trans (rdG_len _ _) (Nat.le_trans (trimL_len _) (by rw [List.length_drop]; omega))
  have h2 : (rdG puP ((l.drop 1).take (qtL l - 2))).length ≤ 1000000 := Nat.le_trans (rdG_len _ _) (by rw [List.length_take, List.length_drop]; omega)
  have h3 : (rdG puP (trimL ((l.drop (qtL l)).drop 3))).length ≤ 1000000 := Nat.le_trans (rdG_len _ _) (Nat.le_trans (trimL_len _) (by rw [List.length_drop, List.length_drop]; omega))
  have h4 : ((l.drop (qtL l)).drop 1).length ≤ 1000000 := by rw [List.length_drop, List.length_drop]; omega
  have h5 : (l.drop 2).length ≤ 1000000 := by rw [List.length_drop]; omega
  unfold guessP smallT
  repeat' split
  all_goals (simp only [mkS_size, z]; omega)
set_option maxHeartbeats 4000000 in
set_option maxRecDepth 100000 in
theorem termParse (s : ByteArray) (w : World) (hC : CtxT w) (hE : ErrB w) (hs : s.size ≤ 1000000) :
    Calls Tryz.prog 31 #[.string s] w fun e w' => e = .returned (.tuple #[tA (parseP s.data.toList).1, .int .i64 (parseP s.data.toList).2]) ∧ Below w.heap.size w w' := by
  have hB0 : Below w.heap.size w (w.alloc (.cells #[.int .i64 0, .string ⟨#[]⟩, .string ⟨#[]⟩, .string ⟨#[]⟩] 24)) := (Below.refl _ w).alloc (Nat.le_refl _) _
  have hblk := zT.new w
  have hg0 : (w.alloc (.cells #[.int .i64 0, .string ⟨#[]⟩, .string ⟨#[]⟩, .string ⟨#[]⟩] 24)).heap.size = w.heap.size + 1 := by simp
  have hsm := guess_small s.data.toList (by rw [size_toList]; exact hs)
  obtain ⟨t, ht⟩ : ∃ t, guessP s.data.toList = t := ⟨_, rfl⟩
  obtain ⟨res, hres⟩ : ∃ r, parseP s.data.toList = r := ⟨_, rfl⟩
  rw [hres]
  have HR : Hid (res = parseP s.data.toList) := by show _ = _; rw [hres]
  unfold parseP at HR
  rw [size_toList, ht] at HR
  have hG := fun W (hb : Below w.heap.size w W) => termGuess s W (hE.step hb) hs
  rw [ht] at hG hsm
  have hRt := fun W (hb : Below w.heap.size w W) => termRight' t W (hC.step hb) hsm
  have hTx := fun W (hb : Below w.heap.size w W) h => termText' t W (hC.step hb) h hsm
  have HB0 := Lib.hid hB0
  have Hbk := Lib.hid hblk
  clear ht hres hB0 hblk hE hC
  by_cases hl : 4096 < s.size
  · rw [if_pos hl] at HR
    clear hRt hTx hG
    obtain ⟨d0, d1, d2, d3, f0⟩ := zT.d Hbk.out
    go_enter Tryz.func31, Tryz.ntmps31
    go_wp2
    refine bodyPost_ret (v := .tuple #[tA res.1, .int .i64 res.2]) (by rw [HR.out]; simp [results, Tryz.results31, go_sem, d0, d1, d2, d3]) rfl ⟨rfl, ?_⟩
    first | exact HB0.out | exact HB0.out.trans (below_set4 (Nat.le_refl _) _ _ _ _)
  rw [if_neg hl] at HR
  go_enter Tryz.func31, Tryz.ntmps31
  go_upto_region 1 with fail
  generalize w.alloc (.cells #[.int .i64 0, .string ⟨#[]⟩, .string ⟨#[]⟩, .string ⟨#[]⟩] 24) = W0 at *
  have hw0 : w.heap.size ≤ W0.heap.size := by omega
  go_upto_region 4 with (go_at_call 47; with_reducible refine (hG _ HB0.out).mono ?_; rintro e w3 ⟨rfl, k3⟩)
  have F3 : Below w.heap.size w w3 := HB0.out.trans (k3.mono hw0)
  have hz3 := Hbk.out.step k3
  have ha : Below w3.heap.size w3 (w3.alloc (.cells #[.int .i64 t.k, .string t.x, .string t.l, .string t.y] 24)) := (Below.refl _ _).alloc (Nat.le_refl _) _
  have hga := heap_alloc_new w3 (.cells #[.int .i64 t.k, .string t.x, .string t.l, .string t.y] 24)
  have hz4 := hz3.step ha
  have F4 : Below w.heap.size w (w3.alloc (.cells #[.int .i64 t.k, .string t.x, .string t.l, .string t.y] 24)) := F3.trans (ha.mono F3.size)
  have hne : w.heap.size ≠ w3.heap.size := by have := k3.size; omega
  have hw3 : w.heap.size < w3.heap.size := by have := k3.size; omega
  generalize w3.alloc (.cells #[.int .i64 t.k, .string t.x, .string t.l, .string t.y] 24) = W4 at *
  have g0 := cells_at hga 0 rfl
  have g1 := cells_at hga 1 rfl
  have g2 := cells_at hga 2 rfl
  have g3 := cells_at hga 3 rfl
  have HR4 := hRt W4 F4
  have HF4 := Lib.hid F4
  have HX := Lib.hid (fun V (hb : Below W4.heap.size W4 V) => zT.d (hz4.step hb))
  clear hRt hG hga hz3 F3 F4 ha hz4 k3
  cases hr : rightB t
  · rw [hr] at HR4
    have HR2 : Hid (res = (⟨0, ⟨#[]⟩, ⟨#[]⟩, ⟨#[]⟩⟩, 10)) := by
      show _ = _
      rw [HR.out, if_neg]
      unfold okP; rw [hr]; simp
    clear HR hTx hr
    go_wp2_with (go_at_call 12; with_reducible refine HR4.mono ?_; rintro e w5 ⟨rfl, k5⟩; obtain ⟨d0, d1, d2, d3, f0⟩ := HX.out _ k5)
    refine bodyPost_ret (v := .tuple #[tA res.1, .int .i64 res.2]) (by rw [HR2.out]; simp [results, Tryz.results31, go_sem, d0, d1, d2, d3]) rfl ⟨rfl, ?_⟩
    exact (HF4.out.trans (k5.mono HF4.out.size)).trans (below_set4 (Nat.le_refl _) _ _ _ _)
  · rw [hr] at HR4
    have HT := fun W hb => hTx W hb hr
    clear hTx
    cases hq : (textL t == s.data.toList)
    · have HR2 : Hid (res = (⟨0, ⟨#[]⟩, ⟨#[]⟩, ⟨#[]⟩⟩, 10)) := by
        show _ = _
        rw [HR.out, if_neg]
        unfold okP; rw [hr, hq]; simp
      have hq1 : ((mkS (textL t)).toList == s.toList) = false := by rw [mkS_list, ByteArray.toList_eq]; exact hq
      clear HR hr hq
      generalize mkS (textL t) = tx at *
      go_wp2_with (first
        | (go_at_call 12; with_reducible refine HR4.mono ?_; rintro e w5 ⟨rfl, k5⟩; replace g0 := cell_on g0 k5; replace g1 := cell_on g1 k5; replace g2 := cell_on g2 k5; replace g3 := cell_on g3 k5; have k6 := HF4.out.trans (k5.mono HF4.out.size))
        | (go_at_call 33; with_reducible refine (HT _ k6).mono ?_; rintro e w6 ⟨rfl, k7⟩; obtain ⟨d0, d1, d2, d3, f0⟩ := HX.out _ (below_tr k5 k7)))
      refine bodyPost_ret (v := .tuple #[tA res.1, .int .i64 res.2]) (by rw [HR2.out]; simp [results, Tryz.results31, go_sem, d0, d1, d2, d3]) rfl ⟨rfl, ?_⟩
      exact (below_tr k6 k7).trans (below_set4 (Nat.le_refl _) _ _ _ _)
    · have HR2 : Hid (res = (t, 0)) := by
        show _ = _
        rw [HR.out, if_pos]
        unfold okP; rw [hr, hq]; rfl
      have hq1 : ((mkS (textL t)).toList == s.toList) = true := by rw [mkS_list, ByteArray.toList_eq]; exact hq
      clear HR hr hq
      generalize mkS (textL t) = tx at *
      go_wp2_with (first
        | (go_at_call 12; with_reducible refine HR4.mono ?_; rintro e w5 ⟨rfl, k5⟩; replace g0 := cell_on g0 k5; replace g1 := cell_on g1 k5; replace g2 := cell_on g2 k5; replace g3 := cell_on g3 k5; have k6 := HF4.out.trans (k5.mono HF4.out.size))
        | (go_at_call 33; with_reducible refine (HT _ k6).mono ?_; rintro e w6 ⟨rfl, k7⟩; obtain ⟨d0, d1, d2, d3, f0⟩ := HX.out _ (below_tr k5 k7); replace g0 := cell_on g0 k7; replace g1 := cell_on g1 k7; replace g2 := cell_on g2 k7; replace g3 := cell_on g3 k7))
      refine bodyPost_ret (v := .tuple #[tA res.1, .int .i64 res.2]) (by rw [HR2.out]; simp [results, Tryz.results31, go_sem, d0, d1, d2, d3]) rfl ⟨rfl, ?_⟩
      exact (below_tr k6 k7).trans (below_set4 (Nat.le_refl _) _ _ _ _)
end Go.Proofs.YtheeklkcaapkbaaGreatDoor
