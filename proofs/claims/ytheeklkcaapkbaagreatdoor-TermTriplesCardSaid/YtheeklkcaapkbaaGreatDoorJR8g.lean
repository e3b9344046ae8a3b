/- Literals with a tag, with a type: the answer's, the program's. -/
import Derived.Test.YtheeklkcaapkbaaGreatDoorJR8f
import Derived.Test.YtheeklkcaapkbaaGreatDoorJTxGuess
namespace Go.Proofs.YtheeklkcaapkbaaGreatDoor
open Go Go.RowKit Um Fm Lx Tx

def typedT (s y : ByteArray) : Tm := if (y.toList == xsdL) = true then ⟨3, s, ⟨#[]⟩, ⟨#[]⟩⟩ else ⟨4, s, ⟨#[]⟩, y⟩
theorem typed_yes {s y : ByteArray} (h : (y.toList == xsdL) = true) : typedT s y = ⟨3, s, ⟨#[]⟩, ⟨#[]⟩⟩ := by unfold typedT; rw [if_pos h]
theorem typed_no {s y : ByteArray} (h : (y.toList == xsdL) = false) : typedT s y = ⟨4, s, ⟨#[]⟩, y⟩ := by unfold typedT; rw [if_neg (by rw [h]; decide)]
theorem termTyped (s y : ByteArray) (w : World) : Calls Tryz.prog 25 #[.string s, .string y] w fun e w' => e = .returned (tA (typedT s y)) ∧ Below w.heap.size w w' := by
  have hblk := zT.new w
  have hB0 : Below w.heap.size w (w.alloc (.cells #[.int .i64 0, .string ⟨#[]⟩, .string ⟨#[]⟩, .string ⟨#[]⟩] 24)) := (Below.refl _ w).alloc (Nat.le_refl _) _
  have hLi := fun W => termLiteral s W
  cases hq : (y.toList == xsdL)
  · rw [typed_no hq]
    unfold xsdL at hq
    obtain ⟨d0, d1, d2, d3, f0⟩ := zT.d hblk
    go_enter Tryz.func25, Tryz.ntmps25
    go_wp2
    refine bodyPost_ret (v := tA ⟨4, s, ⟨#[]⟩, y⟩) (by simp [results, Tryz.results25, go_sem]) rfl ⟨rfl, ?_⟩
    exact (by repeat (first | exact Below.refl _ _ | assumption | exact (Below.refl _ _).alloc (Nat.le_refl _) _ | refine below_tr ?_ (by assumption) | refine below_alloc ?_ | refine below_tr ?_ (below_regrown _ _ _)))
  · rw [typed_yes hq]
    unfold xsdL at hq
    have HX := fun V (hb : Below (w.alloc (.cells #[.int .i64 0, .string ⟨#[]⟩, .string ⟨#[]⟩, .string ⟨#[]⟩] 24)).heap.size (w.alloc (.cells #[.int .i64 0, .string ⟨#[]⟩, .string ⟨#[]⟩, .string ⟨#[]⟩] 24)) V) => zT.d (hblk.step hb)
    go_enter Tryz.func25, Tryz.ntmps25
    go_wp2_with (go_at_call 29; with_reducible refine (hLi _).mono ?_; rintro e w1 ⟨rfl, k1⟩; obtain ⟨d0, d1, d2, d3, f0⟩ := HX _ k1; have k2 := below_tr hB0 k1)
    refine bodyPost_ret (v := tA ⟨3, s, ⟨#[]⟩, ⟨#[]⟩⟩) (by simp [results, Tryz.results25, go_sem, d0, d1, d2, d3]) rfl ⟨rfl, ?_⟩
    exact k2.trans (below_set4 (Nat.le_refl _) _ _ _ _)
theorem r08Typed (s y : ByteArray) (w : World) : Calls Tryz.prog 26 #[.string s, .string y] w fun e w' => e = .returned (tA (typedT s y)) ∧ Below w.heap.size w w' := by
  have hblk := zT.new w
  have hB0 : Below w.heap.size w (w.alloc (.cells #[.int .i64 0, .string ⟨#[]⟩, .string ⟨#[]⟩, .string ⟨#[]⟩] 24)) := (Below.refl _ w).alloc (Nat.le_refl _) _
  obtain ⟨d0, d1, d2, d3, f0⟩ := zT.d hblk
  cases hq : (y.toList == xsdL)
  · rw [typed_no hq]
    unfold xsdL at hq
    go_enter Tryz.func26, Tryz.ntmps26
    go_wp2
    refine bodyPost_ret (v := tA ⟨4, s, ⟨#[]⟩, y⟩) (by simp [results, Tryz.results26, go_sem]) rfl ⟨rfl, ?_⟩
    exact (by repeat (first | exact Below.refl _ _ | assumption | exact (Below.refl _ _).alloc (Nat.le_refl _) _ | refine below_tr ?_ (by assumption) | refine below_alloc ?_ | refine below_tr ?_ (below_regrown _ _ _)))
  · rw [typed_yes hq]
    unfold xsdL at hq
    go_enter Tryz.func26, Tryz.ntmps26
    go_wp2
    refine bodyPost_ret (v := tA ⟨3, s, ⟨#[]⟩, ⟨#[]⟩⟩) (by simp [results, Tryz.results26, go_sem]) rfl ⟨rfl, ?_⟩
    exact (by repeat (first | exact Below.refl _ _ | assumption | exact (Below.refl _ _).alloc (Nat.le_refl _) _ | refine below_tr ?_ (by assumption) | refine below_alloc ?_ | refine below_tr ?_ (below_regrown _ _ _)))
set_option maxHeartbeats 1000000 in
set_option maxRecDepth 10000 in
theorem r08Tagged (x s : ByteArray) (w : World) (hs : s.size ≤ 1000000) :
    Calls Tryz.prog 24 #[.string x, .string s] w fun e w' => e = .returned (tmA 3 x (lowS s) ⟨#[]⟩) ∧ Below w.heap.size w w' := by
  have hB0 : Below w.heap.size w (w.alloc (.cells #[.int .i64 0, .string ⟨#[]⟩, .string ⟨#[]⟩, .string ⟨#[]⟩] 24)) := (Below.refl _ w).alloc (Nat.le_refl _) _
  have hblk := heap_alloc_new w (.cells #[.int .i64 0, .string ⟨#[]⟩, .string ⟨#[]⟩, .string ⟨#[]⟩] 24)
  have hcv := Lib.run_convert_string_bytes (P := Tryz.prog) (w.alloc (.cells #[.int .i64 0, .string ⟨#[]⟩, .string ⟨#[]⟩, .string ⟨#[]⟩] 24)) 9 47 5 s (u := .string) Tryz.underlying9 Tryz.underlying47 Tryz.underlying5
  have hBy := By.conv (w.alloc (.cells #[.int .i64 0, .string ⟨#[]⟩, .string ⟨#[]⟩, .string ⟨#[]⟩] 24)) s
  obtain ⟨W1, hW1⟩ : ∃ W1, W1 = Lib.bytesWorld (w.alloc (.cells #[.int .i64 0, .string ⟨#[]⟩, .string ⟨#[]⟩, .string ⟨#[]⟩] 24)) 5 s := ⟨_, rfl⟩
  obtain ⟨c1, hc1⟩ : ∃ c1, c1 = grownCap (w.alloc (.cells #[.int .i64 0, .string ⟨#[]⟩, .string ⟨#[]⟩, .string ⟨#[]⟩] 24)) s.size 0 5 := ⟨_, rfl⟩
  rw [← hW1] at hcv hBy
  rw [← hc1] at hcv
  clear hW1 hc1
  obtain ⟨W0, hW0⟩ : ∃ W0, W0 = w.alloc (.cells #[.int .i64 0, .string ⟨#[]⟩, .string ⟨#[]⟩, .string ⟨#[]⟩] 24) := ⟨_, rfl⟩
  rw [← hW0] at hBy hB0 hblk
  have hg : W0.heap.size = w.heap.size + 1 := by rw [hW0]; simp
  rw [hg] at hBy
  have HG := Lib.hid hg
  have HB0 := Lib.hid hB0
  have Hblk := Lib.hid hblk
  have HBy := Lib.hid hBy
  clear hW0 hg hB0 hblk hBy
  go_enter Tryz.func24, Tryz.ntmps24
  go_wp2
  go_loopw [6] (fun i wr => ∃ k : Nat, k ≤ s.size ∧ i = .int .i64 k ∧ By W0 (w.heap.size + 1) s.size (fun j => if j < k then lowI (bn s j) else (bn s j : Int)) wr) (fun i _ => s.size - (intOf i).toNat)
  case atStart => exact ⟨0, by omega, rfl, HBy.out.congr (fun j _ => by rw [if_neg (by omega)])⟩
  case round =>
    obtain ⟨k, hk, rfl, hI⟩ := hrel
    have HI := Lib.hid hI
    by_cases hlt : k < s.size
    · have hc := hI.cells k hlt
      have hf := hI.fz k hlt
      rw [if_neg (by omega)] at hc
      have hb := bn_lt s k
      have Hlow : Hid (lowI (bn s k : Int) = if 65 ≤ bn s k ∧ bn s k ≤ 90 then (bn s k : Int) + 32 else (bn s k : Int)) := by
        show _ = _
        unfold lowI
        split <;> split <;> omega
      have hstay : ¬ (65 ≤ bn s k ∧ bn s k ≤ 90) → By W0 (w.heap.size + 1) s.size (fun j => if j < k + 1 then lowI (bn s j) else (bn s j : Int)) wr := fun h => HI.out.congr (fun j hj => by
        by_cases e : j = k
        · subst e
          have := Hlow.out
          rw [if_neg h] at this
          rw [if_neg (by omega), if_pos (by omega), this]
        · by_cases e2 : j < k
          · rw [if_pos e2, if_pos (by omega)]
          · rw [if_neg e2, if_neg (by omega)])
      have Hstay := Lib.hid hstay
      clear hI hstay
      by_cases h1 : 65 ≤ bn s k
      · by_cases h2 : bn s k ≤ 90
        · obtain ⟨y, hy⟩ : ∃ y, bn s k = y := ⟨_, rfl⟩
          have hq : Hid (lowI (bn s k : Int) = (y : Int) - 65 + 97) := by show _ = _; rw [Hlow.out, if_pos ⟨h1, h2⟩, hy]; omega
          rw [hy] at hc h1 h2 hb
          clear Hlow Hstay
          go_wp2
          go_roundw
          case rel =>
            refine ⟨k + 1, by omega, by go_num, (HI.out.set k hlt ((y : Int) - 65 + 97)).congr (fun j hj => ?_)⟩
            by_cases e : j = k
            · subst e; rw [if_pos rfl, if_pos (by omega), hq.out]
            · rw [if_neg e]
              by_cases e2 : j < k
              · rw [if_pos e2, if_pos (by omega)]
              · rw [if_neg e2, if_neg (by omega)]
          case measure => simp [intOf]; omega
        · have HS := Lib.hid (Hstay.out (fun h => h2 h.2))
          clear Hlow Hstay
          go_wp2
          go_roundw
          case rel => exact ⟨k + 1, by omega, by go_num, HS.out⟩
          case measure => simp [intOf]; omega
      · have HS := Lib.hid (Hstay.out (fun h => h1 h.1))
        clear Hlow Hstay
        go_wp2
        go_roundw
        case rel => exact ⟨k + 1, by omega, by go_num, HS.out⟩
        case measure => simp [intOf]; omega
    · have hks : k = s.size := by omega
      subst hks
      have hrd : Rd wr (some ⟨w.heap.size + 1, 0, none⟩) ((s.data.toList.map fun b => lowI b.toNat).map (Value.int .u8)) := hI.rd (by rw [List.length_map, size_toList]) (fun j hj => by rw [if_pos hj, low_at s j hj])
      have hcs := run_conv_bytes (P := Tryz.prog) (w := wr) (n := s.size) (c := c1) 47 9 5 Tryz.underlying47 Tryz.underlying5 Tryz.underlying9 hrd (by rw [List.length_map, size_toList])
      rw [low_str] at hcs
      have hb3 : wr.heap[w.heap.size]? = some (.cells #[.int .i64 0, .string ⟨#[]⟩, .string ⟨#[]⟩, .string ⟨#[]⟩] 24 (0, 0)) := by
        rw [hI.below.block _ (by rw [HG.out]; omega)]; exact Hblk.out
      have d0 : wr.cell? ⟨w.heap.size, 0, none⟩ = some (.int .i64 0) := by rw [Lib.cell_of_heap hb3]; rfl
      have d1 : wr.cell? ⟨w.heap.size, 1, none⟩ = some (.string ⟨#[]⟩) := by rw [Lib.cell_of_heap hb3]; rfl
      have d2 : wr.cell? ⟨w.heap.size, 2, none⟩ = some (.string ⟨#[]⟩) := by rw [Lib.cell_of_heap hb3]; rfl
      have d3 : wr.cell? ⟨w.heap.size, 3, none⟩ = some (.string ⟨#[]⟩) := by rw [Lib.cell_of_heap hb3]; rfl
      have f0 : ∀ i, wr.frozen? ⟨w.heap.size, i, none⟩ = false := fun i => Lib.frozen_of_heap hb3 i
      have HX := Lib.hid (below_tr HB0.out hI.below)
      clear hI hrd hb3
      go_wp2
      refine bodyPost_ret (v := tmA 3 x (lowS s) ⟨#[]⟩) (by simp [results, Tryz.results24, go_sem, d0, d1, d2, d3]) rfl ⟨rfl, ?_⟩
      exact HX.out.trans (below_set4 (Nat.le_refl _) _ _ _ _)
end Go.Proofs.YtheeklkcaapkbaaGreatDoor
