/- The program's package term, walked: Tagged, Typed, how long a literal's text is. -/
import Derived.Test.YtheeklkcaapkbaaGreatDoorJTxMath
import Derived.Lib.ConvBytes
namespace Go.Proofs.YtheeklkcaapkbaaGreatDoor
open Go Go.RowKit Um Fm Tx

/-- n bytes of the call's own, in block g. -/
structure By (w0 : World) (g n : Nat) (f : Nat → Int) (w : World) : Prop where
  below : Below w0.heap.size w0 w
  ge : w0.heap.size ≤ g
  cells : ∀ j, j < n → w.cell? ⟨g, j, none⟩ = some (.int .u8 (f j))
  fz : ∀ j, j < n → w.frozen? ⟨g, j, none⟩ = false
theorem By.set {w0 w : World} {g n : Nat} {f : Nat → Int} (h : By w0 g n f w) (k : Nat) (hk : k < n) (x : Int) : By w0 g n (fun j => if j = k then x else f j) (w.setCell ⟨g, k, none⟩ (.int .u8 x)) where
  below := h.below.setCell (p := ⟨g, k, none⟩) h.ge _
  ge := h.ge
  cells := fun j hj => by
    by_cases e : j = k
    · subst e
      rw [World.cell?_setCell_same _ _ _ (h.cells j hj), if_pos rfl]
    · rw [World.cell?_setCell_other _ ⟨g, k, none⟩ ⟨g, j, none⟩ _ (by simp), if_neg e]
      exact h.cells j hj
  fz := fun j hj => by rw [World.frozen?_setCell]; exact h.fz j hj
theorem By.congr {w0 w : World} {g n : Nat} {f f' : Nat → Int} (h : By w0 g n f w) (e : ∀ j, j < n → f j = f' j) : By w0 g n f' w :=
  ⟨h.below, h.ge, fun j hj => by rw [← e j hj]; exact h.cells j hj, h.fz⟩
theorem By.rd {w0 w : World} {g n : Nat} {f : Nat → Int} (h : By w0 g n f w) {xs : List Int} (hn : xs.length = n) (e : ∀ j, j < n → f j = xs.getD j 0) : Rd w (some ⟨g, 0, none⟩) (xs.map (Value.int .u8)) := by
  refine .inr ⟨g, 0, rfl, fun j u hu => ?_⟩
  have hj : j < xs.length := by
    have := (List.getElem?_eq_some_iff.1 hu).1
    simpa using this
  rw [List.getElem?_map, List.getElem?_eq_getElem hj] at hu
  simp only [Option.map_some, Option.some.injEq] at hu
  subst hu
  have := h.cells j (by omega)
  rw [e j (by omega), List.getD_eq_getElem?_getD, List.getElem?_eq_getElem hj] at this
  simpa using this
theorem By.conv (w : World) (s : ByteArray) : By w w.heap.size s.size (fun j => (bn s j : Int)) (Lib.bytesWorld w 5 s) where
  below := Lib.bytesWorld_below w _ s
  ge := Nat.le_refl _
  cells := fun j hj => Lib.bytesWorld_cell w 5 s j hj
  fz := fun j hj => by
    simp only [World.frozen?, Lib.bytesWorld_at_new]
    have : s.size ≤ (Lib.bytesCells w 5 s).size := by
      unfold Lib.bytesCells
      rw [Array.size_append, Array.size_map]
      exact Nat.le_add_right _ _
    simp; omega
theorem By.later {w0 w w' : World} {g n : Nat} {f : Nat → Int} (h : By w0 g n f w) (hlt : g < w.heap.size) (hb : Below w.heap.size w w') : By w0 g n f w' where
  below := below_tr h.below hb
  ge := h.ge
  cells := fun j hj => by rw [hb.cell (p := ⟨g, j, none⟩) hlt]; exact h.cells j hj
  fz := fun j hj => by rw [hb.frozen (p := ⟨g, j, none⟩) hlt]; exact h.fz j hj

/-- A byte's small one. -/
def lowB (b : UInt8) : UInt8 := if upB b then UInt8.ofNat (b.toNat + 32) else b
def lowS (s : ByteArray) : ByteArray := mkS (s.data.toList.map lowB)
theorem lowB_low (b : UInt8) : ((lowB b).toNat : Int) = lowI b.toNat := by
  have h := b.toNat_lt
  unfold lowB lowI upB
  by_cases h1 : 65 ≤ b.toNat
  · by_cases h2 : b.toNat ≤ 90
    · rw [if_pos (by simp [h1, h2]), if_pos (by omega), UInt8.toNat_ofNat']
      omega
    · rw [if_neg (by simp; omega), if_neg (by omega)]
  · rw [if_neg (by simp; omega), if_neg (by omega)]
theorem low_str (s : ByteArray) : strOfNums (s.data.toList.map fun b => lowI b.toNat) = lowS s := by
  apply ba_ext
  rw [strOfNums_data]
  unfold lowS mkS
  simp only [List.map_map]
  apply List.map_congr_left
  intro b _
  simp only [Function.comp]
  rw [← lowB_low]
  simp
theorem low_at (s : ByteArray) (j : Nat) (h : j < s.size) : (s.data.toList.map fun b => lowI b.toNat).getD j 0 = lowI (bn s j) := by
  have hl : j < s.data.toList.length := by rw [size_toList]; exact h
  rw [List.getD_eq_getElem?_getD, List.getElem?_map, List.getElem?_eq_getElem hl, bn, List.getD_eq_getElem?_getD, List.getElem?_eq_getElem hl]
  rfl
theorem lowI_byte {x : Nat} (h : x < 256) : 0 ≤ lowI x ∧ lowI x < 256 := by unfold lowI; split <;> omega
/-- A term as the value that it is. -/
abbrev tmA (k : Int) (x l y : ByteArray) : Value := .agg #[.int .i64 k, .string x, .string l, .string y]
set_option maxHeartbeats 1000000 in
set_option maxRecDepth 10000 in
theorem termTagged (x s : ByteArray) (w : World) (hs : s.size ≤ 1000000) :
    Calls Tryz.prog 23 #[.string x, .string s] w fun e w' => e = .returned (tmA 3 x (lowS s) ⟨#[]⟩) ∧ Below w.heap.size w w' := by
  have hB0 : Below w.heap.size w (w.alloc (.cells #[.int .i64 0, .string ⟨#[]⟩, .string ⟨#[]⟩, .string ⟨#[]⟩] 24)) := (Below.refl _ w).alloc (Nat.le_refl _) _
  have hblk := heap_alloc_new w (.cells #[.int .i64 0, .string ⟨#[]⟩, .string ⟨#[]⟩, .string ⟨#[]⟩] 24)
  have hcv := Lib.run_convert_string_bytes (P := Tryz.prog) (w.alloc (.cells #[.int .i64 0, .string ⟨#[]⟩, .string ⟨#[]⟩, .string ⟨#[]⟩] 24)) 9 47 5 s (u := .string) Tryz.underlying9 Tryz.underlying47 Tryz.underlying5
  have hBy := By.conv (w.alloc (.cells #[.int .i64 0, .string ⟨#[]⟩, .string ⟨#[]⟩, .string ⟨#[]⟩] 24)) s
  obtain ⟨W1, hW1⟩ : ∃ W1, W1 = Lib.bytesWorld (w.alloc (.cells #[.int .i64 0, .string ⟨#[]⟩, .string ⟨#[]⟩, .string ⟨#[]⟩] 24)) 5 s := ⟨_, rfl⟩
  obtain ⟨c1, hc1⟩ : ∃ c1, c1 = grownCap (w.alloc (.cells #[.int .i64 0, .string ⟨#[]⟩, .string ⟨#[]⟩, .string ⟨#[]⟩] 24)) s.size 0 5 := ⟨_, rfl⟩
  rw [← hW1] at hcv hBy
  rw [← hc1] at hcv
  clear hW1 hc1
  obtain ⟨W0, hW0⟩ : ∃ W0, W0 = w.alloc (.cells #[.int .i64 0, .string ⟨#[]⟩, .string ⟨#[]⟩, .string ⟨#[]⟩] 24) := ⟨_, rfl⟩
  rw [← hW0] at hBy hB0 hblk
  have hg : W0.heap.size = w.heap.size + 1 := by rw [hW0]; simp
  rw [hg] at hBy
  have HG := Lib.hid hg
  have HB0 := Lib.hid hB0
  have Hblk := Lib.hid hblk
  have HBy := Lib.hid hBy
  clear hW0 hg hB0 hblk hBy
  go_enter Tryz.func23, Tryz.ntmps23
  go_wp2
  go_loopw [12] (fun i wr => ∃ k : Nat, k ≤ s.size ∧ i = .int .i64 k ∧ By W0 (w.heap.size + 1) s.size (fun j => if j < k then lowI (bn s j) else (bn s j : Int)) wr) (fun i _ => s.size - (intOf i).toNat)
  case atStart => exact ⟨0, by omega, rfl, HBy.out.congr (fun j _ => by rw [if_neg (by omega)])⟩
  case round =>
    obtain ⟨k, hk, rfl, hI⟩ := hrel
    have HI := Lib.hid hI
    by_cases hlt : k < s.size
    · have hc := hI.cells k hlt
      have hf := hI.fz k hlt
      rw [if_neg (by omega)] at hc
      have hb := bn_lt s k
      obtain ⟨b0, b1⟩ := lowI_byte hb
      have hL := fun W => termLower (bn s k : Int) W (by omega) (by omega)
      generalize hq : lowI (bn s k : Int) = q at *
      have Hq := Lib.hid hq
      clear hI hq
      go_wp2_with (refine (hL _).mono ?_; rintro e w2 ⟨rfl, rfl⟩)
      go_roundw
      case rel =>
        refine ⟨k + 1, by omega, by go_num, (HI.out.set k hlt q).congr (fun j hj => ?_)⟩
        by_cases e : j = k
        · subst e; rw [if_pos rfl, if_pos (by omega), Hq.out]
        · rw [if_neg e]
          by_cases e2 : j < k
          · rw [if_pos e2, if_pos (by omega)]
          · rw [if_neg e2, if_neg (by omega)]
      case measure => simp [intOf]; omega
    · have hks : k = s.size := by omega
      subst hks
      have hrd : Rd wr (some ⟨w.heap.size + 1, 0, none⟩) ((s.data.toList.map fun b => lowI b.toNat).map (Value.int .u8)) := hI.rd (by rw [List.length_map, size_toList]) (fun j hj => by rw [if_pos hj, low_at s j hj])
      have hcs := run_conv_bytes (P := Tryz.prog) (w := wr) (n := s.size) (c := c1) 47 9 5 Tryz.underlying47 Tryz.underlying5 Tryz.underlying9 hrd (by rw [List.length_map, size_toList])
      rw [low_str] at hcs
      have hb3 : wr.heap[w.heap.size]? = some (.cells #[.int .i64 0, .string ⟨#[]⟩, .string ⟨#[]⟩, .string ⟨#[]⟩] 24 (0, 0)) := by
        rw [hI.below.block _ (by rw [HG.out]; omega)]; exact Hblk.out
      have d0 : wr.cell? ⟨w.heap.size, 0, none⟩ = some (.int .i64 0) := by rw [Lib.cell_of_heap hb3]; rfl
      have d1 : wr.cell? ⟨w.heap.size, 1, none⟩ = some (.string ⟨#[]⟩) := by rw [Lib.cell_of_heap hb3]; rfl
      have d2 : wr.cell? ⟨w.heap.size, 2, none⟩ = some (.string ⟨#[]⟩) := by rw [Lib.cell_of_heap hb3]; rfl
      have d3 : wr.cell? ⟨w.heap.size, 3, none⟩ = some (.string ⟨#[]⟩) := by rw [Lib.cell_of_heap hb3]; rfl
      have f0 : ∀ i, wr.frozen? ⟨w.heap.size, i, none⟩ = false := fun i => Lib.frozen_of_heap hb3 i
      have HX := Lib.hid (below_tr HB0.out hI.below)
      clear hI hrd hb3
      go_wp2
      refine bodyPost_ret (v := tmA 3 x (lowS s) ⟨#[]⟩) (by simp [results, Tryz.results23, go_sem, d0, d1, d2, d3]) rfl ⟨rfl, ?_⟩
      exact HX.out.trans (below_set4 (Nat.le_refl _) _ _ _ _)
theorem qtF_at (l : List UInt8) (k : Nat) (h : k < l.length) : qtF (l.drop k) k = if (l.getD k 0).toNat = 34 then k + 1 else if (l.getD k 0).toNat = 92 then qtF (l.drop (k + 2)) (k + 2) else qtF (l.drop (k + 1)) (k + 1) := by
  have hd := List.drop_eq_getElem_cons h
  have hg : l.getD k 0 = l[k] := by rw [List.getD_eq_getElem?_getD, List.getElem?_eq_getElem h]; rfl
  rw [hg, hd]
  generalize l[k] = c
  by_cases h1 : c = 34
  · subst h1; rw [qtF_end]; rfl
  have h1' : ¬ c.toNat = 34 := fun e => h1 (UInt8.toNat_inj.1 e)
  rw [if_neg h1']
  by_cases h2 : c = 92
  · subst h2
    rw [if_pos (by decide)]
    rcases Nat.lt_or_ge (k + 1) l.length with hk | hk
    · rw [List.drop_eq_getElem_cons hk, qtF_esc]
    · rw [List.drop_eq_nil_of_le hk, List.drop_eq_nil_of_le (by omega)]; rfl
  · have h2' : ¬ c.toNat = 92 := fun e => h2 (UInt8.toNat_inj.1 e)
    rw [if_neg h2', qtF_plain c _ k h1 h2]
theorem termQuoted (s : ByteArray) (w : World) (hs : s.size ≤ 1000000) :
    Calls Tryz.prog 70 #[.string s] w fun e w' => e = .returned (.int .i64 (qtL s.data.toList)) ∧ w = w' := by
  go_enter Tryz.func70, Tryz.ntmps70
  go_wp2
  go_loop [3] (fun i => ∃ k : Nat, k ≤ s.size + 2 ∧ i = .int .i64 k ∧ Hid (qtL s.data.toList = qtF (s.data.toList.drop k) k)) (fun i => s.size + 2 - (intOf i).toNat)
  case atStart => exact ⟨1, by omega, rfl, rfl⟩
  case round =>
    obtain ⟨k, hk, rfl, H⟩ := hrel
    by_cases hlt : k < s.size
    · have hb := bn_lt s k
      have H2 : Hid (qtL s.data.toList = if bn s k = 34 then k + 1 else if bn s k = 92 then qtF (s.data.toList.drop (k + 2)) (k + 2) else qtF (s.data.toList.drop (k + 1)) (k + 1)) := by
        show _ = _
        rw [H.out]; exact qtF_at _ k (by rw [size_toList]; exact hlt)
      clear H
      by_cases h1 : bn s k = 34
      · go_wp2
        go_ret
        exact ⟨by rw [H2.out, if_pos h1]; rfl, rfl⟩
      · by_cases h2 : bn s k = 92
        · go_wp2
          go_round
          case rel => exact ⟨k + 2, by omega, by go_num, by show _ = _; rw [H2.out, if_neg h1, if_pos h2]⟩
          case measure => simp [intOf]; omega
        · go_wp2
          go_round
          case rel => exact ⟨k + 1, by omega, by go_num, by show _ = _; rw [H2.out, if_neg h1, if_neg h2]⟩
          case measure => simp [intOf]; omega
    · have H2 : Hid (qtL s.data.toList = 0) := by
        show _ = _
        rw [H.out, List.drop_eq_nil_of_le (by rw [size_toList]; omega)]; rfl
      clear H
      go_wp2
      go_ret
      exact ⟨by rw [H2.out]; rfl, rfl⟩
end Go.Proofs.YtheeklkcaapkbaaGreatDoor
