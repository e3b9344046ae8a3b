/- A builder that lies first in a struct of the call's own (strings.Builder, and what embeds it): what it holds, and what writing leaves alone. UTF-8 signs, in plain Lean: whether a number is a sign, which sign begins a list of bytes, ranges of letters. -/
import Derived.Test.YtpnlabjgmdhicaaGreatDoorJMem
import Derived.Lib.OthersKept
import Derived.Lib.FrozenHead2
import Derived.Shelf.Strings.BuilderRune
import Derived.Lib.RuneBytes
import Derived.Lib.DecodeN
namespace Go.Proofs.YtpnlabjgmdhicaaGreatDoor
open Go Go.RowKit

/-- Block b, of type T, holds a builder with the bytes bs, and ext behind it. -/
def WAt (T : TypeId) (ext : List Value) (B b : Nat) (p : Value) (bs : List Value) (w : World) : Prop :=
  B ≤ b ∧ ∃ v, w.heap[b]? = some (.cells (p :: v :: ext).toArray T (0, 0)) ∧ w.ownsRowF B 5 1 v bs.length bs ∧ v.ownBlock ≠ some b
def WIs (T : TypeId) (ext : List Value) (B b : Nat) (bs : List Value) (w : World) : Prop := WAt T ext B b (.pointer none) bs w ∨ WAt T ext B b (.pointer (some ⟨b, 0, none⟩)) bs w
abbrev OK8 (b : Nat) (w w' : World) : Prop := Lib.OthersKept 5 (some b) w w'

section
variable {T : TypeId} {ext : List Value} {B b : Nat} {p : Value} {bs : List Value} {w : World}
theorem WAt.cell0 (h : WAt T ext B b p bs w) : w.cell? ⟨b, 0, none⟩ = some p := by
  obtain ⟨_, v, hb, _⟩ := h
  simp [World.cell?, hb]
theorem WAt.shape (h : WAt T ext B b p bs w) : w.shape? b = some (T, ext.length + 2) := by
  obtain ⟨_, v, hb, _⟩ := h
  simp [World.shape?, hb]
theorem WAt.lt (h : WAt T ext B b p bs w) : b < w.heap.size := cell_lt h.cell0
theorem WAt.frozen (h : WAt T ext B b p bs w) (i : Nat) : w.frozen? ⟨b, i, none⟩ = false := by
  obtain ⟨_, v, hb, _⟩ := h
  simp [World.frozen?, hb]
theorem WAt.used (h : WAt T ext B b p bs w) (q : Value) : WAt T ext B b q bs (w.setCell ⟨b, 0, none⟩ q) := by
  obtain ⟨hB, v, hb, hown, hne⟩ := h
  refine ⟨hB, v, ?_, ?_, hne⟩
  · simp [World.setCell, Array.getElem?_modify, hb]
  · exact hown.kept (row := some b) ⟨rfl, rfl, rfl, by simp [World.setCell], fun k _ hk => Below.heap_setCell _ _ _ _ (fun e => hk (by simp [e]))⟩ (Or.inr hne)
theorem WAt.put {v v' : Value} {bs' : List Value} (hB : B ≤ b) (hb : w.heap[b]? = some (.cells (p :: v :: ext).toArray T (0, 0))) (hown : w.ownsRowF B 5 1 v' bs'.length bs') (hT : T ≠ 5) :
    WAt T ext B b p bs' (w.setCell ⟨b, 1, none⟩ v') := by
  have hne := Lib.ownBlock_neF hown hb hT
  refine ⟨hB, v', ?_, ?_, hne⟩
  · simp [World.setCell, Array.getElem?_modify, hb]
  · exact hown.kept (row := some b) ⟨rfl, rfl, rfl, by simp [World.setCell], fun k _ hk => Below.heap_setCell _ _ _ _ (fun e => hk (by simp [e]))⟩ (Or.inr hne)
theorem WAt.drew (h : WAt T ext B b p bs w) : WAt T ext B b p bs w.drew := h
theorem WAt.alloc (h : WAt T ext B b p bs w) (o : Obj) : WAt T ext B b p bs (w.alloc o) := by
  have hlt := h.lt
  obtain ⟨hB, v, hb, hown, hne⟩ := h
  exact ⟨hB, v, (Lib.alloc_old w o b hlt).trans hb, hown.kept (World.grownBy_alloc w o none) (by cases hv : v.ownBlock <;> simp), hne⟩
/-- What stays from all blocks on stays here. -/
theorem WAt.step {w' : World} (h : WAt T ext B b p bs w) (hb : Below w.heap.size w w') : WAt T ext B b p bs w' := by
  have hlt := h.lt
  obtain ⟨hB, v, hh, hown, hne⟩ := h
  refine ⟨hB, v, by rw [hb.block b hlt]; exact hh, ⟨hown.1, ?_⟩, hne⟩
  rcases hown.2 with hn | ⟨g, cap, cur, fz, hv, hbg, hg, rest⟩
  · exact .inl hn
  · exact .inr ⟨g, cap, cur, fz, hv, hbg, by rw [hb.block g (Array.getElem?_eq_some_iff.1 hg).1]; exact hg, rest⟩
theorem WAt.iterAt (h : WAt T ext B b p bs w) {k : Nat} {s : ByteArray} {pos : Nat} (hk : w.heap[k]? = some (.stringIter s pos)) (pos' : Nat) : WAt T ext B b p bs (w.iterAt k s pos') := by
  obtain ⟨hB, v, hb, hown, hne⟩ := h
  have hkb : b ≠ k := by
    intro e1
    rw [e1, hk] at hb
    cases hb
  refine ⟨hB, v, (Lib.iterAt_other w k b s pos' hkb).trans hb, ⟨hown.1, ?_⟩, hne⟩
  rcases hown.2 with hn | ⟨g, cap, cur, fz, hv, hbg, hg, rest⟩
  · exact .inl hn
  · have hkg : g ≠ k := by
      intro e1
      rw [e1, hk] at hg
      cases hg
    exact .inr ⟨g, cap, cur, fz, hv, hbg, (Lib.iterAt_other w k g s pos' hkg).trans hg, rest⟩
theorem WAt.froze {g cap : Nat} (h : WAt T ext B b p bs w) (hc : w.cell? ⟨b, 1, none⟩ = some (.slice (some ⟨g, 0, none⟩) bs.length cap)) : WAt T ext B b p bs (w.freeze ⟨g, 0, none⟩ bs.length) := by
  obtain ⟨hB, v, hb, hown, hne⟩ := h
  have hv : v = .slice (some ⟨g, 0, none⟩) bs.length cap := by
    rw [Lib.cell_of_heap hb] at hc
    simpa using hc
  subst hv
  have hgb : g ≠ b := fun e => hne (by simp [Value.ownBlock, e])
  unfold World.freeze
  split
  · exact ⟨hB, _, hb, hown, hne⟩
  · rename_i hn0
    refine ⟨hB, _, ?_, ⟨hown.1, ?_⟩, hne⟩
    · simp only [Array.getElem?_modify]
      rw [if_neg hgb]
      exact hb
    · rcases hown.2 with ⟨hv, _⟩ | ⟨g', cap', cur, fz, hv, hbg, hg, hfz, rest⟩
      · cases hv
      · injection hv with ha _ hcap
        injection ha with ha
        injection ha with hgg _ _
        subst hgg
        subst hcap
        obtain ⟨lo, hi⟩ := fz
        refine .inr ⟨g, _, cur, (if lo == hi then (0, 0 + bs.length) else (min lo 0, max hi (0 + bs.length))), rfl, hbg, ?_, ?_, rest⟩
        · simp [Array.getElem?_modify, hg]
        · simp only at hfz
          split <;> simp <;> omega
theorem WIs.lt (h : WIs T ext B b bs w) : b < w.heap.size := h.elim (fun x => x.lt) (fun x => x.lt)
theorem WIs.step {w' : World} (h : WIs T ext B b bs w) (hb : Below w.heap.size w w') : WIs T ext B b bs w' := h.elim (fun x => .inl (x.step hb)) (fun x => .inr (x.step hb))
theorem WIs.alloc (h : WIs T ext B b bs w) (o : Obj) : WIs T ext B b bs (w.alloc o) := h.elim (fun x => .inl (x.alloc o)) (fun x => .inr (x.alloc o))
theorem WIs.iterAt (h : WIs T ext B b bs w) {k : Nat} {s : ByteArray} {pos : Nat} (hk : w.heap[k]? = some (.stringIter s pos)) (pos' : Nat) : WIs T ext B b bs (w.iterAt k s pos') :=
  h.elim (fun x => .inl (x.iterAt hk pos')) (fun x => .inr (x.iterAt hk pos'))
theorem WAt.new (w : World) (T : TypeId) (ext : List Value) : WAt T ext w.heap.size w.heap.size (.pointer none) [] (w.alloc (.cells (.pointer none :: .slice none 0 0 :: ext).toArray T)) :=
  ⟨Nat.le_refl _, .slice none 0 0, heap_alloc_new w _, World.ownsRowF_nil _ _ _ _, by simp [Value.ownBlock]⟩
end
/-- What holds of a type that begins with a builder. -/
structure WTy (T : TypeId) (n : Nat) : Prop where
  lies : liesAt Tryz.prog Tryz.prog.depth T (n / Tryz.prog.cellsOf T) 0 56 1 = true
  ne : T ≠ 5

set_option maxHeartbeats 1000000 in
set_option maxRecDepth 100000 in
/-- (*strings.Builder).copyCheck. -/
theorem wCheck {T : TypeId} {ext : List Value} (X : WTy T (ext.length + 2)) (B b : Nat) (bs : List Value) (w : World) (h : WIs T ext B b bs w) :
    Calls Tryz.prog 88 #[.pointer (some ⟨b, 0, none⟩)] w fun e w' => e = .returned (.tuple #[]) ∧ WAt T ext B b (.pointer (some ⟨b, 0, none⟩)) bs w' ∧ Below B w w' ∧ OK8 b w w' := by
  obtain ⟨j, hj, hjs⟩ := Option.map_eq_some_iff.1 (show (Tryz.prog.info? 56).map (·.size) = some 2 by kernel_rfl)
  rcases h with h | h
  · have h0 := h.cell0
    have hsh := h.shape
    have hfz := h.frozen 0
    have H := Lib.hid h
    clear h
    go_enter Tryz.func88, Tryz.ntmps88
    go_wp2
    rw [Lib.run_to_unsafe w ⟨b, 0, none⟩ Tryz.underlying53 Tryz.underlying174 hj (by rw [hjs]; decide) hsh (by simp)]
    simp only [Result.andThen]
    rw [Oper.upon_value]
    go_wp2
    rw [run_callFunc_extern Tryz.func123 (by kernel_rfl) (by kernel_rfl) (by kernel_rfl) (e := Extern.AbiNoEscape.same) (by kernel_rfl)]
    rw [Lib.run_noEscape]
    simp only [Result.andThen]
    rw [Oper.upon_value]
    go_wp2
    rw [Lib.run_from_unsafe w ⟨b, 0, none⟩ Tryz.underlying174 Tryz.underlying53 hj hsh X.lies]
    simp only [Result.andThen]
    rw [Oper.upon_value]
    go_wp2
    go_end0
    exact ⟨rfl, H.out.used _, (Below.refl B w).setCell (p := ⟨b, 0, none⟩) H.out.1 _, (Lib.OthersKept.refl _ _ w).setCell ⟨b, 0, none⟩ rfl _⟩
  · have h0 := h.cell0
    have H := Lib.hid h
    clear h
    go_enter Tryz.func88, Tryz.ntmps88
    go_wp2
    rw [Lib.run_neq_ptr_same w _ Tryz.underlying53 hj]
    go_wp2
    go_end0
    exact ⟨rfl, H.out, Below.refl B _, Lib.OthersKept.refl _ _ _⟩
theorem w8Info : ∃ i0, Tryz.prog.info? 5 = some i0 ∧ i0.zero = some (.int .u8 0) ∧ i0.size = 1 ∧ i0.bytes = 1 := info_parts (by kernel_rfl)
set_option maxHeartbeats 2000000 in
set_option maxRecDepth 100000 in
/-- (*strings.Builder).WriteString. -/
theorem wString {T : TypeId} {ext : List Value} (X : WTy T (ext.length + 2)) (B b : Nat) (bs : List Value) (s : ByteArray) (w : World) (h : WIs T ext B b bs w) (hlen : bs.length + s.size ≤ 140737488355328) (hBw : B ≤ w.heap.size) :
    Calls Tryz.prog 53 #[.pointer (some ⟨b, 0, none⟩), .string s] w fun e w' => e = .returned (.tuple #[.int .i64 s.size, .nilIface]) ∧ WAt T ext B b (.pointer (some ⟨b, 0, none⟩)) (bs ++ Lib.strCells s) w' ∧ Below B w w' ∧ OK8 b w w' := by
  obtain ⟨i0, hi, hz0, hz1, hz2⟩ := w8Info
  have hcc := wCheck X B b bs w h
  clear h
  go_enter Tryz.func53, Tryz.ntmps53
  go_wp2_with (go_at_call 88; refine hcc.mono ?_)
  rintro e w1 ⟨rfl, h1, hb1, hk1⟩
  obtain ⟨hB, v, hbk, hown, hne⟩ := h1
  have c0 : w1.cell? ⟨b, 0, none⟩ = some (.pointer (some ⟨b, 0, none⟩)) := by rw [Lib.cell_of_heap hbk]; rfl
  have c1 : w1.cell? ⟨b, 1, none⟩ = some v := by rw [Lib.cell_of_heap hbk]; rfl
  go_wp2_with (at_builtin; refine Lib.wpList_append_own_stringF _ rfl _ _ 54 9 rfl B 5 i0 Tryz.underlying54 Tryz.underlying9 hi hz0 hz1 hz2 _ _ _ rfl hown s rfl ?c3 ?c4 ?c5 ?_)
  case c3 => unfold maxLen; omega
  case c4 => omega
  case c5 => have := hb1.size; omega
  intro v' w2 hown' hgrow _
  have hlt : b < w1.heap.size := cell_lt c0
  have hb2 : w2.heap[b]? = some (.cells (.pointer (some ⟨b, 0, none⟩) :: v :: ext).toArray T (0, 0)) := by
    rw [hgrow.block b hlt (fun e => hne e.symm)]
    exact hbk
  have d1 : w2.cell? ⟨b, 1, none⟩ = some v := by rw [Lib.cell_of_heap hb2]; rfl
  have f1 : w2.frozen? ⟨b, 1, none⟩ = false := Lib.frozen_of_heap hb2 1
  obtain ⟨ao, n', cap, rfl⟩ : ∃ ao n' cap, v' = .slice ao n' cap := by
    rcases hown'.2 with ⟨hv, _⟩ | ⟨g, cap, cur, fz, hv, _⟩
    · exact ⟨_, _, _, hv⟩
    · exact ⟨_, _, _, hv⟩
  go_wp2
  go_ret2
  refine ⟨rfl, ?_, ?_, (hk1.grown hgrow (Lib.ownsRowF_kind hown)).setCell ⟨b, 1, none⟩ rfl _⟩
  · exact WAt.put hB hb2 (bs' := bs ++ Lib.strCells s) (by simpa [Lib.strCells_length] using hown') X.ne
  · exact (hb1.grown hgrow (by have := hb1.size; omega) (fun k hk => (hown.lt k hk).1)).setCell (p := ⟨b, 1, none⟩) hB _
set_option maxHeartbeats 4000000 in
set_option maxRecDepth 100000 in
/-- (*strings.Builder).WriteRune. -/
theorem wRune {T : TypeId} {ext : List Value} (X : WTy T (ext.length + 2)) (B b : Nat) (bs : List Value) (r : Int) (hr0 : -2147483648 ≤ r) (hr1 : r ≤ 2147483647) (w : World) (h : WIs T ext B b bs w) (hlen : bs.length + 4 ≤ 140737488355328) (hBw : B ≤ w.heap.size) :
    Calls Tryz.prog 117 #[.pointer (some ⟨b, 0, none⟩), .int .i32 r] w fun e w' => e = .returned (.tuple #[.int .i64 (Lib.runeCells r).length, .nilIface]) ∧ WAt T ext B b (.pointer (some ⟨b, 0, none⟩)) (bs ++ Lib.runeCells r) w' ∧ Below B w w' ∧ OK8 b w w' := by
  have hk4 := Lib.runeCells_le r
  have hcc := wCheck X B b bs w h
  clear h
  go_enter Tryz.func117, Tryz.ntmps117
  go_wp2_with (go_at_call 88; refine hcc.mono ?_)
  rintro e w1 ⟨rfl, h1, hb1, hk1⟩
  obtain ⟨hB, v, hbk, hown, hne⟩ := h1
  obtain ⟨ao, cap, rfl⟩ : ∃ ao cap, v = .slice ao bs.length cap := by
    rcases hown.2 with ⟨hv, h0⟩ | ⟨g, cap, cur, fz, hv, _⟩
    · exact ⟨none, 0, by rw [hv, h0]⟩
    · exact ⟨_, _, hv⟩
  have c1 : w1.cell? ⟨b, 1, none⟩ = some (.slice ao bs.length cap) := by rw [Lib.cell_of_heap hbk]; rfl
  have hlt : b < w1.heap.size := cell_lt c1
  have hap1 := Tryz.utf8_AppendRune_row B _ bs.length bs r hr0 hr1 w1 hown hlen (by have := hb1.size; omega)
  go_wp2_with (go_at_call 161; refine hap1.mono ?_)
  rintro e w2 ⟨v', rfl, hown', o, hgrow⟩
  have hb2 : w2.heap[b]? = some (.cells (.pointer (some ⟨b, 0, none⟩) :: .slice ao bs.length cap :: ext).toArray T (0, 0)) := by
    rw [hgrow.block b (by simp; omega) (fun e => hne e.symm), Lib.alloc_old w1 _ b hlt]
    exact hbk
  have d1 : w2.cell? ⟨b, 1, none⟩ = some (.slice ao bs.length cap) := by rw [Lib.cell_of_heap hb2]; rfl
  have f1 : w2.frozen? ⟨b, 1, none⟩ = false := Lib.frozen_of_heap hb2 1
  obtain ⟨g, cap', rfl⟩ : ∃ g cap', v' = .slice (some ⟨g, 0, none⟩) (bs.length + (Lib.runeCells r).length) cap' := by
    rcases hown'.2 with ⟨_, h0⟩ | ⟨g, cap', cur, fz, hv, _⟩
    · omega
    · exact ⟨g, cap', hv⟩
  go_wp2
  go_ret2
  refine ⟨?_, ?_, ?_, ((hk1.alloc _).grown hgrow (Lib.ownsRowF_kind (hown.alloc _))).setCell ⟨b, 1, none⟩ rfl _⟩
  · have e : ((bs.length : Int) + ((Lib.runeCells r).length : Int) - (bs.length : Int)) = ((Lib.runeCells r).length : Int) := by omega
    simp [e]
  · exact WAt.put hB hb2 (bs' := bs ++ Lib.runeCells r) (by simpa using hown') X.ne
  · exact ((hb1.alloc (by have := hb1.size; omega) _).grown hgrow (by have := hb1.size; simp; omega) (fun k hk => (hown.lt k hk).1)).setCell (p := ⟨b, 1, none⟩) hB _
set_option maxHeartbeats 1000000 in
set_option maxRecDepth 100000 in
/-- (*strings.Builder).String, of at least one byte. -/
theorem wStr {T : TypeId} {ext : List Value} (B b : Nat) (l : List UInt8) (w : World) (h : WIs T ext B b (Lib.byteCells l) w) (h0 : l ≠ []) :
    Calls Tryz.prog 35 #[.pointer (some ⟨b, 0, none⟩)] w fun e w' => e = .returned (.string ⟨l.toArray⟩) ∧ WIs T ext B b (Lib.byteCells l) w' ∧ Below B w w' := by
  obtain ⟨p, hp, hAt⟩ : ∃ p, (p = .pointer none ∨ p = .pointer (some ⟨b, 0, none⟩)) ∧ WAt T ext B b p (Lib.byteCells l) w := by
    rcases h with h | h
    · exact ⟨_, .inl rfl, h⟩
    · exact ⟨_, .inr rfl, h⟩
  obtain ⟨hB, v, hbk, hown, hne⟩ := hAt
  have hl0 : l.length ≠ 0 := by simpa using h0
  rw [Lib.byteCells_length] at hown
  obtain ⟨g, cap, cur, fz, rfl, hbg, hg, hfz, hnc, hcm, hcs, htake⟩ : ∃ g cap cur fz, v = .slice (some ⟨g, 0, none⟩) l.length cap ∧ B ≤ g ∧ w.heap[g]? = some (.cells cur 5 fz) ∧ fz.2 ≤ l.length * 1 ∧ l.length ≤ cap ∧ cap ≤ maxLen ∧ cur.size = cap * 1 ∧ cur.toList.take (l.length * 1) = Lib.byteCells l := by
    rcases hown.2 with ⟨_, hz⟩ | ⟨g, cap, cur, fz, hv, r⟩
    · exact absurd hz hl0
    · exact ⟨g, cap, cur, fz, hv, r⟩
  have c1 : w.drew.cell? ⟨b, 1, none⟩ = some (.slice (some ⟨g, 0, none⟩) l.length cap) := by
    have : w.drew.heap[b]? = some (.cells (p :: .slice (some ⟨g, 0, none⟩) l.length cap :: ext).toArray T (0, 0)) := hbk
    rw [Lib.cell_of_heap this]; rfl
  have hSD : (Builtin.unsafeSliceData_ #[54] 86 #[.slice (some ⟨g, 0, none⟩) l.length cap]).run Tryz.prog w.drew = .ok (.pointer (some ⟨g, 0, none⟩)) w.drew :=
    Lib.run_unsafeSliceData_row _ _ _ _ _ _ (by omega)
  have hUS : (Builtin.unsafeString_ #[86, 3] 9 #[.pointer (some ⟨g, 0, none⟩), .int .i64 l.length]).run Tryz.prog w.drew = .ok (.string ⟨l.toArray⟩) (w.drew.freeze ⟨g, 0, none⟩ l.length) := by
    refine Lib.run_unsafeString_row w.drew 86 3 9 5 Tryz.underlying86 (by kernel_rfl) g cur.size (by have hg' : w.drew.heap[g]? = some (.cells cur 5 fz) := hg; simp [World.shape?, hg']) l h0 (by omega) (by unfold maxLen at hcm; omega) ?_
    intro j x hx
    have := hown.cells (g := g) rfl j (.int .u8 x.toNat) (by simp [Lib.byteCells, hx])
    exact this
  have hkeep : WIs T ext B b (Lib.byteCells l) (w.drew.freeze ⟨g, 0, none⟩ l.length) := by
    have hA : WAt T ext B b p (Lib.byteCells l) w.drew := ⟨hB, _, hbk, by rw [Lib.byteCells_length]; exact hown, hne⟩
    have hF := hA.froze (g := g) (cap := cap) (by rw [Lib.byteCells_length]; exact c1)
    rw [Lib.byteCells_length] at hF
    rcases hp with rfl | rfl
    · exact .inl hF
    · exact .inr hF
  have hbel : Below B w (w.drew.freeze ⟨g, 0, none⟩ l.length) := Lib.below_freeze (Below.drew (Below.refl B w)) (p := ⟨g, 0, none⟩) hbg _
  have HK := Lib.hid hkeep
  clear hkeep h hown hp hbk
  have mixed : Tryz.prog.follows Departure.mixedOrders = true := by kernel_rfl
  go_enter Tryz.func35, Tryz.ntmps35
  go_wp2
  go_region_o
  all_goals (go_wp2; go_ret; exact ⟨rfl, HK.out, hbel⟩)
end Go.Proofs.YtpnlabjgmdhicaaGreatDoor
namespace Go.Proofs.YtpnlabjgmdhicaaGreatDoor.Um
open Go.Lib

def isB (n : Int) : Bool := decide (0 ≤ n) && decide (n ≤ 1114111) && (decide (n < 55296) || decide (57343 < n))

def inB (n : Int) : List Int → Bool
  | a :: b :: l => (decide (a ≤ n) && decide (n ≤ b)) || inB n l
  | _ => false

theorem inB_drop (n x y : Int) (l : List Int) (k : Nat) (hx : l[k]? = some x) (hy : l[k+1]? = some y) :
    inB n (l.drop k) = ((decide (x ≤ n) && decide (n ≤ y)) || inB n (l.drop (k+2))) := by
  obtain ⟨h1, rfl⟩ := List.getElem?_eq_some_iff.1 hx
  obtain ⟨h2, rfl⟩ := List.getElem?_eq_some_iff.1 hy
  rw [List.drop_eq_getElem_cons h1, List.drop_eq_getElem_cons h2]
  simp [inB]

theorem inB_end (n : Int) (l : List Int) (k : Nat) (h : ¬ k + 1 < l.length) : inB n (l.drop k) = false := by
  have : (l.drop k).length ≤ 1 := by simp; omega
  generalize l.drop k = r at this
  match r, this with
  | [], _ => rfl
  | [_], _ => rfl

def firstL : List Int := [65, 90, 97, 122, 192, 214, 216, 246, 248, 767, 880, 893, 895, 8191, 8204, 8205, 8304, 8591, 11264, 12271, 12289, 55295, 63744, 64975, 65008, 65533, 65536, 983039]
def firstB (n : Int) : Bool := inB n firstL
def letterL : List Int := [95, 95, 58, 58, 45, 45, 48, 57, 183, 183, 768, 879, 8255, 8256]
def letterB (n : Int) : Bool := firstB n || inB n letterL
def beginL : List Int := [95, 95, 58, 58, 48, 57]
def beginB (n : Int) : Bool := firstB n || inB n beginL
def digitB (n : Int) : Bool := decide (48 ≤ n) && decide (n ≤ 57)
def alphaB (n : Int) : Bool := inB n [65, 90, 97, 122]
/-- the nine bytes that may not stand raw -/
def badL : List Int := [60, 62, 34, 123, 125, 124, 94, 96, 92]
def rawB (n : Int) : Bool := isB n && decide (32 < n) && !badL.contains n

/-- The sign that begins a list of bytes, and how many bytes it has; 0, 0 if none does. -/
def nx (l : List UInt8) : Nat × Nat :=
  if l.length = 0 then (0, 0) else
  if decodeN l.length (l.getD 0 0).toNat (l.getD 1 0).toNat (l.getD 2 0).toNat (l.getD 3 0).toNat = (65533, 1) then (0, 0)
  else decodeN l.length (l.getD 0 0).toNat (l.getD 1 0).toNat (l.getD 2 0).toNat (l.getD 3 0).toNat

theorem isB_iff (n : Int) : isB n = true ↔ (0 ≤ n ∧ n ≤ 1114111) ∧ (n < 55296 ∨ 57343 < n) := by simp [isB]

theorem u8_lt (a : UInt8) : a.toNat < 256 := a.toNat_lt
theorem u8_of_int (x : UInt8) (n : Int) (h : (x.toNat : Int) = n) : n.toNat.toUInt8 = x := by
  subst h; simp

theorem decodeN_pos (n b0 b1 b2 b3 : Nat) : 1 ≤ (decodeN n b0 b1 b2 b3).2 := by
  unfold decodeN
  repeat' split
  all_goals simp

/-- How the reference reckons a sign of so many bytes. -/
def cand (l : List UInt8) : Nat → Int
  | 1 => (l.getD 0 0).toNat
  | 2 => 64 * ((l.getD 0 0).toNat - 192) + (l.getD 1 0).toNat - 128
  | 3 => 64 * (64 * ((l.getD 0 0).toNat - 224) + (l.getD 1 0).toNat - 128) + (l.getD 2 0).toNat - 128
  | 4 => 64 * (64 * (64 * ((l.getD 0 0).toNat - 240) + (l.getD 1 0).toNat - 128) + (l.getD 2 0).toNat - 128) + (l.getD 3 0).toNat - 128
  | _ => 0

theorem take_getD (l : List UInt8) (k i : Nat) (h : i < k) : (l.take k).getD i 0 = l.getD i 0 := by
  simp [List.getD_eq_getElem?_getD, h]

theorem enc_map (n : Int) (l : List UInt8) (k : Nat) (h : l.take k = encodeRune n) (i : Nat) (hi : i < (encodeRuneZ n).length) :
    ((l.getD i 0).toNat : Int) = (encodeRuneZ n).getD i 0 ∧ (encodeRune n).length ≤ k := by
  have hlen : (l.take k).length = (encodeRuneZ n).length := by rw [h]; simp [encodeRune]
  have hk : (encodeRuneZ n).length ≤ k := by rw [← hlen]; simp; omega
  have h1 : (l.take k).getD i 0 = l.getD i 0 := take_getD l k i (by omega)
  refine ⟨?_, by simpa [encodeRune] using hk⟩
  rw [← h1, h]
  have hb := encodeRuneZ_byte n (encodeRuneZ n)[i] (List.getElem_mem hi)
  simp only [encodeRune, List.getD_eq_getElem?_getD, List.getElem?_map, List.getElem?_eq_getElem hi, Option.map_some, Option.getD_some]
  have : ((encodeRuneZ n)[i].toNat.toUInt8).toNat = (encodeRuneZ n)[i].toNat := by
    simp; omega
  omega

theorem dec1 (n b0 b1 b2 b3 : Nat) (h : b0 < 128) : decodeN n b0 b1 b2 b3 = (b0, 1) := by unfold decodeN; rw [if_pos h]

theorem nx_of_enc (n : Int) (l : List UInt8) (hn : isB n = true) (k : Nat) (h : l.take k = encodeRune n) (hk : k ≤ l.length) :
    nx l = (n.toNat, k) := by
  have hlen : k = (encodeRuneZ n).length := by
    have : (l.take k).length = (encodeRune n).length := by rw [h]
    simp [encodeRune] at this; omega
  have hb := fun i hi => (enc_map n l k h i hi).1
  rw [isB_iff] at hn
  have hl1 := encodeRuneZ_length n
  unfold nx
  rw [if_neg (by omega)]
  have g0 := u8_lt (l.getD 0 0)
  have g1 := u8_lt (l.getD 1 0)
  have g2 := u8_lt (l.getD 2 0)
  have g3 := u8_lt (l.getD 3 0)
  generalize l.length = L at *
  have hb0 := hb 0
  have hb1 := hb 1
  have hb2 := hb 2
  have hb3 := hb 3
  clear hb
  generalize (l.getD 0 0).toNat = x0 at *
  generalize (l.getD 1 0).toNat = x1 at *
  generalize (l.getD 2 0).toNat = x2 at *
  generalize (l.getD 3 0).toNat = x3 at *
  have key : decodeN L x0 x1 x2 x3 = (n.toNat, k) := by
    by_cases c1 : n ≤ 127
    · have e := encodeRuneZ_one hn.1.1 c1
      rw [e] at hb0 hlen
      have h0 := hb0 (by simp)
      simp only [List.getD_cons_zero, List.length_cons, List.length_nil] at h0 hlen
      rw [dec1 _ _ _ _ _ (by omega)]
      ext <;> simp <;> omega
    · by_cases c2 : n ≤ 2047
      · have e := encodeRuneZ_two (by omega : 128 ≤ n) c2
        rw [e] at hb0 hb1 hlen
        have h0 := hb0 (by simp)
        have h1 := hb1 (by simp)
        simp only [List.getD_cons_zero, List.getD_cons_succ, List.length_cons, List.length_nil] at h0 h1 hlen
        unfold decodeN
        rw [if_neg (by omega), if_pos (by omega), if_pos (by omega)]
        ext <;> simp <;> omega
      · by_cases c3 : n ≤ 65535
        · have e := encodeRuneZ_three (r := n) (by omega)
          rw [e] at hb0 hb1 hb2 hlen
          have h0 := hb0 (by simp)
          have h1 := hb1 (by simp)
          have h2 := hb2 (by simp)
          simp only [List.getD_cons_zero, List.getD_cons_succ, List.length_cons, List.length_nil] at h0 h1 h2 hlen
          unfold decodeN
          rw [if_neg (by omega), if_neg (by omega), if_pos (by omega), if_pos (by omega)]
          ext <;> simp <;> omega
        · have e := encodeRuneZ_four (r := n) (by omega) (by omega)
          rw [e] at hb0 hb1 hb2 hb3 hlen
          have h0 := hb0 (by simp)
          have h1 := hb1 (by simp)
          have h2 := hb2 (by simp)
          have h3 := hb3 (by simp)
          simp only [List.getD_cons_zero, List.getD_cons_succ, List.length_cons, List.length_nil] at h0 h1 h2 h3 hlen
          unfold decodeN
          rw [if_neg (by omega), if_neg (by omega), if_neg (by omega), if_pos (by omega), if_pos (by omega)]
          ext <;> simp <;> omega
  rw [key, if_neg]
  intro hh
  injection hh with e1 e2
  subst e2
  have : (encodeRuneZ n).length = 3 := by
    rw [encodeRuneZ_three (r := n) (by omega)]; rfl
  omega

theorem take_of_bytes (l : List UInt8) (m : List Int) (hl : m.length ≤ l.length) (hm : ∀ i, i < m.length → ((l.getD i 0).toNat : Int) = m.getD i 0) :
    l.take m.length = m.map fun x => x.toNat.toUInt8 := by
  apply List.ext_getElem?
  intro i
  by_cases hi : i < m.length
  · have h1 := hm i hi
    rw [List.getElem?_take, if_pos hi, List.getElem?_map, List.getElem?_eq_getElem hi, List.getElem?_eq_getElem (by omega)]
    simp only [List.getD_eq_getElem?_getD, List.getElem?_eq_getElem hi, List.getElem?_eq_getElem (show i < l.length by omega), Option.getD_some] at h1
    simp only [Option.map_some, Option.some.injEq]
    exact (u8_of_int _ _ h1).symm
  · rw [List.getElem?_eq_none (by simp; omega), List.getElem?_eq_none (by simp; omega)]

/-- What nx says, if there is a sign. -/
theorem nx_enc (l : List UInt8) (h : (nx l).2 ≠ 0) :
    isB ((nx l).1 : Int) = true ∧ (nx l).2 ≤ l.length ∧ l.take (nx l).2 = encodeRune ((nx l).1 : Int) ∧ cand l (nx l).2 = ((nx l).1 : Int) ∧ (nx l).2 ≤ 4 := by
  unfold nx at *
  split at h
  · simp at h
  split at h
  · simp at h
  rename_i hl0 hbad
  rw [if_neg hl0, if_neg hbad]
  have g0 := u8_lt (l.getD 0 0)
  have g1 := u8_lt (l.getD 1 0)
  have g2 := u8_lt (l.getD 2 0)
  have g3 := u8_lt (l.getD 3 0)
  have key : ∀ m : List Int, (∀ i, i < m.length → ((l.getD i 0).toNat : Int) = m.getD i 0) → m.length ≤ l.length → l.take m.length = m.map fun x => x.toNat.toUInt8 := fun m a b => take_of_bytes l m b a
  obtain ⟨b0, e0⟩ : ∃ x, (l.getD 0 0).toNat = x := ⟨_, rfl⟩
  obtain ⟨b1, e1⟩ : ∃ x, (l.getD 1 0).toNat = x := ⟨_, rfl⟩
  obtain ⟨b2, e2⟩ : ∃ x, (l.getD 2 0).toNat = x := ⟨_, rfl⟩
  obtain ⟨b3, e3⟩ : ∃ x, (l.getD 3 0).toNat = x := ⟨_, rfl⟩
  rw [e0, e1, e2, e3] at hbad ⊢
  rw [e0] at g0
  rw [e1] at g1
  rw [e2] at g2
  rw [e3] at g3
  clear h
  have bad : ∀ x : Nat × Nat, x = (65533, 1) → ¬ x = (65533, 1) → False := fun _ a b => b a
  unfold decodeN at hbad ⊢
  by_cases c1 : b0 < 128
  · rw [if_pos c1]
    refine ⟨by rw [isB_iff]; omega, by omega, ?_, by simp only [cand, e0], by simp only; omega⟩
    have e := encodeRuneZ_one (r := (b0 : Int)) (by omega) (by omega)
    unfold encodeRune
    rw [e]
    refine key [(b0 : Int)] ?_ (by simp; omega)
    intro i hi
    match i, hi with
    | 0, _ => rw [e0]; rfl
  rw [if_neg c1] at hbad ⊢
  by_cases c2 : b0 / 32 = 6 ∧ (1 < l.length ∧ b1 / 64 = 2)
  · rw [if_pos c2] at hbad ⊢
    by_cases d : b0 % 32 * 64 + b1 % 64 ≥ 128
    · rw [if_pos d]
      refine ⟨by rw [isB_iff]; simp only; omega, by simp only; omega, ?_, by simp only [cand, e0, e1]; omega, by simp⟩
      have e := encodeRuneZ_two (r := ((b0 % 32 * 64 + b1 % 64 : Nat) : Int)) (by omega) (by omega)
      unfold encodeRune
      simp only
      rw [e]
      refine key [_, _] ?_ (by simp; omega)
      intro i hi
      match i, hi with
      | 0, _ => rw [e0]; simp only [List.getD_cons_zero]; omega
      | 1, _ => rw [e1]; simp only [List.getD_cons_succ, List.getD_cons_zero]; omega
    · rw [if_neg d] at hbad; exact absurd rfl hbad
  rw [if_neg c2] at hbad ⊢
  by_cases c3 : b0 / 16 = 14 ∧ (1 < l.length ∧ b1 / 64 = 2) ∧ (2 < l.length ∧ b2 / 64 = 2)
  · rw [if_pos c3] at hbad ⊢
    split at hbad
    · rename_i d
      rw [if_pos d]
      refine ⟨by rw [isB_iff]; simp only; omega, by simp only; omega, ?_, by simp only [cand, e0, e1, e2]; omega, by simp⟩
      have e := encodeRuneZ_three (r := ((b0 % 16 * 4096 + b1 % 64 * 64 + b2 % 64 : Nat) : Int)) (by omega)
      unfold encodeRune
      simp only
      rw [e]
      refine key [_, _, _] ?_ (by simp; omega)
      intro i hi
      match i, hi with
      | 0, _ => rw [e0]; simp only [List.getD_cons_zero]; omega
      | 1, _ => rw [e1]; simp only [List.getD_cons_succ, List.getD_cons_zero]; omega
      | 2, _ => rw [e2]; simp only [List.getD_cons_succ, List.getD_cons_zero]; omega
    · exact absurd rfl hbad
  rw [if_neg c3] at hbad ⊢
  by_cases c4 : b0 / 8 = 30 ∧ (1 < l.length ∧ b1 / 64 = 2) ∧ (2 < l.length ∧ b2 / 64 = 2) ∧ (3 < l.length ∧ b3 / 64 = 2)
  · rw [if_pos c4] at hbad ⊢
    split at hbad
    · rename_i d
      rw [if_pos d]
      refine ⟨by rw [isB_iff]; simp only; omega, by simp only; omega, ?_, by simp only [cand, e0, e1, e2, e3]; omega, by simp⟩
      have e := encodeRuneZ_four (r := ((b0 % 8 * 262144 + b1 % 64 * 4096 + b2 % 64 * 64 + b3 % 64 : Nat) : Int)) (by omega) (by omega)
      unfold encodeRune
      simp only
      rw [e]
      refine key [_, _, _, _] ?_ (by simp; omega)
      intro i hi
      match i, hi with
      | 0, _ => rw [e0]; simp only [List.getD_cons_zero]; omega
      | 1, _ => rw [e1]; simp only [List.getD_cons_succ, List.getD_cons_zero]; omega
      | 2, _ => rw [e2]; simp only [List.getD_cons_succ, List.getD_cons_zero]; omega
      | 3, _ => rw [e3]; simp only [List.getD_cons_succ, List.getD_cons_zero]; omega
    · exact absurd rfl hbad
  rw [if_neg c4] at hbad
  exact absurd rfl hbad

/-- The bytes of signs, one behind the other, as numbers. -/
def encL (l : List Int) : List Int := l.flatMap encodeRuneZ
theorem encL_length (l : List Int) : (encL l).length ≤ 4 * l.length := by
  induction l with
  | nil => simp [encL]
  | cons a l ih =>
    have := encodeRuneZ_length a
    have e : encL (a :: l) = encodeRuneZ a ++ encL l := rfl
    rw [e, List.length_append, List.length_cons]; omega
/-- a row of numbers as a text -/
def textS (l : List Int) : ByteArray := ⟨((encL l).map fun n => UInt8.ofNat n.toNat).toArray⟩

/-- The signs of a list of bytes; whether all is valid, else how many bytes are. -/
def sgF : Nat → List UInt8 → List Int × Nat × Bool
  | 0, _ => ([], 0, true)
  | f + 1, l => if l.length = 0 then ([], 0, true) else
      if (nx l).2 = 0 then ([], 0, false) else
      (((nx l).1 : Int) :: (sgF f (l.drop (nx l).2)).1, (nx l).2 + (sgF f (l.drop (nx l).2)).2.1, (sgF f (l.drop (nx l).2)).2.2)
def sgn (l : List UInt8) : List Int × Nat × Bool := sgF l.length l
/-- What Signs tells. -/
def sigR (l : List UInt8) : List Int × Nat × Int := if (sgn l).2.2 then ((sgn l).1, 0, 0) else ([], (sgn l).2.1, 11)

theorem sgF_more (f g : Nat) : ∀ l : List UInt8, l.length ≤ f → l.length ≤ g → sgF f l = sgF g l := by
  induction f generalizing g with
  | zero =>
    intro l h _
    have : l.length = 0 := by omega
    cases g with
    | zero => rfl
    | succ g => simp [sgF, this]
  | succ f ih =>
    intro l h1 h2
    cases g with
    | zero =>
      have : l.length = 0 := by omega
      simp [sgF, this]
    | succ g =>
      simp only [sgF]
      split
      · rfl
      · split
        · rfl
        · rename_i h3 h4
          rw [ih g (l.drop (nx l).2) (by simp; omega) (by simp; omega)]

theorem sgn_cons (l : List UInt8) (h : l.length ≠ 0) (h0 : (nx l).2 ≠ 0) :
    sgn l = (((nx l).1 : Int) :: (sgn (l.drop (nx l).2)).1, (nx l).2 + (sgn (l.drop (nx l).2)).2.1, (sgn (l.drop (nx l).2)).2.2) := by
  unfold sgn
  obtain ⟨f, hf⟩ : ∃ f, l.length = f + 1 := ⟨l.length - 1, by omega⟩
  rw [hf]
  simp only [sgF, if_neg h, if_neg h0]
  rw [sgF_more f (l.drop (nx l).2).length _ (by simp; omega) (Nat.le_refl _)]
theorem sgn_bad (l : List UInt8) (h : l.length ≠ 0) (h0 : (nx l).2 = 0) : sgn l = ([], 0, false) := by
  unfold sgn
  obtain ⟨f, hf⟩ : ∃ f, l.length = f + 1 := ⟨l.length - 1, by omega⟩
  rw [hf]
  simp only [sgF, if_neg h, if_pos h0]
theorem sgn_nil (l : List UInt8) (h : l.length = 0) : sgn l = ([], 0, true) := by
  unfold sgn
  rw [h]; rfl

/-- What is still to be done, at a place, with the signs so far. -/
def sgRest (l : List UInt8) (k : Nat) (acc : List Int) : Prop :=
  sgn l = (acc ++ (sgn (l.drop k)).1, k + (sgn (l.drop k)).2.1, (sgn (l.drop k)).2.2)
theorem sgRest_start (l : List UInt8) : sgRest l 0 [] := by simp [sgRest]
theorem sgRest_end {l : List UInt8} {k : Nat} {acc : List Int} (h : sgRest l k acc) (hk : l.length ≤ k) : sigR l = (acc, 0, 0) := by
  unfold sgRest at h
  rw [sgn_nil (l.drop k) (by simp; omega)] at h
  unfold sigR
  rw [h]; simp
theorem sgRest_bad {l : List UInt8} {k : Nat} {acc : List Int} (h : sgRest l k acc) (hk : k < l.length) (h0 : (nx (l.drop k)).2 = 0) : sigR l = ([], k, 11) := by
  unfold sgRest at h
  rw [sgn_bad (l.drop k) (by simp; omega) h0] at h
  unfold sigR
  rw [h]; simp
theorem sgRest_go {l : List UInt8} {k : Nat} {acc : List Int} (h : sgRest l k acc) (hk : k < l.length) (h0 : (nx (l.drop k)).2 ≠ 0) :
    sgRest l (k + (nx (l.drop k)).2) (acc ++ [((nx (l.drop k)).1 : Int)]) := by
  unfold sgRest at h ⊢
  rw [sgn_cons (l.drop k) (by simp; omega) h0, List.drop_drop] at h
  rw [h]
  simp [Nat.add_assoc]

/-- May a sign stand here? -/
def mayB : Bool → Int → Bool
  | true, n => beginB n
  | false, n => letterB n || decide (n = 46)
/-- How many bytes the longest label has: at: so many are read; best: so many are one. -/
def labF : Nat → Bool → List UInt8 → Nat → Nat → Nat
  | 0, _, _, _, best => best
  | f + 1, start, l, at_, best =>
    if l.length = 0 ∨ (nx l).2 = 0 then best
    else if mayB start (nx l).1 = false then best
    else labF f false (l.drop (nx l).2) (at_ + (nx l).2) (if (nx l).1 = 46 then best else at_ + (nx l).2)
def label (l : List UInt8) : Nat := labF (l.length + 1) true l 0 0

theorem labF_more (f g : Nat) : ∀ (st : Bool) (l : List UInt8) (a b : Nat), l.length < f → l.length < g → labF f st l a b = labF g st l a b := by
  induction f generalizing g with
  | zero => intro st l a b h; omega
  | succ f ih =>
    intro st l a b h1 h2
    cases g with
    | zero => omega
    | succ g =>
      simp only [labF]
      split
      · rfl
      · rename_i h3
        split
        · rfl
        · rw [ih g false (l.drop (nx l).2) _ _ (by simp; omega) (by simp; omega)]

/-- What is still to be done. -/
def labRest (l : List UInt8) (start : Bool) (k best : Nat) : Prop := label l = labF (l.length + 1) start (l.drop k) k best
theorem labRest_start (l : List UInt8) : labRest l true 0 0 := rfl
theorem labRest_end {l : List UInt8} {st : Bool} {k best : Nat} (h : labRest l st k best) (hk : l.length ≤ k ∨ (nx (l.drop k)).2 = 0) : label l = best := by
  unfold labRest at h
  rw [h]
  simp only [labF]
  rw [if_pos (by simp; omega)]
theorem labRest_out {l : List UInt8} {st : Bool} {k best : Nat} (h : labRest l st k best)
    (ht : mayB st (nx (l.drop k)).1 = false) : label l = best := by
  unfold labRest at h
  rw [h]
  simp only [labF]
  split
  · rfl
  · first | rfl | rw [if_pos ht]
theorem labRest_go {l : List UInt8} {st : Bool} {k best : Nat} (h : labRest l st k best) (hk : k < l.length) (h0 : (nx (l.drop k)).2 ≠ 0)
    (ht : mayB st (nx (l.drop k)).1 = true) :
    labRest l false (k + (nx (l.drop k)).2) (if (nx (l.drop k)).1 = 46 then best else k + (nx (l.drop k)).2) := by
  unfold labRest at h ⊢
  rw [h]
  obtain ⟨m, hm⟩ : ∃ m, l.length = m + 1 := ⟨l.length - 1, by omega⟩
  have c1 : ¬ ((l.drop k).length = 0 ∨ (nx (l.drop k)).2 = 0) := by simp only [List.length_drop]; omega
  have c2 : ¬ mayB st (nx (l.drop k)).1 = false := by rw [ht]; simp
  conv => lhs; unfold labF
  rw [if_neg c1, if_neg c2, List.drop_drop]
  exact labF_more _ _ _ _ _ _ (by simp only [List.length_drop]; omega) (by simp only [List.length_drop]; omega)

theorem begin_letter (n : Int) (h : beginB n = true) : letterB n = true := by
  simp only [beginB, letterB, beginL, letterL, inB, Bool.or_eq_true, Bool.and_eq_true, decide_eq_true_eq, Bool.false_eq_true, or_false] at h ⊢
  rcases h with h | h
  · exact .inl h
  · right; omega

/-- How many bytes of a kind a list begins with. -/
def span (p : Int → Bool) : List UInt8 → Nat
  | [] => 0
  | c :: l => if p c.toNat then span p l + 1 else 0
def alnumB (c : Int) : Bool := alphaB c || digitB c
/-- The longest tag: so many bytes are one. -/
def tagF : Nat → List UInt8 → Nat → Nat
  | 0, _, n => n
  | f + 1, l, n => if 0 < n ∧ n < l.length ∧ (l.getD n 0).toNat = 45 ∧ span alnumB (l.drop (n + 1)) ≠ 0 then tagF f l (n + 1 + span alnumB (l.drop (n + 1))) else n
def tag (l : List UInt8) : Nat := tagF l.length l (span alphaB l)

theorem span_le (p : Int → Bool) (l : List UInt8) : span p l ≤ l.length := by
  induction l with
  | nil => simp [span]
  | cons c l ih => simp only [span]; split <;> simp <;> omega
theorem span_drop (p : Int → Bool) (l : List UInt8) (k : Nat) (hk : k < l.length) :
    span p (l.drop k) = if p (l.getD k 0).toNat then span p (l.drop (k + 1)) + 1 else 0 := by
  rw [List.drop_eq_getElem_cons hk]
  simp only [span, List.getD_eq_getElem?_getD, List.getElem?_eq_getElem hk, Option.getD_some]
theorem span_end (p : Int → Bool) (l : List UInt8) (k : Nat) (hk : l.length ≤ k) : span p (l.drop k) = 0 := by
  rw [List.drop_eq_nil_of_le hk]; rfl

theorem tagF_more (f g : Nat) : ∀ (l : List UInt8) (n : Nat), l.length ≤ n + f → l.length ≤ n + g → tagF f l n = tagF g l n := by
  induction f generalizing g with
  | zero =>
    intro l n h _
    cases g with
    | zero => rfl
    | succ g => simp only [tagF]; rw [if_neg (by omega)]
  | succ f ih =>
    intro l n h1 h2
    cases g with
    | zero => simp only [tagF]; rw [if_neg (by omega)]
    | succ g =>
      simp only [tagF]
      split
      · exact ih g l _ (by omega) (by omega)
      · rfl
def tagRest (l : List UInt8) (n : Nat) : Prop := tag l = tagF l.length l n
theorem tagRest_out {l : List UInt8} {n : Nat} (h : tagRest l n) (ht : ¬ (0 < n ∧ n < l.length ∧ (l.getD n 0).toNat = 45 ∧ span alnumB (l.drop (n + 1)) ≠ 0)) : tag l = n := by
  unfold tagRest at h
  rw [h]
  cases hl : l.length with
  | zero => rfl
  | succ m => simp only [tagF]; rw [if_neg ht]
theorem tagRest_go {l : List UInt8} {n : Nat} (h : tagRest l n) (ht : 0 < n ∧ n < l.length ∧ (l.getD n 0).toNat = 45 ∧ span alnumB (l.drop (n + 1)) ≠ 0) : tagRest l (n + 1 + span alnumB (l.drop (n + 1))) := by
  unfold tagRest at h ⊢
  rw [h]
  obtain ⟨m, hm⟩ : ∃ m, l.length = m + 1 := ⟨l.length - 1, by omega⟩
  rw [hm]
  conv => lhs; unfold tagF
  rw [if_pos ht]
  exact tagF_more _ _ _ _ (by omega) (by omega)

end Go.Proofs.YtpnlabjgmdhicaaGreatDoor.Um
