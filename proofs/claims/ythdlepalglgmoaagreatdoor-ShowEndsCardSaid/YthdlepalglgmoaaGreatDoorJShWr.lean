/- The program's term.writer, walked: a text, written as an IRI. The library's facts out of a row's list; the witness's world. Printed by gen/close8.py for termOrderRow. show's writer: a builder with an error behind it. -/
import Derived.Test.YthdlepalglgmoaaGreatDoorJUtfProg2b
import Derived.Test.YthdlepalglgmoaaGreatDoorJRegion
import Derived.LaidLaws
import Derived.Lib.LaidIn
import Derived.Lib.LaidCaseMet
import Derived.Test.YthdlepalglgmoaaGreatDoorJWrt
namespace Go.Proofs.YthdlepalglgmoaaGreatDoor
open Go Go.RowKit Um Fm Tx

theorem ok8_iter {b : Nat} {w wr : World} (h : OK8 b w wr) {k : Nat} (hk : w.heap.size ≤ k) (s : ByteArray) (pos : Nat) : OK8 b w (wr.iterAt k s pos) := fun i o hi hb ho => by
  have hlt : i < w.heap.size := (Array.getElem?_eq_some_iff.1 hi).1
  exact (Lib.iterAt_other wr k i s pos (by omega)).trans (h i o hi hb ho)
/-- What does not touch a world's blocks keeps them. -/
theorem ok8_below {b : Nat} {w w' : World} (h : Below w.heap.size w w') : OK8 b w w' := fun i o hi _ _ => by
  rw [h.block i (Array.getElem?_eq_some_iff.1 hi).1]; exact hi
def CtxT (w : World) : Prop := Ctx w ∧ TzV w
theorem CtxT.step {w w' : World} (h : CtxT w) (hb : Below w.heap.size w w') : CtxT w' := ⟨h.1.step hb, h.2.step hb⟩
theorem and15 : ∀ r : Fin 128, bits BinOp.and IntKind.i64 (r.val : Int) 15 = ((r.val % 16 : Nat) : Int) := by decide
set_option maxHeartbeats 4000000 in
set_option maxRecDepth 100000 in
/-- '(*term.writer).iri'. -/
theorem wIri (w0 : World) (hC : CtxT w0) (b : Nat) (acc : List UInt8) (s : ByteArray) (w : World) (hw0 : Below w0.heap.size w0 w) (h : WI w0.heap.size b acc w) (hv : validB s = true) (hs : s.size ≤ 1000000) (hlen : acc.length ≤ 50000000) :
    Calls Tryz.prog 78 #[.pointer (some ⟨b, 0, none⟩), .string s] w fun e w' => e = .returned (.pointer (some ⟨b, 0, none⟩)) ∧ WI w0.heap.size b (acc ++ iriL s.data.toList) w' ∧ Below w0.heap.size w w' ∧ OK8 b w w' := by
  have hBw := hw0.size
  have hlt0 : b < w.heap.size := h.lt
  have hz : s.data.toList.length = s.size := size_toList s
  go_enter Tryz.func78, Tryz.ntmps78
  go_wp2
  go_loopg [] s.size (fun gk wx => ∃ (pos : Nat) (part : List UInt8), Hid (WI w0.heap.size b (acc ++ part) wx) ∧ wx.heap[w.heap.size]? = some (.stringIter s pos) ∧ Below w0.heap.size w wx ∧ Hid (OK8 b w wx) ∧
    Hid (part ++ iriL (s.data.toList.drop pos) = iriL s.data.toList) ∧ Hid (Lib.validD (s.data.toList.drop pos) = true) ∧ part.length ≤ 6 * pos ∧ s.size ≤ pos + gk ∧ pos ≤ s.size)
  case atStart =>
    refine ⟨0, [], ?_, World.iter_heap w s 0, (Below.refl _ w).alloc hBw _, (Lib.OthersKept.refl _ _ w).alloc _, rfl, hv, by simp, by omega, by omega⟩
    show WI _ _ _ _
    rw [List.append_nil]; exact h.alloc _
  case round =>
    obtain ⟨pos, part, hW, hit, hB, hO, hpart, hvd, hpl, hfu, hps⟩ := hrel
    have hklt : w.heap.size < wr.heap.size := (Array.getElem?_eq_some_iff.1 hit).1
    by_cases hlt : pos < s.size
    · obtain ⟨g', rfl⟩ : ∃ g', gk = g' + 1 := ⟨gk - 1, by omega⟩
      have hne : s.data.toList.drop pos ≠ [] := by
        intro h0
        have := congrArg List.length h0
        rw [List.length_drop, hz] at this
        simp at this; omega
      have hst := iri_step hne hvd.out
      have hnx : ∀ ty, (Instr.next (.pointer (some ⟨w.heap.size, 0, none⟩)) true ty).run Tryz.prog wr = _ := fun ty => Lib.run_next_any_at wr w.heap.size s pos ty hit hlt
      have hrn := Lib.decodeL_rune (s.data.toList.drop pos)
      rw [Lib.decodeL_drop] at hst hrn
      rw [List.drop_drop, List.length_drop, hz] at hst
      generalize hdd : Utf8.decode s pos = dd at *
      obtain ⟨r, n⟩ := dd
      simp only at hnx hst hrn
      obtain ⟨h1, h2, h3, h4, h5, h6⟩ := hst
      have hit2 := Lib.iterAt_heap wr w.heap.size s pos (pos + n) hit
      have hB2 := Lib.below_iterAt hB (k := w.heap.size) hBw s (pos + n)
      have hO2 := ok8_iter hO.out (k := w.heap.size) (Nat.le_refl _) s (pos + n)
      have hW2 : WI w0.heap.size b (acc ++ part) (wr.iterAt w.heap.size s (pos + n)) := WIs.iterAt hW.out hit (pos + n)
      have hp2 : (part ++ iriR r) ++ iriL (s.data.toList.drop (pos + n)) = iriL s.data.toList := by rw [List.append_assoc, ← h1]; exact hpart.out
      have hal : (acc ++ part).length ≤ 100000000 := by rw [List.length_append]; omega
      have hpl2 : (part ++ iriR r).length ≤ 6 * (pos + n) := by rw [List.length_append]; omega
      obtain ⟨W, hWd⟩ : ∃ W, wr.iterAt w.heap.size s (pos + n) = W := ⟨_, rfl⟩
      rw [hWd] at hnx hit2 hB2 hO2 hW2
      have hrw := utfRaw (r : Int) W (hC.step (hw0.trans hB2)).1
      have HW2 := Lib.hid hW2
      have HO2 := Lib.hid hO2
      have Hp2 := Lib.hid hp2
      have H3 := Lib.hid h3
      have hBW : w0.heap.size ≤ W.heap.size := Nat.le_trans hBw hB2.size
      have hkW : w.heap.size < W.heap.size := (Array.getElem?_eq_some_iff.1 hit2).1
      clear hit hB hO hW hpart hvd hdd hWd h1 h3 hpl hW2 hO2 hp2 hne
      cases hr : rawB (r : Int)
      · have h128 := h2 hr
        rw [hr] at hrw
        have hi : iriR r = [92, 117, 48, 48, hxD (r / 16), hxD (r % 16)] := by unfold iriR; rw [hr]; rfl
        rw [hi] at Hp2 hpl2
        have ha15 := and15 ⟨r, h128⟩
        simp only at ha15
        have hf1 := fun W' hb => fmtInt (r / 16) (by omega) W' ((hC.step (hw0.trans hB2)).step hb).2
        have hf2 := fun W' hb => fmtInt (r % 16) (by omega) W' ((hC.step (hw0.trans hB2)).step hb).2
        rw [show ((r / 16 : Nat) : Int) = (r : Int) / 16 from by omega] at hf1
        rw [show ((r % 16 : Nat) : Int) = (r : Int) % 16 from by omega] at hf2 ha15
        have hu1 := fun W' => upDig (r / 16) (by omega) W'
        have hu2 := fun W' => upDig (r % 16) (by omega) W'
        have HI2 := Lib.hid hit2
        clear hi hr h2 hit2
        go_wp2_with (first | (go_at_call 113; refine hrw.mono ?_; rintro e w2 ⟨rfl, rfl⟩))
        refine (hf1 _ (Below.refl _ _)).mono ?_
        rintro e w2 ⟨rfl, c1⟩
        go_wp2_with (go_at_call 114; refine (hu1 _).mono ?_; rintro e w3 ⟨rfl, c2⟩)
        have c3 := below_tr c1 c2
        refine (hf2 _ c3).mono ?_
        rintro e w4 ⟨rfl, c4⟩
        go_wp2_with (go_at_call 114; refine (hu2 _).mono ?_; rintro e w5 ⟨rfl, c5⟩)
        have c6 := below_tr c3 (below_tr c4 c5)
        have c7 : Below W.heap.size W (w5.alloc (.cells #[.string ⟨#[92, 117, 48, 48]⟩, .string ⟨#[hxD (r / 16)]⟩, .string ⟨#[hxD (r % 16)]⟩] 9)) := c6.alloc c6.size _
        have hbW : b < W.heap.size := WIs.lt HW2.out
        have hzW := c6.size
        have hpc := wPieces w0.heap.size b w5.heap.size (acc ++ part) [⟨#[92, 117, 48, 48]⟩, ⟨#[hxD (r / 16)]⟩, ⟨#[hxD (r % 16)]⟩] 3 _ (WIs.step HW2.out c7) (heap_alloc_new w5 _) (by omega) (by simp) (by omega)
          (by intro x hx; simp at hx; rcases hx with rfl | rfl | rfl <;> simp [ByteArray.size]) (Nat.le_trans hBW c7.size)
        refine hpc.mono ?_
        rintro e w6 ⟨rfl, k1, k2, k3⟩
        have e1 : (acc ++ part) ++ List.flatMap (fun s : ByteArray => s.data.toList) [⟨#[92, 117, 48, 48]⟩, ⟨#[hxD (r / 16)]⟩, ⟨#[hxD (r % 16)]⟩] = acc ++ (part ++ [92, 117, 48, 48, hxD (r / 16), hxD (r % 16)]) := by rw [List.append_assoc]; rfl
        rw [e1] at k1
        have hit6 := Lib.OthersKept.iter ((ok8_below (b := b) c7).trans k3) HI2.out (by omega)
        have hB6 := (hB2.trans (c7.mono hBW)).trans k2
        clear hpc hu1 hu2 hf1 hf2 c1 c2 c3 c4 c5 c6
        go_wp2
        go_roundg g'
        case measure => omega
        case rel => exact ⟨pos + n, part ++ [92, 117, 48, 48, hxD (r / 16), hxD (r % 16)], k1, hit6, hB6, HO2.out.trans ((ok8_below c7).trans k3), Hp2.out, H3.out, hpl2, by omega, by omega⟩
      · rw [hr] at hrw
        have hi : iriR r = Lib.encodeRune (r : Int) := by unfold iriR; rw [hr]; rfl
        rw [hi] at Hp2 hpl2
        have hww := wWriteRune w0.heap.size b (acc ++ part) r hrn W HW2.out (by omega) hBW
        rw [List.append_assoc] at hww
        have hit3 := fun w2 (hk : OK8 b W w2) => Lib.OthersKept.iter hk hit2 (by omega)
        clear hi hr h2 hit2 HW2
        go_wp2_with (first | (go_at_call 113; refine hrw.mono ?_; rintro e w2 ⟨rfl, rfl⟩) | (go_at_call 110; refine hww.mono ?_; rintro e w2 ⟨⟨u, rfl⟩, k1, k2, k3⟩))
        go_roundg g'
        case measure => omega
        case rel => exact ⟨pos + n, part ++ Lib.encodeRune (r : Int), k1, hit3 _ k3, hB2.trans k2, HO2.out.trans k3, Hp2.out, H3.out, hpl2, by omega, by omega⟩
    · have hnx : ∀ ty, (Instr.next (.pointer (some ⟨w.heap.size, 0, none⟩)) true ty).run Tryz.prog wr = _ := fun ty => Lib.run_next_end_at wr w.heap.size s pos ty hit hlt
      have hpe : part = iriL s.data.toList := by
        have := hpart.out
        rw [List.drop_eq_nil_of_le (by rw [hz]; omega), iriL_nil, List.append_nil] at this
        exact this
      rw [hpe] at hW
      clear hpe hpart hvd hit
      go_wp2
      go_ret
      exact ⟨rfl, hW.out, hB, hO.out⟩
end Go.Proofs.YthdlepalglgmoaaGreatDoor
namespace Go.Proofs.YthdlepalglgmoaaGreatDoor
open Go Go.ChangeShapes Go.WideShapes Go.ChangeAt Go.RowKit Go.Lib
open Go.ChangeMaps (open_string shut_string)

theorem own : ownKnob Tryz.prog.godebug = none := by kernel_rfl
theorem laidOut : laidOutB Tryz.prog = true := by kernel_rfl

def caseRen : Go.Shelf.Ren := ⟨Tryz.lays274_ren.f, Tryz.lays274_ren.t, fun | 13 => 3 | n => n⟩
theorem caseLays : Lays.n274 Tryz.prog caseRen := { Tryz.lays274 with }
def laidFore : List (String × DataW Unit) := [("math/bits.deBruijn32tab", Rows.laid_math_bits_deBruijn32tab), ("math/bits.deBruijn64tab", Rows.laid_math_bits_deBruijn64tab), ("internal/strconv.uint64pow10", Rows.laid_internal_strconv_uint64pow10), ("unicode/utf8.acceptRanges", Rows.laid_unicode_utf8_acceptRanges)]
def laidRear : List (String × DataW Unit) := [("unicode/utf8.first", Rows.laid_unicode_utf8_first)]
def laidList : List (String × DataW Unit) := [("math/bits.deBruijn32tab", Rows.laid_math_bits_deBruijn32tab), ("math/bits.deBruijn64tab", Rows.laid_math_bits_deBruijn64tab), ("internal/strconv.uint64pow10", Rows.laid_internal_strconv_uint64pow10), ("unicode/utf8.acceptRanges", Rows.laid_unicode_utf8_acceptRanges), ("unicode.CaseRanges", Rows.laid_unicode_CaseRanges), ("unicode/utf8.first", Rows.laid_unicode_utf8_first)]
theorem first_same : Rows.laid_unicode_utf8_first = Lib.firstData := by kernel_rfl
theorem accept_same : (Rows.laid_unicode_utf8_acceptRanges : DataW Unit) = Lib.acceptData := by kernel_rfl
theorem case_same : Rows.laid_unicode_CaseRanges = Lib.caseData := by kernel_rfl
theorem deb_same : (Rows.laid_math_bits_deBruijn64tab : DataW Unit) = Lib.tabData .u8 [0, 1, 56, 2, 57, 49, 28, 3, 61, 58, 42, 50, 38, 29, 17, 4, 62, 47, 59, 36, 45, 43, 51, 22, 53, 39, 33, 30, 24, 18, 12, 5, 63, 55, 48, 27, 60, 41, 37, 16, 46, 35, 44, 21, 52, 32, 23, 11, 54, 26, 40, 15, 34, 20, 31, 10, 25, 14, 19, 9, 13, 8, 7, 6] := by kernel_rfl

theorem ctx_of {W : World} (hL : laidMetH Tryz.prog laidList W) (hsh : W.ShapedOpen Tryz.prog) : CtxT W := by
  refine ⟨⟨?_, Go.Proofs.cell_of_shapedOpen_int (zero := #[.int .i64 0]) (t := 3) hsh (of_decide_eq_true (by kernel_rfl)) (by kernel_rfl) rfl (by kernel_rfl) (by kernel_rfl) Tryz.underlying3⟩, ?_⟩
  · have h1 := Lib.laidMet.reads hL (.tail _ (.tail _ (.tail _ (.tail _ (.tail _ (.head _))))))
    have h2 := Lib.laidMet.reads hL (.tail _ (.tail _ (.tail _ (.head _))))
    rw [first_same] at h1
    rw [accept_same] at h2
    exact utf8Tabs_of_reads Tryz.lays260 ⟨by kernel_rfl, by kernel_rfl, by kernel_rfl, by kernel_rfl, by kernel_rfl, by kernel_rfl, by kernel_rfl⟩ h1 h2
  · have h3 := Lib.laidMet.reads hL (.tail _ (.head _))
    rw [deb_same] at h3
    obtain ⟨g, t, cs, fuel, p, hg, hty, hvar, hd⟩ := h3
    have hg0 : Tryz.prog.globalNamed "math/bits.deBruijn64tab" = some 6 := by kernel_rfl
    obtain rfl := Option.some.inj (hg0.symm.trans hg)
    have ht0 : (Tryz.prog.globals[6]?).map (·.type) = some 234 := by kernel_rfl
    obtain rfl := Option.some.inj (ht0.symm.trans hty)
    have hcs := cells_of_tab Tryz.underlying234 Tryz.underlying5 (by kernel_rfl) (by kernel_rfl) hd
    unfold TzV
    rw [World.var?_cell hg hvar 15, ← Array.getElem?_toList, hcs]
    rfl

theorem LaidVars_split {P : Program} {w : World} : ∀ {l l' : List (String × DataW Unit)} {ps : List MemPlace}, DataW.LaidVars P w (l ++ l') ps → ∃ a b, ps = a ++ b ∧ DataW.LaidVars P w l a ∧ DataW.LaidVars P w l' b
  | [], l', ps, h => ⟨[], ps, rfl, rfl, h⟩
  | (n, d) :: r, l', ps, h => by
    obtain ⟨g, t, cs, fuel, p, q, h1, h2, h3, h4, h5, rfl⟩ := h
    obtain ⟨a, b, rfl, ha, hb⟩ := LaidVars_split h5
    exact ⟨_, b, (List.append_assoc _ _ _).symm, ⟨g, t, cs, fuel, p, a, h1, h2, h3, h4, ha, rfl⟩, hb⟩
/-- A list's order does not matter. -/
theorem laidMet_turn {P : Program} {w : World} {l1 l2 l3 : List (String × DataW Unit)} (h : laidMet P ((l1 ++ l2) ++ l3) w) : laidMet P (l1 ++ (l3 ++ l2)) w := by
  obtain ⟨ps, hl, hn, hr⟩ := h
  obtain ⟨a, c, rfl, hab, hc⟩ := LaidVars_split hl
  obtain ⟨a, b, rfl, ha, hb⟩ := LaidVars_split hab
  have hp : (a ++ (c ++ b)).Perm ((a ++ b) ++ c) := by
    rw [List.append_assoc]
    exact List.Perm.append_left a List.perm_append_comm
  exact ⟨a ++ (c ++ b), Go.LaidVars_app ha (Go.LaidVars_app hc hb), hp.nodup_iff.2 hn, fun x off hx => hr x off (hp.mem_iff.1 hx)⟩

/-- A world for the witnesses: the settled one, the variables holding what their initialisers lay. -/
noncomputable def laidWorld (os : Os) : World :=
  let N := (World.settled Tryz.prog os).heap.size
  let w0 := World.holding Tryz.prog os ⟨#[.cells Lib.caseCells5 (Tryz.lays274_ren.t 208) (0, 0)], #[], []⟩
  let put (h : Array Obj) (g : Nat) (cs : Array Value) : Array Obj := h.modify g fun
    | .cells _ t frozen => .cells cs t frozen
    | o => o
  let h1 := put w0.heap 5 #[Value.int .u8 0, Value.int .u8 1, Value.int .u8 28, Value.int .u8 2, Value.int .u8 29, Value.int .u8 14, Value.int .u8 24, Value.int .u8 3, Value.int .u8 30, Value.int .u8 22, Value.int .u8 20, Value.int .u8 15, Value.int .u8 25, Value.int .u8 17, Value.int .u8 4, Value.int .u8 8, Value.int .u8 31, Value.int .u8 27, Value.int .u8 13, Value.int .u8 23, Value.int .u8 21, Value.int .u8 19, Value.int .u8 16, Value.int .u8 7, Value.int .u8 26, Value.int .u8 12, Value.int .u8 18, Value.int .u8 6, Value.int .u8 11, Value.int .u8 5, Value.int .u8 10, Value.int .u8 9]
  let h2 := put h1 6 #[Value.int .u8 0, Value.int .u8 1, Value.int .u8 56, Value.int .u8 2, Value.int .u8 57, Value.int .u8 49, Value.int .u8 28, Value.int .u8 3, Value.int .u8 61, Value.int .u8 58, Value.int .u8 42, Value.int .u8 50, Value.int .u8 38, Value.int .u8 29, Value.int .u8 17, Value.int .u8 4, Value.int .u8 62, Value.int .u8 47, Value.int .u8 59, Value.int .u8 36, Value.int .u8 45, Value.int .u8 43, Value.int .u8 51, Value.int .u8 22, Value.int .u8 53, Value.int .u8 39, Value.int .u8 33, Value.int .u8 30, Value.int .u8 24, Value.int .u8 18, Value.int .u8 12, Value.int .u8 5, Value.int .u8 63, Value.int .u8 55, Value.int .u8 48, Value.int .u8 27, Value.int .u8 60, Value.int .u8 41, Value.int .u8 37, Value.int .u8 16, Value.int .u8 46, Value.int .u8 35, Value.int .u8 44, Value.int .u8 21, Value.int .u8 52, Value.int .u8 32, Value.int .u8 23, Value.int .u8 11, Value.int .u8 54, Value.int .u8 26, Value.int .u8 40, Value.int .u8 15, Value.int .u8 34, Value.int .u8 20, Value.int .u8 31, Value.int .u8 10, Value.int .u8 25, Value.int .u8 14, Value.int .u8 19, Value.int .u8 9, Value.int .u8 13, Value.int .u8 8, Value.int .u8 7, Value.int .u8 6]
  let h3 := put h2 4 #[Value.int .u64 1, Value.int .u64 10, Value.int .u64 100, Value.int .u64 1000, Value.int .u64 10000, Value.int .u64 100000, Value.int .u64 1000000, Value.int .u64 10000000, Value.int .u64 100000000, Value.int .u64 1000000000, Value.int .u64 10000000000, Value.int .u64 100000000000, Value.int .u64 1000000000000, Value.int .u64 10000000000000, Value.int .u64 100000000000000, Value.int .u64 1000000000000000, Value.int .u64 10000000000000000, Value.int .u64 100000000000000000, Value.int .u64 1000000000000000000, Value.int .u64 10000000000000000000]
  let h4 := put h3 1 ((List.range 16).flatMap fun i => [Value.int .u8 (Lib.accLo i), Value.int .u8 (Lib.accHi i)]).toArray
  let h5 := put h4 3 #[.slice (some ⟨N, 0, none⟩) Lib.caseA.size Lib.caseA.size]
  let h6 := put h5 0 (Lib.firstTab.map fun z => Value.int .u8 z).toArray
  { w0 with heap := h6 }
set_option maxRecDepth 100000 in
theorem laid_met (os : Os) (args : Array Value) : laidMet Tryz.prog laidList ((laidWorld os).forCall (fun _ _ => 0) ⟨#[], args, []⟩).memory := by
  have h := laidMet_with_case (ρ := caseRen) caseLays (by kernel_rfl) ⟨by kernel_rfl, by kernel_rfl, by kernel_rfl, by kernel_rfl, by kernel_rfl, by kernel_rfl⟩ (w := ((laidWorld os).forCall (fun _ _ => 0) ⟨#[], args, []⟩).memory)
    (l := laidFore ++ laidRear) 10 (by kernel_rfl) (by kernel_rfl) (by kernel_rfl) ((World.settled Tryz.prog default).heap.size) (Tryz.lays274_ren.t 208) (of_decide_eq_true (by kernel_rfl)) (by kernel_rfl) (by kernel_rfl) (by kernel_rfl)
  have h2 := laidMet_turn h
  have e : laidList = laidFore ++ ([("unicode.CaseRanges", Lib.caseData)] ++ laidRear) := by rw [← case_same]; rfl
  rw [e]
  exact h2
end Go.Proofs.YthdlepalglgmoaaGreatDoor
namespace Go.Proofs.YthdlepalglgmoaaGreatDoor
open Go Go.RowKit

section
variable {T : TypeId} {B b : Nat} {p x y : Value} {bs : List Value} {w : World}
theorem WAt.ext2 (h : WAt T [x] B b p bs w) : w.cell? ⟨b, 2, none⟩ = some x := by
  obtain ⟨_, v, hb, _⟩ := h
  simp [World.cell?, hb]
theorem WAt.setExt (h : WAt T [x] B b p bs w) : WAt T [y] B b p bs (w.setCell ⟨b, 2, none⟩ y) := by
  obtain ⟨hB, v, hb, hown, hne⟩ := h
  refine ⟨hB, v, ?_, ?_, hne⟩
  · simp [World.setCell, Array.getElem?_modify, hb]
  · exact hown.kept (row := some b) ⟨rfl, rfl, rfl, by simp [World.setCell], fun k _ hk => Below.heap_setCell _ _ _ _ (fun e => hk (by simp [e]))⟩ (Or.inr hne)
theorem WIs.ext2 (h : WIs T [x] B b bs w) : w.cell? ⟨b, 2, none⟩ = some x := h.elim WAt.ext2 WAt.ext2
theorem WIs.setExt (h : WIs T [x] B b bs w) : WIs T [y] B b bs (w.setCell ⟨b, 2, none⟩ y) := h.elim (fun h => .inl h.setExt) (fun h => .inr h.setExt)
theorem WIs.frozen {ext : List Value} (h : WIs T ext B b bs w) (i : Nat) : w.frozen? ⟨b, i, none⟩ = false := h.elim (fun h => h.frozen i) (fun h => h.frozen i)
theorem WIs.base {ext : List Value} (h : WIs T ext B b bs w) : B ≤ b := h.elim (fun h => h.1) (fun h => h.1)
end
set_option maxHeartbeats 1000000 in
set_option maxRecDepth 100000 in
/-- (*strings.Builder).String, of no byte. -/
theorem wStr0 {T : TypeId} {ext : List Value} (B b : Nat) (w : World) (h : w.heap[b]? = some (.cells (.pointer none :: .slice none 0 0 :: ext).toArray T (0, 0))) (_hB : B ≤ w.heap.size) :
    Calls Tryz.prog 30 #[.pointer (some ⟨b, 0, none⟩)] w fun e w' => e = .returned (.string ⟨#[]⟩) ∧ Below B w w' := by
  have c1 : w.drew.cell? ⟨b, 1, none⟩ = some (.slice none 0 0) := by
    have : w.drew.heap[b]? = some (.cells (.pointer none :: .slice none 0 0 :: ext).toArray T (0, 0)) := h
    rw [Lib.cell_of_heap this]; rfl
  have hbel : Below B w w.drew := Below.drew (Below.refl B w)
  clear h
  have mixed : Tryz.prog.follows Departure.mixedOrders = true := by kernel_rfl
  have hSD : (Builtin.unsafeSliceData_ #[33] 68 #[.slice none 0 0]).run Tryz.prog w.drew = .ok (.pointer none) w.drew := rfl
  have hUS : (Builtin.unsafeString_ #[68, 3] 9 #[.pointer none, .int .i64 0]).run Tryz.prog w.drew = .ok (.string ⟨#[]⟩) w.drew := rfl
  go_enter Tryz.func30, Tryz.ntmps30
  go_wp2
  go_region_o
  all_goals (go_wp2; go_ret; exact ⟨rfl, hbel⟩)
end Go.Proofs.YthdlepalglgmoaaGreatDoor
