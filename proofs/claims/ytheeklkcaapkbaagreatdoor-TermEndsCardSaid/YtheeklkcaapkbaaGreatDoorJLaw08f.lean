/- The law TermEnds. Printed by gen/law08f.py. -/
import Derived.Test.YtheeklkcaapkbaaGreatDoorJLaw08c
import Derived.Test.YtheeklkcaapkbaaGreatDoorJLaw08d
import Derived.Deep.CutRange
import Derived.Laws.BytesArg
namespace Go.Proofs.YtheeklkcaapkbaaGreatDoor
open Go Go.RowKit Um Fm Lx Tx

theorem hugeT_of {k : Int} {x l y : ByteArray} (hx : x.size ≤ 1000000) (hl : l.size ≤ 1000000) (hy : y.size ≤ 1000000) : hugeT ⟨k, x, l, y⟩ :=
  ⟨Nat.le_trans hx (by decide), Nat.le_trans hl (by decide), Nat.le_trans hy (by decide)⟩
theorem ba_zero : (⟨#[]⟩ : ByteArray).size ≤ 1000000 := by decide
theorem ex_iri (x : ByteArray) (hx : x.size ≤ 1000000) : ∃ t : Tm, hugeT t ∧ ∀ W, Calls Tryz.prog 27 #[.string x] W fun e w' => e = .returned (tA t) ∧ Below W.heap.size W w' :=
  ⟨⟨1, x, ⟨#[]⟩, ⟨#[]⟩⟩, hugeT_of hx ba_zero ba_zero, fun W => termIri x W⟩
theorem ex_blank (x : ByteArray) (hx : x.size ≤ 1000000) : ∃ t : Tm, hugeT t ∧ ∀ W, Calls Tryz.prog 28 #[.string x] W fun e w' => e = .returned (tA t) ∧ Below W.heap.size W w' :=
  ⟨⟨2, x, ⟨#[]⟩, ⟨#[]⟩⟩, hugeT_of hx ba_zero ba_zero, fun W => termBlank x W⟩
theorem ex_lit (x : ByteArray) (hx : x.size ≤ 1000000) : ∃ t : Tm, hugeT t ∧ ∀ W, Calls Tryz.prog 29 #[.string x] W fun e w' => e = .returned (tA t) ∧ Below W.heap.size W w' :=
  ⟨⟨3, x, ⟨#[]⟩, ⟨#[]⟩⟩, hugeT_of hx ba_zero ba_zero, fun W => termLiteral x W⟩
theorem ex_tag (x s : ByteArray) (hx : x.size ≤ 1000000) (hs : s.size ≤ 1000000) : ∃ t : Tm, hugeT t ∧ ∀ W, Calls Tryz.prog 23 #[.string x, .string s] W fun e w' => e = .returned (tA t) ∧ Below W.heap.size W w' :=
  ⟨⟨3, x, lowS s, ⟨#[]⟩⟩, hugeT_of hx (by unfold lowS; rw [mkS_size, List.length_map, size_toList]; exact hs) ba_zero, fun W => termTagged x s W hs⟩
theorem ex_typed (x y : ByteArray) (hx : x.size ≤ 1000000) (hy : y.size ≤ 1000000) : ∃ t : Tm, hugeT t ∧ ∀ W, Calls Tryz.prog 25 #[.string x, .string y] W fun e w' => e = .returned (tA t) ∧ Below W.heap.size W w' :=
  ⟨typedT x y, by unfold typedT; split; exact hugeT_of hx ba_zero ba_zero; exact hugeT_of hx ba_zero hy, fun W => termTyped x y W⟩
theorem four (w : World) (a b c d : Obj) : ((((w.alloc a).alloc b).alloc c).alloc d).heap[w.heap.size]? = some a ∧ ((((w.alloc a).alloc b).alloc c).alloc d).heap[w.heap.size + 1]? = some b ∧ ((((w.alloc a).alloc b).alloc c).alloc d).heap[w.heap.size + 1 + 1]? = some c ∧ ((((w.alloc a).alloc b).alloc c).alloc d).heap[w.heap.size + 1 + 1 + 1]? = some d := by
  have s1 : (w.alloc a).heap.size = w.heap.size + 1 := by simp
  have s2 : ((w.alloc a).alloc b).heap.size = w.heap.size + 1 + 1 := by simp
  have s3 : (((w.alloc a).alloc b).alloc c).heap.size = w.heap.size + 1 + 1 + 1 := by simp
  have e1 := heap_alloc_new w a
  have e2 := heap_alloc_new (w.alloc a) b
  have e3 := heap_alloc_new ((w.alloc a).alloc b) c
  have e4 := heap_alloc_new (((w.alloc a).alloc b).alloc c) d
  rw [s1] at e2
  rw [s2] at e3
  rw [s3] at e4
  refine ⟨?_, ?_, ?_, e4⟩
  · rw [Lib.alloc_old _ _ _ (by rw [s3]; omega), Lib.alloc_old _ _ _ (by rw [s2]; omega), Lib.alloc_old _ _ _ (by rw [s1]; omega)]; exact e1
  · rw [Lib.alloc_old _ _ _ (by rw [s3]; omega), Lib.alloc_old _ _ _ (by rw [s2]; omega)]; exact e2
  · rw [Lib.alloc_old _ _ _ (by rw [s3]; omega)]; exact e3
theorem four_below (w : World) (a b c d : Obj) : Below w.heap.size w ((((w.alloc a).alloc b).alloc c).alloc d) :=
  ((((Below.refl _ w).alloc (Nat.le_refl _) a).alloc (by simp) b).alloc (by simp; omega) c).alloc (by simp; omega) d
theorem hugeTp_mk {a b c : Tm} (h1 : hugeT a) (h2 : hugeT b) (h3 : hugeT c) : hugeTp ⟨a, b, c⟩ := ⟨h1, h2, h3⟩
def rows32 : List ByteArray := [⟨#[]⟩, ⟨#[60]⟩, ⟨#[60, 62]⟩, ⟨#[34]⟩, ⟨#[34, 34]⟩, ⟨#[95, 58]⟩, ⟨#[95]⟩, ⟨#[34, 97, 34, 64]⟩, ⟨#[34, 97, 34, 64, 101, 110, 45]⟩, ⟨#[34, 97, 34, 64, 69, 78]⟩, ⟨#[34, 97, 34, 94, 94]⟩, ⟨#[34, 97, 34, 94, 94, 60]⟩, ⟨#[34, 97, 34, 94, 94, 60, 62]⟩, ⟨#[34, 97, 34, 94, 94, 60, 98, 62, 99]⟩, ⟨#[60, 97, 62, 98]⟩, ⟨#[34, 97, 34, 98]⟩, ⟨#[34, 97, 92, 34]⟩, ⟨#[34, 97, 92, 92, 34]⟩, ⟨#[60, 92, 117, 48, 48, 50, 48, 62]⟩, ⟨#[60, 92, 117, 48, 48, 51, 99, 62]⟩, ⟨#[60, 92, 117, 48, 48, 51, 67, 62]⟩, ⟨#[60, 92, 117, 48, 48, 52, 49, 62]⟩, ⟨#[60, 92, 85, 48, 48, 48, 48, 48, 48, 50, 48, 62]⟩, ⟨#[34, 92, 116, 34]⟩, ⟨#[34, 92, 117, 48, 48, 50, 48, 34]⟩, ⟨#[34, 92, 110, 92, 114, 34]⟩, ⟨#[95, 58, 97, 46]⟩, ⟨#[95, 58, 97, 46, 98]⟩, ⟨#[34, 97, 34, 94, 94, 60, 104, 116, 116, 112, 58, 47, 47, 119, 119, 119, 46, 119, 51, 46, 111, 114, 103, 47, 50, 48, 48, 49, 47, 88, 77, 76, 83, 99, 104, 101, 109, 97, 35, 115, 116, 114, 105, 110, 103, 62]⟩, ⟨#[34, 97, 34, 94, 94, 60, 104, 116, 116, 112, 58, 47, 47, 119, 119, 119, 46, 119, 51, 46, 111, 114, 103, 47, 50, 48, 48, 49, 47, 88, 77, 76, 83, 99, 104, 101, 109, 97, 35, 115, 116, 114, 105, 110, 62]⟩, ⟨#[60, 92, 117, 48, 48, 62]⟩, ⟨#[60, 92]⟩]
theorem rows32_sz : ∀ s ∈ rows32, s.size ≤ 100 := by decide
theorem enc_sz : ∀ k : Fin 300, (Utf8.encode (k.val : Int)).size ≤ 10 := by decide +kernel
theorem cat2 {a b : ByteArray} (ha : a.size ≤ 100) (hb : b.size ≤ 10000) : (a ++ b).size ≤ 1000000 := by rw [ByteArray.size_append]; omega
theorem cat2' {a b : ByteArray} (ha : a.size ≤ 10000) (hb : b.size ≤ 100) : (a ++ b).size ≤ 1000000 := by rw [ByteArray.size_append]; omega
theorem cat3 {a b c : ByteArray} (ha : a.size ≤ 100) (hb : b.size ≤ 10000) (hc : c.size ≤ 100) : (a ++ b ++ c).size ≤ 1000000 := by rw [ByteArray.size_append, ByteArray.size_append]; omega
theorem u8_wrap {k : Nat} (h1 : 255 < k) (h2 : k < 300) : IntKind.u8.wrap (k : Int) = (k : Int) - 256 := by rw [IntKind.wrap_u8]; omega
theorem conv1' (wr : World) (z : Int) : (convert 47 9 (.slice (some ⟨wr.heap.size, 0, none⟩) 1 1)).run Tryz.prog (wr.alloc (.cells #[.int .u8 z] 5)) = .ok (.string (strOfNums [z])) (wr.alloc (.cells #[.int .u8 z] 5)) :=
  run_convert_bytes_arg _ _ 5 Tryz.underlying47 Tryz.underlying5 wr.heap.size 0 1 1 [z] rfl (by
    intro i hi
    obtain rfl : i = 0 := by omega
    show (wr.alloc _).cell? ⟨wr.heap.size, 0 + 0, none⟩ = _
    rw [World.cell?, heap_alloc_new]
    rfl) _ Tryz.underlying9
set_option maxHeartbeats 16000000 in
set_option maxRecDepth 100000 in
theorem lawTermEnds (w : World) (hX : CtxT w ∧ ErrB w) :
    Calls Tryz.prog 8 #[] w fun e w' => e = .returned (.bool true) ∧ Below w.heap.size w w' := by
  have hTe := fun (t u : Tm) (ht : hugeT t) (hu : hugeT u) W (hb : Below w.heap.size w W) => tells_walk t u W (hX.1.step hb) ht hu
  have hTr := fun (a b : Tp) (ha : hugeTp a) (hb' : hugeTp b) W (hb : Below w.heap.size w W) => triples_walk a b W (hX.1.step hb) ha hb'
  have hRd := fun (z : ByteArray) (hz : z.size ≤ 1000000) W (hb : Below w.heap.size w W) => lawReads1 z W (hX.1.step hb) (hX.2.step hb) hz
  have hAw := fun W (hb : Below w.heap.size w W) => lawAwake W (hX.1.step hb)
  have HTe := Lib.hid hTe
  have HTr := Lib.hid hTr
  have HRd := Lib.hid hRd
  have HAw := Lib.hid hAw
  clear hTe hTr hRd hAw hX
  go_enter Tryz.func8, Tryz.ntmps8
  go_wp2
  go_loopw [1] (fun i wr => ∃ k : Nat, k ≤ 300 ∧ i = .int .i64 k ∧ Below w.heap.size w wr) (fun i _ => 300 - (intOf i).toNat)
  case atStart => exact ⟨0, by omega, rfl, Below.refl _ _⟩
  case round =>
    obtain ⟨k, hk, rfl, hB⟩ := hrel
    by_cases hlt : k < 300
    · have hd1 : decide ((k : Int) < 300) = true := by simp; omega
      obtain ⟨wr1, rfl⟩ : ∃ wk, wk = wr := ⟨_, rfl⟩
      have HB := Lib.hid hB
      clear hB
      go_upto_region 4 with fail
      go_cut [2] from 18 to 20 (fun v wx => v = .string (Utf8.encode (k : Int)) ∧ wx = wr1)
      case first =>
        go_wp2
        go_meet
        case rel => exact ⟨rfl, rfl⟩
      case rest =>
        obtain ⟨rfl, hwx⟩ := hcut
        replace hwx := hwx.symm
        subst hwx
        apply_assumption
        refine wp_seq_k ?_
        intro K5 hK5
        go_cut [2] from 21 to 26 (fun v wx => ∃ s : ByteArray, v = .string s ∧ s.size ≤ 10 ∧ Below wr1.heap.size wr1 wx)
        case first =>
          by_cases hb : 255 < k
          · have hw := u8_wrap hb hlt
            have hcv := conv1' wr1 ((k : Int) - 256)
            go_wp2
            go_meet
            case rel => exact ⟨_, rfl, by simp [strOfNums, ByteArray.size], (by repeat (first | exact Below.refl _ _ | assumption | exact (Below.refl _ _).alloc (Nat.le_refl _) _ | refine below_tr ?_ (by assumption) | refine below_alloc ?_ | refine below_tr ?_ (below_regrown _ _ _)))⟩
          · go_wp2
            go_meet
            case rel => exact ⟨_, rfl, enc_sz ⟨k, hlt⟩, Below.refl _ _⟩
        case rest =>
          obtain ⟨s, rfl, hs, hb2⟩ := hcut
          have HB2 := Lib.hid (below_tr HB.out hb2)
          clear HB hb2
          apply_assumption
          have hsz : s.size ≤ 10000 := by omega
          obtain ⟨t0, z0, c0⟩ := ex_iri (⟨#[97]⟩ ++ s) (cat2 (by decide) hsz)
          obtain ⟨t1, z1, c1⟩ := ex_blank (s ++ ⟨#[97]⟩) (cat2' hsz (by decide))
          obtain ⟨t2, z2, c2⟩ := ex_blank (⟨#[97]⟩ ++ s) (cat2 (by decide) hsz)
          obtain ⟨t3, z3, c3⟩ := ex_lit (s ++ ⟨#[98]⟩) (cat2' hsz (by decide))
          obtain ⟨t4, z4, c4⟩ := ex_tag ⟨#[120]⟩ (⟨#[101]⟩ ++ s ++ ⟨#[110]⟩) (by decide) (cat3 (by decide) hsz (by decide))
          obtain ⟨t5, z5, c5⟩ := ex_typed s ⟨#[116]⟩ (by omega) (by decide)
          obtain ⟨t6, z6, c6⟩ := ex_typed ⟨#[116]⟩ s (by decide) (by omega)
          have HBc := HB2
          have ZZ := Lib.hid (And.intro z0 (And.intro z1 (And.intro z2 (And.intro z3 (And.intro z4 (And.intro z5 z6))))))
          clear HB2 z0 z1 z2 z3 z4 z5 z6
          go_upto_region 8 with (first
            | (go_at_call 27; with_reducible refine (c0 _).mono ?_; rintro e V ⟨rfl, bv⟩; have hx := below_tr HBc.out bv; clear HBc; have HBc := Lib.hid hx; clear hx bv)
            | (go_at_call 28; with_reducible refine (c1 _).mono ?_; rintro e V ⟨rfl, bv⟩; have hx := below_tr HBc.out bv; clear HBc; have HBc := Lib.hid hx; clear hx bv)
            | (go_at_call 28; with_reducible refine (c2 _).mono ?_; rintro e V ⟨rfl, bv⟩; have hx := below_tr HBc.out bv; clear HBc; have HBc := Lib.hid hx; clear hx bv)
            | (go_at_call 29; with_reducible refine (c3 _).mono ?_; rintro e V ⟨rfl, bv⟩; have hx := below_tr HBc.out bv; clear HBc; have HBc := Lib.hid hx; clear hx bv)
            | (go_at_call 23; with_reducible refine (c4 _).mono ?_; rintro e V ⟨rfl, bv⟩; have hx := below_tr HBc.out bv; clear HBc; have HBc := Lib.hid hx; clear hx bv)
            | (go_at_call 25; with_reducible refine (c5 _).mono ?_; rintro e V ⟨rfl, bv⟩; have hx := below_tr HBc.out bv; clear HBc; have HBc := Lib.hid hx; clear hx bv)
            | (go_at_call 25; with_reducible refine (c6 _).mono ?_; rintro e V ⟨rfl, bv⟩; have hx := below_tr HBc.out bv; clear HBc; have HBc := Lib.hid hx; clear hx bv))
          have al : Below V.heap.size V (V.alloc (.cells #[.int .i64 t0.k, .string t0.x, .string t0.l, .string t0.y, .int .i64 t1.k, .string t1.x, .string t1.l, .string t1.y, .int .i64 t2.k, .string t2.x, .string t2.l, .string t2.y, .int .i64 t3.k, .string t3.x, .string t3.l, .string t3.y, .int .i64 t4.k, .string t4.x, .string t4.l, .string t4.y, .int .i64 t5.k, .string t5.x, .string t5.l, .string t5.y, .int .i64 t6.k, .string t6.x, .string t6.l, .string t6.y] 24)) := (Below.refl _ _).alloc (Nat.le_refl _) _
          have hg := heap_alloc_new V (.cells #[.int .i64 t0.k, .string t0.x, .string t0.l, .string t0.y, .int .i64 t1.k, .string t1.x, .string t1.l, .string t1.y, .int .i64 t2.k, .string t2.x, .string t2.l, .string t2.y, .int .i64 t3.k, .string t3.x, .string t3.l, .string t3.y, .int .i64 t4.k, .string t4.x, .string t4.l, .string t4.y, .int .i64 t5.k, .string t5.x, .string t5.l, .string t5.y, .int .i64 t6.k, .string t6.x, .string t6.l, .string t6.y] 24)
          have hBd := below_tr HBc.out al
          generalize V.alloc (.cells #[.int .i64 t0.k, .string t0.x, .string t0.l, .string t0.y, .int .i64 t1.k, .string t1.x, .string t1.l, .string t1.y, .int .i64 t2.k, .string t2.x, .string t2.l, .string t2.y, .int .i64 t3.k, .string t3.x, .string t3.l, .string t3.y, .int .i64 t4.k, .string t4.x, .string t4.l, .string t4.y, .int .i64 t5.k, .string t5.x, .string t5.l, .string t5.y, .int .i64 t6.k, .string t6.x, .string t6.l, .string t6.y] 24) = V0 at *
          obtain ⟨g, hgv⟩ : ∃ g, V.heap.size = g := ⟨_, rfl⟩
          rw [hgv] at hg ⊢
          have HG := Lib.hid hg
          have HBd := Lib.hid hBd
          have Hgl : Hid (g < V0.heap.size) := (Array.getElem?_eq_some_iff.1 hg).1
          clear HBc al hg hBd hgv c0 c1 c2 c3 c4 c5 c6
          go_wp2
          go_loopw [4] (fun i wx => ∃ z : Int, 0 ≤ z ∧ z ≤ 7 ∧ i = .int .i64 z ∧ Below V0.heap.size V0 wx) (fun i _ => 7 - (intOf i).toNat)
          case atStart => exact ⟨0, by omega, by omega, rfl, Below.refl _ _⟩
          case round =>
            obtain ⟨z, hz0, hz1, rfl, hB⟩ := hrel
            obtain ⟨wv, rfl⟩ : ∃ wk, wk = wr := ⟨_, rfl⟩
            have hgr : wv.heap[g]? = some (.cells #[.int .i64 t0.k, .string t0.x, .string t0.l, .string t0.y, .int .i64 t1.k, .string t1.x, .string t1.l, .string t1.y, .int .i64 t2.k, .string t2.x, .string t2.l, .string t2.y, .int .i64 t3.k, .string t3.x, .string t3.l, .string t3.y, .int .i64 t4.k, .string t4.x, .string t4.l, .string t4.y, .int .i64 t5.k, .string t5.x, .string t5.l, .string t5.y, .int .i64 t6.k, .string t6.x, .string t6.l, .string t6.y] 24 (0, 0)) := below_blk hB HG.out
            have HBr := Lib.hid hB
            have hW := below_tr HBd.out hB
            clear hB
            by_cases hz : z < 7
            · clear hz1
              have e0 : wv.cell? ⟨g, 0, none⟩ = some (.int .i64 t0.k) := cells_at hgr 0 rfl
              have e1 : wv.cell? ⟨g, 1, none⟩ = some (.string t0.x) := cells_at hgr 1 rfl
              have e2 : wv.cell? ⟨g, 2, none⟩ = some (.string t0.l) := cells_at hgr 2 rfl
              have e3 : wv.cell? ⟨g, 3, none⟩ = some (.string t0.y) := cells_at hgr 3 rfl
              have e4 : wv.cell? ⟨g, 4, none⟩ = some (.int .i64 t1.k) := cells_at hgr 4 rfl
              have e5 : wv.cell? ⟨g, 5, none⟩ = some (.string t1.x) := cells_at hgr 5 rfl
              have e6 : wv.cell? ⟨g, 6, none⟩ = some (.string t1.l) := cells_at hgr 6 rfl
              have e7 : wv.cell? ⟨g, 7, none⟩ = some (.string t1.y) := cells_at hgr 7 rfl
              have e8 : wv.cell? ⟨g, 8, none⟩ = some (.int .i64 t2.k) := cells_at hgr 8 rfl
              have e9 : wv.cell? ⟨g, 9, none⟩ = some (.string t2.x) := cells_at hgr 9 rfl
              have e10 : wv.cell? ⟨g, 10, none⟩ = some (.string t2.l) := cells_at hgr 10 rfl
              have e11 : wv.cell? ⟨g, 11, none⟩ = some (.string t2.y) := cells_at hgr 11 rfl
              have e12 : wv.cell? ⟨g, 12, none⟩ = some (.int .i64 t3.k) := cells_at hgr 12 rfl
              have e13 : wv.cell? ⟨g, 13, none⟩ = some (.string t3.x) := cells_at hgr 13 rfl
              have e14 : wv.cell? ⟨g, 14, none⟩ = some (.string t3.l) := cells_at hgr 14 rfl
              have e15 : wv.cell? ⟨g, 15, none⟩ = some (.string t3.y) := cells_at hgr 15 rfl
              have e16 : wv.cell? ⟨g, 16, none⟩ = some (.int .i64 t4.k) := cells_at hgr 16 rfl
              have e17 : wv.cell? ⟨g, 17, none⟩ = some (.string t4.x) := cells_at hgr 17 rfl
              have e18 : wv.cell? ⟨g, 18, none⟩ = some (.string t4.l) := cells_at hgr 18 rfl
              have e19 : wv.cell? ⟨g, 19, none⟩ = some (.string t4.y) := cells_at hgr 19 rfl
              have e20 : wv.cell? ⟨g, 20, none⟩ = some (.int .i64 t5.k) := cells_at hgr 20 rfl
              have e21 : wv.cell? ⟨g, 21, none⟩ = some (.string t5.x) := cells_at hgr 21 rfl
              have e22 : wv.cell? ⟨g, 22, none⟩ = some (.string t5.l) := cells_at hgr 22 rfl
              have e23 : wv.cell? ⟨g, 23, none⟩ = some (.string t5.y) := cells_at hgr 23 rfl
              have e24 : wv.cell? ⟨g, 24, none⟩ = some (.int .i64 t6.k) := cells_at hgr 24 rfl
              have e25 : wv.cell? ⟨g, 25, none⟩ = some (.string t6.x) := cells_at hgr 25 rfl
              have e26 : wv.cell? ⟨g, 26, none⟩ = some (.string t6.l) := cells_at hgr 26 rfl
              have e27 : wv.cell? ⟨g, 27, none⟩ = some (.string t6.y) := cells_at hgr 27 rfl
              have R0 := fun d os => cell_on e0 (below_regrown wv d os)
              have R1 := fun d os => cell_on e1 (below_regrown wv d os)
              have R2 := fun d os => cell_on e2 (below_regrown wv d os)
              have R3 := fun d os => cell_on e3 (below_regrown wv d os)
              have R4 := fun d os => cell_on e4 (below_regrown wv d os)
              have R5 := fun d os => cell_on e5 (below_regrown wv d os)
              have R6 := fun d os => cell_on e6 (below_regrown wv d os)
              have R7 := fun d os => cell_on e7 (below_regrown wv d os)
              have R8 := fun d os => cell_on e8 (below_regrown wv d os)
              have R9 := fun d os => cell_on e9 (below_regrown wv d os)
              have R10 := fun d os => cell_on e10 (below_regrown wv d os)
              have R11 := fun d os => cell_on e11 (below_regrown wv d os)
              have R12 := fun d os => cell_on e12 (below_regrown wv d os)
              have R13 := fun d os => cell_on e13 (below_regrown wv d os)
              have R14 := fun d os => cell_on e14 (below_regrown wv d os)
              have R15 := fun d os => cell_on e15 (below_regrown wv d os)
              have R16 := fun d os => cell_on e16 (below_regrown wv d os)
              have R17 := fun d os => cell_on e17 (below_regrown wv d os)
              have R18 := fun d os => cell_on e18 (below_regrown wv d os)
              have R19 := fun d os => cell_on e19 (below_regrown wv d os)
              have R20 := fun d os => cell_on e20 (below_regrown wv d os)
              have R21 := fun d os => cell_on e21 (below_regrown wv d os)
              have R22 := fun d os => cell_on e22 (below_regrown wv d os)
              have R23 := fun d os => cell_on e23 (below_regrown wv d os)
              have R24 := fun d os => cell_on e24 (below_regrown wv d os)
              have R25 := fun d os => cell_on e25 (below_regrown wv d os)
              have R26 := fun d os => cell_on e26 (below_regrown wv d os)
              have R27 := fun d os => cell_on e27 (below_regrown wv d os)
              clear hgr
              rcases (by omega : z = 0 ∨ z = 1 ∨ z = 2 ∨ z = 3 ∨ z = 4 ∨ z = 5 ∨ z = 6) with rfl | rfl | rfl | rfl | rfl | rfl | rfl
              · go_wp2
                refine wp_region_quiet_below (by kernel_rfl) (by kernel_rfl) ?_; (repeat (any_goals (go_big_quiet_step ((first | (go_at_call 5; with_reducible exact Calls.regrown_of (HTe.out t0 t1 ZZ.out.1 ZZ.out.2.1 _ (below_tr hW (below_regrown _ _ _)))) | (go_at_call 4; with_reducible exact Calls.regrown_of (HTr.out ⟨t0, t0, t2⟩ ⟨t0, t0, t3⟩ (hugeTp_mk ZZ.out.1 ZZ.out.1 ZZ.out.2.2.1) (hugeTp_mk ZZ.out.1 ZZ.out.1 ZZ.out.2.2.2.1) _ (below_tr hW (below_regrown _ _ _))))))))); all_goals (refine wpQuiet_nil ?_; intro _ hw9; obtain ⟨⟨d9, os9⟩, hw8⟩ := hw9; subst hw8)
                go_wp2
                go_roundw
                case rel => exact ⟨1, by omega, by omega, rfl, below_tr HBr.out (below_regrown _ _ _)⟩
                case measure => simp [intOf]
              · go_wp2
                refine wp_region_quiet_below (by kernel_rfl) (by kernel_rfl) ?_; (repeat (any_goals (go_big_quiet_step ((first | (go_at_call 5; with_reducible exact Calls.regrown_of (HTe.out t1 t2 ZZ.out.2.1 ZZ.out.2.2.1 _ (below_tr hW (below_regrown _ _ _)))) | (go_at_call 4; with_reducible exact Calls.regrown_of (HTr.out ⟨t1, t0, t3⟩ ⟨t0, t1, t3⟩ (hugeTp_mk ZZ.out.2.1 ZZ.out.1 ZZ.out.2.2.2.1) (hugeTp_mk ZZ.out.1 ZZ.out.2.1 ZZ.out.2.2.2.1) _ (below_tr hW (below_regrown _ _ _))))))))); all_goals (refine wpQuiet_nil ?_; intro _ hw9; obtain ⟨⟨d9, os9⟩, hw8⟩ := hw9; subst hw8)
                go_wp2
                go_roundw
                case rel => exact ⟨2, by omega, by omega, rfl, below_tr HBr.out (below_regrown _ _ _)⟩
                case measure => simp [intOf]
              · go_wp2
                refine wp_region_quiet_below (by kernel_rfl) (by kernel_rfl) ?_; (repeat (any_goals (go_big_quiet_step ((first | (go_at_call 5; with_reducible exact Calls.regrown_of (HTe.out t2 t3 ZZ.out.2.2.1 ZZ.out.2.2.2.1 _ (below_tr hW (below_regrown _ _ _)))) | (go_at_call 4; with_reducible exact Calls.regrown_of (HTr.out ⟨t2, t0, t4⟩ ⟨t0, t2, t3⟩ (hugeTp_mk ZZ.out.2.2.1 ZZ.out.1 ZZ.out.2.2.2.2.1) (hugeTp_mk ZZ.out.1 ZZ.out.2.2.1 ZZ.out.2.2.2.1) _ (below_tr hW (below_regrown _ _ _))))))))); all_goals (refine wpQuiet_nil ?_; intro _ hw9; obtain ⟨⟨d9, os9⟩, hw8⟩ := hw9; subst hw8)
                go_wp2
                go_roundw
                case rel => exact ⟨3, by omega, by omega, rfl, below_tr HBr.out (below_regrown _ _ _)⟩
                case measure => simp [intOf]
              · go_wp2
                refine wp_region_quiet_below (by kernel_rfl) (by kernel_rfl) ?_; (repeat (any_goals (go_big_quiet_step ((first | (go_at_call 5; with_reducible exact Calls.regrown_of (HTe.out t3 t4 ZZ.out.2.2.2.1 ZZ.out.2.2.2.2.1 _ (below_tr hW (below_regrown _ _ _)))) | (go_at_call 4; with_reducible exact Calls.regrown_of (HTr.out ⟨t3, t0, t5⟩ ⟨t0, t3, t3⟩ (hugeTp_mk ZZ.out.2.2.2.1 ZZ.out.1 ZZ.out.2.2.2.2.2.1) (hugeTp_mk ZZ.out.1 ZZ.out.2.2.2.1 ZZ.out.2.2.2.1) _ (below_tr hW (below_regrown _ _ _))))))))); all_goals (refine wpQuiet_nil ?_; intro _ hw9; obtain ⟨⟨d9, os9⟩, hw8⟩ := hw9; subst hw8)
                go_wp2
                go_roundw
                case rel => exact ⟨4, by omega, by omega, rfl, below_tr HBr.out (below_regrown _ _ _)⟩
                case measure => simp [intOf]
              · go_wp2
                refine wp_region_quiet_below (by kernel_rfl) (by kernel_rfl) ?_; (repeat (any_goals (go_big_quiet_step ((first | (go_at_call 5; with_reducible exact Calls.regrown_of (HTe.out t4 t5 ZZ.out.2.2.2.2.1 ZZ.out.2.2.2.2.2.1 _ (below_tr hW (below_regrown _ _ _)))) | (go_at_call 4; with_reducible exact Calls.regrown_of (HTr.out ⟨t4, t0, t6⟩ ⟨t0, t4, t3⟩ (hugeTp_mk ZZ.out.2.2.2.2.1 ZZ.out.1 ZZ.out.2.2.2.2.2.2) (hugeTp_mk ZZ.out.1 ZZ.out.2.2.2.2.1 ZZ.out.2.2.2.1) _ (below_tr hW (below_regrown _ _ _))))))))); all_goals (refine wpQuiet_nil ?_; intro _ hw9; obtain ⟨⟨d9, os9⟩, hw8⟩ := hw9; subst hw8)
                go_wp2
                go_roundw
                case rel => exact ⟨5, by omega, by omega, rfl, below_tr HBr.out (below_regrown _ _ _)⟩
                case measure => simp [intOf]
              · go_wp2
                refine wp_region_quiet_below (by kernel_rfl) (by kernel_rfl) ?_; (repeat (any_goals (go_big_quiet_step ((first | (go_at_call 5; with_reducible exact Calls.regrown_of (HTe.out t5 t6 ZZ.out.2.2.2.2.2.1 ZZ.out.2.2.2.2.2.2 _ (below_tr hW (below_regrown _ _ _)))) | (go_at_call 4; with_reducible exact Calls.regrown_of (HTr.out ⟨t5, t0, t0⟩ ⟨t0, t5, t3⟩ (hugeTp_mk ZZ.out.2.2.2.2.2.1 ZZ.out.1 ZZ.out.1) (hugeTp_mk ZZ.out.1 ZZ.out.2.2.2.2.2.1 ZZ.out.2.2.2.1) _ (below_tr hW (below_regrown _ _ _))))))))); all_goals (refine wpQuiet_nil ?_; intro _ hw9; obtain ⟨⟨d9, os9⟩, hw8⟩ := hw9; subst hw8)
                go_wp2
                go_roundw
                case rel => exact ⟨6, by omega, by omega, rfl, below_tr HBr.out (below_regrown _ _ _)⟩
                case measure => simp [intOf]
              · go_wp2
                refine wp_region_quiet_below (by kernel_rfl) (by kernel_rfl) ?_; (repeat (any_goals (go_big_quiet_step ((first | (go_at_call 5; with_reducible exact Calls.regrown_of (HTe.out t6 t0 ZZ.out.2.2.2.2.2.2 ZZ.out.1 _ (below_tr hW (below_regrown _ _ _)))) | (go_at_call 4; with_reducible exact Calls.regrown_of (HTr.out ⟨t6, t0, t1⟩ ⟨t0, t6, t3⟩ (hugeTp_mk ZZ.out.2.2.2.2.2.2 ZZ.out.1 ZZ.out.2.1) (hugeTp_mk ZZ.out.1 ZZ.out.2.2.2.2.2.2 ZZ.out.2.2.2.1) _ (below_tr hW (below_regrown _ _ _))))))))); all_goals (refine wpQuiet_nil ?_; intro _ hw9; obtain ⟨⟨d9, os9⟩, hw8⟩ := hw9; subst hw8)
                go_wp2
                go_roundw
                case rel => exact ⟨7, by omega, by omega, rfl, below_tr HBr.out (below_regrown _ _ _)⟩
                case measure => simp [intOf]
            · obtain rfl : z = 7 := by omega
              have HBc := Lib.hid hW
              clear hW HBr hz hz0 hz1 hgr
              go_wp2_with (go_at_call 30; with_reducible refine (HRd.out _ (by first | exact cat3 (by decide) hsz (by decide) | exact cat2 (by decide) hsz | exact cat2' hsz (by decide)) _ HBc.out).mono ?_; rintro e V ⟨rfl, bv⟩; have hx := below_tr HBc.out bv; clear HBc; have HBc := Lib.hid hx; clear hx bv)
              go_roundw
              case rel => exact ⟨k + 1, by omega, by go_num, HBc.out⟩
              case measure => simp [intOf]; omega
    · obtain rfl : k = 300 := by omega
      have HBc := Lib.hid hB
      clear hB hlt hk
      have hrd : Rd (wr.alloc (.cells #[.string ⟨#[]⟩, .string ⟨#[60]⟩, .string ⟨#[60, 62]⟩, .string ⟨#[34]⟩, .string ⟨#[34, 34]⟩, .string ⟨#[95, 58]⟩, .string ⟨#[95]⟩, .string ⟨#[34, 97, 34, 64]⟩, .string ⟨#[34, 97, 34, 64, 101, 110, 45]⟩, .string ⟨#[34, 97, 34, 64, 69, 78]⟩, .string ⟨#[34, 97, 34, 94, 94]⟩, .string ⟨#[34, 97, 34, 94, 94, 60]⟩, .string ⟨#[34, 97, 34, 94, 94, 60, 62]⟩, .string ⟨#[34, 97, 34, 94, 94, 60, 98, 62, 99]⟩, .string ⟨#[60, 97, 62, 98]⟩, .string ⟨#[34, 97, 34, 98]⟩, .string ⟨#[34, 97, 92, 34]⟩, .string ⟨#[34, 97, 92, 92, 34]⟩, .string ⟨#[60, 92, 117, 48, 48, 50, 48, 62]⟩, .string ⟨#[60, 92, 117, 48, 48, 51, 99, 62]⟩, .string ⟨#[60, 92, 117, 48, 48, 51, 67, 62]⟩, .string ⟨#[60, 92, 117, 48, 48, 52, 49, 62]⟩, .string ⟨#[60, 92, 85, 48, 48, 48, 48, 48, 48, 50, 48, 62]⟩, .string ⟨#[34, 92, 116, 34]⟩, .string ⟨#[34, 92, 117, 48, 48, 50, 48, 34]⟩, .string ⟨#[34, 92, 110, 92, 114, 34]⟩, .string ⟨#[95, 58, 97, 46]⟩, .string ⟨#[95, 58, 97, 46, 98]⟩, .string ⟨#[34, 97, 34, 94, 94, 60, 104, 116, 116, 112, 58, 47, 47, 119, 119, 119, 46, 119, 51, 46, 111, 114, 103, 47, 50, 48, 48, 49, 47, 88, 77, 76, 83, 99, 104, 101, 109, 97, 35, 115, 116, 114, 105, 110, 103, 62]⟩, .string ⟨#[34, 97, 34, 94, 94, 60, 104, 116, 116, 112, 58, 47, 47, 119, 119, 119, 46, 119, 51, 46, 111, 114, 103, 47, 50, 48, 48, 49, 47, 88, 77, 76, 83, 99, 104, 101, 109, 97, 35, 115, 116, 114, 105, 110, 62]⟩, .string ⟨#[60, 92, 117, 48, 48, 62]⟩, .string ⟨#[60, 92]⟩] 9)) (some ⟨wr.heap.size, 0, none⟩) (rows32.map Value.string) := Rd.of_block (heap_alloc_new wr _) rfl
      have hBa : Below w.heap.size w (wr.alloc (.cells #[.string ⟨#[]⟩, .string ⟨#[60]⟩, .string ⟨#[60, 62]⟩, .string ⟨#[34]⟩, .string ⟨#[34, 34]⟩, .string ⟨#[95, 58]⟩, .string ⟨#[95]⟩, .string ⟨#[34, 97, 34, 64]⟩, .string ⟨#[34, 97, 34, 64, 101, 110, 45]⟩, .string ⟨#[34, 97, 34, 64, 69, 78]⟩, .string ⟨#[34, 97, 34, 94, 94]⟩, .string ⟨#[34, 97, 34, 94, 94, 60]⟩, .string ⟨#[34, 97, 34, 94, 94, 60, 62]⟩, .string ⟨#[34, 97, 34, 94, 94, 60, 98, 62, 99]⟩, .string ⟨#[60, 97, 62, 98]⟩, .string ⟨#[34, 97, 34, 98]⟩, .string ⟨#[34, 97, 92, 34]⟩, .string ⟨#[34, 97, 92, 92, 34]⟩, .string ⟨#[60, 92, 117, 48, 48, 50, 48, 62]⟩, .string ⟨#[60, 92, 117, 48, 48, 51, 99, 62]⟩, .string ⟨#[60, 92, 117, 48, 48, 51, 67, 62]⟩, .string ⟨#[60, 92, 117, 48, 48, 52, 49, 62]⟩, .string ⟨#[60, 92, 85, 48, 48, 48, 48, 48, 48, 50, 48, 62]⟩, .string ⟨#[34, 92, 116, 34]⟩, .string ⟨#[34, 92, 117, 48, 48, 50, 48, 34]⟩, .string ⟨#[34, 92, 110, 92, 114, 34]⟩, .string ⟨#[95, 58, 97, 46]⟩, .string ⟨#[95, 58, 97, 46, 98]⟩, .string ⟨#[34, 97, 34, 94, 94, 60, 104, 116, 116, 112, 58, 47, 47, 119, 119, 119, 46, 119, 51, 46, 111, 114, 103, 47, 50, 48, 48, 49, 47, 88, 77, 76, 83, 99, 104, 101, 109, 97, 35, 115, 116, 114, 105, 110, 103, 62]⟩, .string ⟨#[34, 97, 34, 94, 94, 60, 104, 116, 116, 112, 58, 47, 47, 119, 119, 119, 46, 119, 51, 46, 111, 114, 103, 47, 50, 48, 48, 49, 47, 88, 77, 76, 83, 99, 104, 101, 109, 97, 35, 115, 116, 114, 105, 110, 62]⟩, .string ⟨#[60, 92, 117, 48, 48, 62]⟩, .string ⟨#[60, 92]⟩] 9)) := below_tr HBc.out ((Below.refl _ _).alloc (Nat.le_refl _) _)
      obtain ⟨V1, hV1⟩ : ∃ V, wr.alloc (.cells #[.string ⟨#[]⟩, .string ⟨#[60]⟩, .string ⟨#[60, 62]⟩, .string ⟨#[34]⟩, .string ⟨#[34, 34]⟩, .string ⟨#[95, 58]⟩, .string ⟨#[95]⟩, .string ⟨#[34, 97, 34, 64]⟩, .string ⟨#[34, 97, 34, 64, 101, 110, 45]⟩, .string ⟨#[34, 97, 34, 64, 69, 78]⟩, .string ⟨#[34, 97, 34, 94, 94]⟩, .string ⟨#[34, 97, 34, 94, 94, 60]⟩, .string ⟨#[34, 97, 34, 94, 94, 60, 62]⟩, .string ⟨#[34, 97, 34, 94, 94, 60, 98, 62, 99]⟩, .string ⟨#[60, 97, 62, 98]⟩, .string ⟨#[34, 97, 34, 98]⟩, .string ⟨#[34, 97, 92, 34]⟩, .string ⟨#[34, 97, 92, 92, 34]⟩, .string ⟨#[60, 92, 117, 48, 48, 50, 48, 62]⟩, .string ⟨#[60, 92, 117, 48, 48, 51, 99, 62]⟩, .string ⟨#[60, 92, 117, 48, 48, 51, 67, 62]⟩, .string ⟨#[60, 92, 117, 48, 48, 52, 49, 62]⟩, .string ⟨#[60, 92, 85, 48, 48, 48, 48, 48, 48, 50, 48, 62]⟩, .string ⟨#[34, 92, 116, 34]⟩, .string ⟨#[34, 92, 117, 48, 48, 50, 48, 34]⟩, .string ⟨#[34, 92, 110, 92, 114, 34]⟩, .string ⟨#[95, 58, 97, 46]⟩, .string ⟨#[95, 58, 97, 46, 98]⟩, .string ⟨#[34, 97, 34, 94, 94, 60, 104, 116, 116, 112, 58, 47, 47, 119, 119, 119, 46, 119, 51, 46, 111, 114, 103, 47, 50, 48, 48, 49, 47, 88, 77, 76, 83, 99, 104, 101, 109, 97, 35, 115, 116, 114, 105, 110, 103, 62]⟩, .string ⟨#[34, 97, 34, 94, 94, 60, 104, 116, 116, 112, 58, 47, 47, 119, 119, 119, 46, 119, 51, 46, 111, 114, 103, 47, 50, 48, 48, 49, 47, 88, 77, 76, 83, 99, 104, 101, 109, 97, 35, 115, 116, 114, 105, 110, 62]⟩, .string ⟨#[60, 92, 117, 48, 48, 62]⟩, .string ⟨#[60, 92]⟩] 9) = V := ⟨_, rfl⟩
      rw [hV1] at hrd hBa
      have HRr := Lib.hid hrd
      have HBa := Lib.hid hBa
      clear hrd hBa HBc
      rw [show ((300 : Nat) : Int) = 300 from rfl]
      go_upto_region 16 with fail
      clear hV1
      generalize wr.heap.size = gr at *
      go_wp2
      go_loopw [6] (fun i wx => ∃ j : Nat, j ≤ 32 ∧ i = .int .i64 j ∧ Below V1.heap.size V1 wx) (fun i _ => 32 - (intOf i).toNat)
      case atStart => exact ⟨0, by omega, rfl, Below.refl _ _⟩
      case round =>
        obtain ⟨j, hj, rfl, hB⟩ := hrel
        obtain ⟨wj, rfl⟩ : ∃ wk, wk = wr := ⟨_, rfl⟩
        by_cases hlj : j < 32
        · have hd2 : decide ((j : Int) < 32) = true := by simp; omega
          obtain ⟨s, hs⟩ : ∃ s, rows32[j]? = some s := ⟨_, List.getElem?_eq_getElem (by show j < 32; exact hlj)⟩
          have hss : s.size ≤ 100 := rows32_sz s (List.mem_of_getElem? hs)
          have hsz : s.size ≤ 10000 := by omega
          obtain ⟨gq, oq, heq, a1⟩ := (HRr.out.later hB).at_ (u := .string s) (j := j) (by rw [List.getElem?_map, hs]; rfl)
          cases heq
          rw [Nat.zero_add] at a1
          have hW := below_tr HBa.out hB
          have HBj := Lib.hid hB
          obtain ⟨t0, z0, c0⟩ := ex_typed ⟨#[97]⟩ s (by decide) (by omega)
          obtain ⟨t1, z1, c1⟩ := ex_lit s (by omega)
          have R1 := fun d os => cell_on a1 (below_regrown wj d os)
          have ZZ := Lib.hid (And.intro z0 z1)
          clear hs hB z0 z1 a1
          go_wp2
          refine wp_region_quiet_below (by kernel_rfl) (by kernel_rfl) ?_; (repeat (any_goals (go_big_quiet_step ((first | (go_at_call 30; with_reducible exact Calls.regrown_of (HRd.out _ (by first | exact Nat.le_trans hss (by decide) | exact cat2' hsz (by decide)) _ (below_tr hW (below_regrown _ _ _)))) | (go_at_call 25; with_reducible exact Calls.regrown_of (c0 _)) | (go_at_call 29; with_reducible exact Calls.regrown_of (c1 _)) | (go_at_call 5; with_reducible exact Calls.regrown_of (HTe.out t0 t1 ZZ.out.1 ZZ.out.2 _ (below_tr hW (below_regrown _ _ _))))))))); all_goals (refine wpQuiet_nil ?_; intro _ hw9; obtain ⟨⟨d9, os9⟩, hw8⟩ := hw9; subst hw8)
          have HF := Lib.hid (below_tr HBj.out (below_regrown wj d9 os9))
          go_wp2
          go_roundw
          case rel => exact ⟨j + 1, by omega, by go_num, HF.out⟩
          case measure => simp [intOf]; omega
        · obtain rfl : j = 32 := by omega
          have HBc := Lib.hid (below_tr HBa.out hB)
          clear hB hlj hj HBa HRr
          rw [show ((32 : Nat) : Int) = 32 from rfl]
          go_wp2
          go_loopw [7] (fun i wx => ∃ j : Nat, j ≤ 6 ∧ i = .int .i64 j ∧ Below w.heap.size w wx) (fun i _ => 6 - (intOf i).toNat)
          case atStart => exact ⟨0, by omega, rfl, HBc.out⟩
          case round =>
            obtain ⟨j, hj, rfl, hB⟩ := hrel
            obtain ⟨wq, rfl⟩ : ∃ wk, wk = wr := ⟨_, rfl⟩
            by_cases hlj : j < 6
            · have hd3 : decide ((j : Int) < 6) = true := by simp; omega
              have HBc := Lib.hid (below_tr hB (four_below wq (.cells #[.int .i64 j, .string ⟨#[97]⟩, .string ⟨#[]⟩, .string ⟨#[]⟩] 24) (.cells #[.int .i64 j, .string ⟨#[97]⟩, .string ⟨#[98]⟩, .string ⟨#[]⟩] 24) (.cells #[.int .i64 j, .string ⟨#[97]⟩, .string ⟨#[]⟩, .string ⟨#[99]⟩] 24) (.cells #[.int .i64 j, .string ⟨#[97]⟩, .string ⟨#[98]⟩, .string ⟨#[99]⟩] 24)))
              have HX4 := Lib.hid (four wq (.cells #[.int .i64 j, .string ⟨#[97]⟩, .string ⟨#[]⟩, .string ⟨#[]⟩] 24) (.cells #[.int .i64 j, .string ⟨#[97]⟩, .string ⟨#[98]⟩, .string ⟨#[]⟩] 24) (.cells #[.int .i64 j, .string ⟨#[97]⟩, .string ⟨#[]⟩, .string ⟨#[99]⟩] 24) (.cells #[.int .i64 j, .string ⟨#[97]⟩, .string ⟨#[98]⟩, .string ⟨#[99]⟩] 24))
              obtain ⟨ty, zy, cy⟩ := ex_typed ⟨#[]⟩ ⟨#[104, 116, 116, 112, 58, 47, 47, 119, 119, 119, 46, 119, 51, 46, 111, 114, 103, 47, 50, 48, 48, 49, 47, 88, 77, 76, 83, 99, 104, 101, 109, 97, 35, 115, 116, 114, 105, 110, 103]⟩ (by decide) (by decide)
              have zt : hugeT ⟨j, ⟨#[97]⟩, ⟨#[]⟩, ⟨#[]⟩⟩ := hugeT_of (by decide) (by decide) (by decide)
              have zu : hugeT ⟨j, ⟨#[97]⟩, ⟨#[98]⟩, ⟨#[]⟩⟩ := hugeT_of (by decide) (by decide) (by decide)
              have zv : hugeT ⟨j, ⟨#[97]⟩, ⟨#[]⟩, ⟨#[99]⟩⟩ := hugeT_of (by decide) (by decide) (by decide)
              have zw : hugeT ⟨j, ⟨#[97]⟩, ⟨#[98]⟩, ⟨#[99]⟩⟩ := hugeT_of (by decide) (by decide) (by decide)
              have zx : hugeT ⟨4, ⟨#[]⟩, ⟨#[]⟩, ⟨#[104, 116, 116, 112, 58, 47, 47, 119, 119, 119, 46, 119, 51, 46, 111, 114, 103, 47, 50, 48, 48, 49, 47, 88, 77, 76, 83, 99, 104, 101, 109, 97, 35, 115, 116, 114, 105, 110, 103]⟩⟩ := hugeT_of (by decide) (by decide) (by decide)
              have k1 := HTe.out _ _ zt zu
              have k2 := HTe.out _ _ zu zv
              have k3 := HTe.out _ _ zv zw
              have k4 := HTe.out _ _ zw zt
              have k5 := HTe.out _ _ zy zx
              clear zt zu zv zw zx zy hB
              go_wp2_with (first
                | (go_at_call 5; with_reducible refine (k1 _ HBc.out).mono ?_; rintro e V ⟨rfl, bv⟩; have hA1 := below_blk bv HX4.out.1; have hB1 := below_blk bv HX4.out.2.1; have hC1 := below_blk bv HX4.out.2.2.1; have hD1 := below_blk bv HX4.out.2.2.2; have hx := below_tr HBc.out bv; clear HBc HX4; clear k1 bv; have HBc := Lib.hid hx; clear hx; have xA0 : V.cell? ⟨wq.heap.size, 0, none⟩ = some (.int .i64 j) := cells_at hA1 0 rfl; have xA1 : V.cell? ⟨wq.heap.size, 1, none⟩ = some (.string ⟨#[97]⟩) := cells_at hA1 1 rfl; have xA2 : V.cell? ⟨wq.heap.size, 2, none⟩ = some (.string ⟨#[]⟩) := cells_at hA1 2 rfl; have xA3 : V.cell? ⟨wq.heap.size, 3, none⟩ = some (.string ⟨#[]⟩) := cells_at hA1 3 rfl; have xB0 : V.cell? ⟨wq.heap.size + 1, 0, none⟩ = some (.int .i64 j) := cells_at hB1 0 rfl; have xB1 : V.cell? ⟨wq.heap.size + 1, 1, none⟩ = some (.string ⟨#[97]⟩) := cells_at hB1 1 rfl; have xB2 : V.cell? ⟨wq.heap.size + 1, 2, none⟩ = some (.string ⟨#[98]⟩) := cells_at hB1 2 rfl; have xB3 : V.cell? ⟨wq.heap.size + 1, 3, none⟩ = some (.string ⟨#[]⟩) := cells_at hB1 3 rfl; have xC0 : V.cell? ⟨wq.heap.size + 1 + 1, 0, none⟩ = some (.int .i64 j) := cells_at hC1 0 rfl; have xC1 : V.cell? ⟨wq.heap.size + 1 + 1, 1, none⟩ = some (.string ⟨#[97]⟩) := cells_at hC1 1 rfl; have xC2 : V.cell? ⟨wq.heap.size + 1 + 1, 2, none⟩ = some (.string ⟨#[]⟩) := cells_at hC1 2 rfl; have xC3 : V.cell? ⟨wq.heap.size + 1 + 1, 3, none⟩ = some (.string ⟨#[99]⟩) := cells_at hC1 3 rfl; have xD0 : V.cell? ⟨wq.heap.size + 1 + 1 + 1, 0, none⟩ = some (.int .i64 j) := cells_at hD1 0 rfl; have xD1 : V.cell? ⟨wq.heap.size + 1 + 1 + 1, 1, none⟩ = some (.string ⟨#[97]⟩) := cells_at hD1 1 rfl; have xD2 : V.cell? ⟨wq.heap.size + 1 + 1 + 1, 2, none⟩ = some (.string ⟨#[98]⟩) := cells_at hD1 2 rfl; have xD3 : V.cell? ⟨wq.heap.size + 1 + 1 + 1, 3, none⟩ = some (.string ⟨#[99]⟩) := cells_at hD1 3 rfl; clear hA1 hB1 hC1 hD1)
                | (go_at_call 5; (first | with_reducible refine (k2 _ HBc.out).mono ?_ | with_reducible refine (k3 _ HBc.out).mono ?_ | with_reducible refine (k4 _ HBc.out).mono ?_ | with_reducible refine (k5 _ HBc.out).mono ?_); rintro e V2 ⟨rfl, bv⟩; have hx := below_tr HBc.out bv; replace xA0 := cell_on xA0 bv; replace xA1 := cell_on xA1 bv; replace xA2 := cell_on xA2 bv; replace xA3 := cell_on xA3 bv; replace xB0 := cell_on xB0 bv; replace xB1 := cell_on xB1 bv; replace xB2 := cell_on xB2 bv; replace xB3 := cell_on xB3 bv; replace xC0 := cell_on xC0 bv; replace xC1 := cell_on xC1 bv; replace xC2 := cell_on xC2 bv; replace xC3 := cell_on xC3 bv; replace xD0 := cell_on xD0 bv; replace xD1 := cell_on xD1 bv; replace xD2 := cell_on xD2 bv; replace xD3 := cell_on xD3 bv; clear HBc; clear bv; have HBc := Lib.hid hx; clear hx)
                | (go_at_call 25; with_reducible refine (cy _).mono ?_; rintro e V2 ⟨rfl, bv⟩; have hx := below_tr HBc.out bv; replace xA0 := cell_on xA0 bv; replace xA1 := cell_on xA1 bv; replace xA2 := cell_on xA2 bv; replace xA3 := cell_on xA3 bv; replace xB0 := cell_on xB0 bv; replace xB1 := cell_on xB1 bv; replace xB2 := cell_on xB2 bv; replace xB3 := cell_on xB3 bv; replace xC0 := cell_on xC0 bv; replace xC1 := cell_on xC1 bv; replace xC2 := cell_on xC2 bv; replace xC3 := cell_on xC3 bv; replace xD0 := cell_on xD0 bv; replace xD1 := cell_on xD1 bv; replace xD2 := cell_on xD2 bv; replace xD3 := cell_on xD3 bv; clear HBc; clear bv; have HBc := Lib.hid hx; clear hx))
              go_roundw
              case rel => exact ⟨j + 1, by omega, by go_num, HBc.out⟩
              case measure => simp [intOf]; omega
            · obtain rfl : j = 6 := by omega
              have HBc := Lib.hid hB
              clear hB hlj hj
              rw [show ((6 : Nat) : Int) = 6 from rfl]
              go_wp2
              go_loopw [12] (fun v wx => ∃ z : ByteArray, v = .string z ∧ z.size ≤ 4088 ∧ Below w.heap.size w wx) (fun v _ => 4088 - strSz v)
              case atStart => exact ⟨⟨#[]⟩, rfl, by decide, HBc.out⟩
              case round =>
                obtain ⟨z, rfl, hz, hB⟩ := hrel
                by_cases hzl : z.size < 4088
                · have hd4 : decide ((z.size : Int) < 4088) = true := by simp; omega
                  have HBz := Lib.hid hB
                  clear hB
                  go_wp2
                  go_roundw
                  case rel => exact ⟨z ++ ⟨#[120]⟩, rfl, by rw [ByteArray.size_append]; show z.size + 1 ≤ 4088; omega, HBz.out⟩
                  case measure =>
                    show 4088 - (z ++ ⟨#[120]⟩).size < 4088 - z.size
                    rw [ByteArray.size_append]
                    show 4088 - (z.size + 1) < 4088 - z.size
                    omega
                · have hz2 : z.size = 4088 := by omega
                  have HZ := Lib.hid hz2
                  have HBz := Lib.hid hB
                  have hd4 : decide ((z.size : Int) < 4088) = false := by simp; omega
                  clear hB hz hzl hz2
                  go_wp2
                  go_loopw [12, 13] (fun v i wx => ∃ (q : Nat) (y : ByteArray), v = .string y ∧ y.size = 4088 + q ∧ q ≤ 10 ∧ i = .int .i64 q ∧ Below w.heap.size w wx) (fun _ i _ => 10 - (intOf i).toNat)
                  case atStart => exact ⟨0, z, rfl, HZ.out, by omega, rfl, HBz.out⟩
                  case round =>
                    obtain ⟨q, y, rfl, hy, hq, rfl, hB⟩ := hrel
                    have HY := Lib.hid hy
                    have HBc := Lib.hid hB
                    by_cases hql : q < 10
                    · have hd5 : decide ((q : Int) < 10) = true := by simp; omega
                      have hys : y.size ≤ 10000 := by omega
                      have hy1 : 1 ≤ y.size := by omega
                      have hyx : (y.extract 1 y.size).size ≤ 10000 := by rw [ByteArray.size_extract]; omega
                      obtain ⟨t0, z0, c0⟩ := ex_iri y (by omega)
                      obtain ⟨t1, z1, c1⟩ := ex_lit y (by omega)
                      obtain ⟨t2, z2, c2⟩ := ex_lit (y.extract 1 y.size ++ ⟨#[10]⟩) (cat2' hyx (by decide))
                      obtain ⟨t3, z3, c3⟩ := ex_blank y (by omega)
                      obtain ⟨t4, z4, c4⟩ := ex_typed y ⟨#[]⟩ (by omega) (by decide)
                      have k1 := HTe.out _ _ z0 z1
                      have k2 := HTe.out _ _ z2 z3
                      have k3 := HTe.out _ _ z3 z4
                      clear z0 z1 z2 z3 z4 hy hB
                      go_wp2_with (first
                        | (go_at_call 27; with_reducible refine (c0 _).mono ?_; rintro e V ⟨rfl, bv⟩; have hx := below_tr HBc.out bv; clear HBc; have HBc := Lib.hid hx; clear hx bv)
                        | (go_at_call 29; (first | with_reducible refine (c1 _).mono ?_ | with_reducible refine (c2 _).mono ?_); rintro e V ⟨rfl, bv⟩; have hx := below_tr HBc.out bv; clear HBc; have HBc := Lib.hid hx; clear hx bv)
                        | (go_at_call 28; with_reducible refine (c3 _).mono ?_; rintro e V ⟨rfl, bv⟩; have hx := below_tr HBc.out bv; clear HBc; have HBc := Lib.hid hx; clear hx bv)
                        | (go_at_call 25; with_reducible refine (c4 _).mono ?_; rintro e V ⟨rfl, bv⟩; have hx := below_tr HBc.out bv; clear HBc; have HBc := Lib.hid hx; clear hx bv)
                        | (go_at_call 5; (first | with_reducible refine (k1 _ HBc.out).mono ?_ | with_reducible refine (k2 _ HBc.out).mono ?_ | with_reducible refine (k3 _ HBc.out).mono ?_); rintro e V ⟨rfl, bv⟩; have hx := below_tr HBc.out bv; clear HBc; have HBc := Lib.hid hx; clear hx bv)
                        | (go_at_call 30; with_reducible refine (HRd.out _ (by first | exact cat3 (by decide) hys (by decide) | exact cat2 (by decide) hys) _ HBc.out).mono ?_; rintro e V ⟨rfl, bv⟩; have hx := below_tr HBc.out bv; clear HBc; have HBc := Lib.hid hx; clear hx bv))
                      go_roundw
                      case rel => exact ⟨q + 1, y ++ ⟨#[120]⟩, rfl, by rw [ByteArray.size_append]; have := HY.out; show y.size + 1 = _; omega, by omega, by go_num, HBc.out⟩
                      case measure => simp [intOf]; omega
                    · obtain rfl : q = 10 := by omega
                      clear hq hql hy hB
                      have hA := HAw.out _ HBc.out
                      have hd5 : decide ((10 : Int) < 10) = false := by decide
                      rw [show ((10 : Nat) : Int) = 10 from rfl]
                      go_wp2_with (go_at_call 9; with_reducible refine hA.mono ?_; rintro e V ⟨rfl, bv⟩)
                      go_ret
                      exact ⟨rfl, below_tr HBc.out bv⟩
end Go.Proofs.YtheeklkcaapkbaaGreatDoor
