/- The program's package lex, walked: span. -/
import Derived.Test.YtjigcembbigbnaaDoorJLex6
import Derived.Test.YtjigcembbigbnaaDoorJRegion5
import Derived.Lib.AppendStr
import Derived.Deep.CutRange
namespace Go.Proofs.YtjigcembbigbnaaDoor
open Go Go.RowKit Um Lx

theorem uint8Info : (Tryd.prog.info? 5).map (fun i => (i.zero, i.size, i.bytes)) = some (some (.int .u8 0), 1, 1) := by kernel_rfl
/-- Bytes as numbers. -/
def bI (l : List UInt8) : List Int := l.map fun c => (c.toNat : Int)
theorem strCells_bI (s : ByteArray) : Lib.strCells s = (bI s.data.toList).map (Value.int .u8) := by rw [Lib.strCells_eq]; simp [bI, Lib.byteCells]
set_option maxRecDepth 10000 in
set_option maxHeartbeats 2000000 in
theorem lexSpan (n : Nat) (s : ByteArray) (k b : Nat) (xs : List Int) (hx : xs.length ≤ 4000000) (w0 w : World) (h : RI w0 b s k xs w) (hk : k + n ≤ s.size) (hs : s.size ≤ 1000000) :
    Calls Tryd.prog 26 #[.pointer (some ⟨b, 0, none⟩), .int .i64 n] w fun e w' => e = .returned (.bool (decide (0 < n))) ∧ RI w0 b s (k + n) (xs ++ bI ((from_ s k).take n)) w' := by
  obtain ⟨v, m, c2, own⟩ := h.c2
  have hm : m = xs.length := by have := own.1; simp at this; omega
  have hr := fun W (hW : RI w0 b s k xs W) => lexRest s k b W hW.c0 hW.c1 (by omega)
  obtain ⟨r, hrr⟩ : ∃ r, s.extract k s.size = r := ⟨_, rfl⟩
  have hrl : r.data.toList = from_ s k := by rw [← hrr]; exact rest_toList s k
  have hrz : r.size = s.size - k := by rw [← hrr]; simp [ByteArray.size_extract]
  simp only [hrr] at hr
  have htl : (r.extract 0 n).data.toList = (from_ s k).take n := by rw [extract_toList, List.drop_zero, hrl, Nat.sub_zero]
  have htz : (r.extract 0 n).size = n := by rw [ByteArray.size_extract]; omega
  have hcl : Lib.strCells (r.extract 0 n) = (bI ((from_ s k).take n)).map (Value.int .u8) := by rw [strCells_bI, htl]
  have hle : n ≤ r.size := by omega
  have hn2 : n ≤ 1000000 := by omega
  have hk2 : k ≤ 1000000 := by omega
  obtain ⟨A, c, rfl, hmc, _⟩ := own_slice own
  have H := Lib.hid h
  have Own := Lib.hid own
  have Hm := Lib.hid hm
  have Htz := Lib.hid htz
  have Hcl := Lib.hid hcl
  have hsz := h.size
  have hbl := h.lt
  clear hrr hrl hrz htl htz hcl h own hm
  go_enter Tryd.func26, Tryd.ntmps26
  go_upto_region 1 with (fail)
  go_cut [] from 5 to 18 (fun wx => RI w0 b s k (xs ++ bI ((from_ s k).take n)) wx)
  case first =>
    rename_i hJ hM
    refine Rn.wp_region_st5 w0.heap.size 14 _ [(0, [0, 1, 2, 3, 4, 5, 6, 7, 9]), (1, [8]), (0, [10]), (1, [11]), (0, [12, 13]), (2, [14])] _ (by kernel_rfl) (by kernel_rfl) (by simp only [List.map_cons, List.map_nil, Rg.pickOps, List.getElem?_toArray, List.getElem?_cons_zero, List.getElem?_cons_succ, Option.getD_some]; rfl) ?_ (fun a w h => h)
    intro wd hbd hwz
    have Hd := Lib.hid (H.out.step hbd)
    have u2 : ∀ p : Rh.Later w0.heap.size wd, p.W.cell? ⟨b, 2, none⟩ = some (.slice A m c) := fun p => by rw [p.h.cell hbl, hbd.cell (p := ⟨b, 2, none⟩) (cell_lt c2)]; exact c2
    have OwnD := Lib.hid (own_below Own.out hbd (Nat.le_refl _))
    clear hbd hwz c2
    refine Rn.st_quiet ?_
    iterate 9 go_big_quiet_step (fail)
    refine wpQuiet_nil (Rn.st_one ?_)
    clear u2
    go_wp2_with (refine (hr wd Hd.out).mono ?_; rintro e w1 ⟨rfl, hb1⟩)
    refine ⟨hb1.mono Hd.out.size, Rn.st_quiet ?_⟩
    have H1 := Lib.hid (Hd.out.step hb1)
    have Own1 := Lib.hid (own_below OwnD.out hb1 (Nat.le_refl _))
    clear hb1
    iterate 1 go_big_quiet_step (fail)
    refine wpQuiet_nil (Rn.st_one ?_)
    obtain ⟨i, hi, hz, hsize, hby⟩ := info_parts uint8Info
    have Hi := Lib.hid hi
    have Hz := Lib.hid hz
    have Hsize := Lib.hid hsize
    have Hby := Lib.hid hby
    clear hi hz hsize hby
    go_wp2_with (at_builtin; refine Lib.wpList_append_own_string w1 rfl _ _ 25 9 rfl w0.heap.size 5 i Tryd.underlying25 Tryd.underlying9 Hi.out Hz.out Hsize.out Hby.out _ m _ rfl Own1.out _ rfl (by unfold maxLen; have := Htz.out; have := Hm.out; omega) (by have := Htz.out; have := Hm.out; omega) H1.out.size ?_; intro v5 w5 own5 hg5 _)
    have hb5 : Below w0.heap.size w1 w5 := (Below.refl _ _).grown hg5 H1.out.size fun q hq => (Own1.out.lt q hq).1
    refine ⟨hb5, Rn.st_quiet ?_⟩
    go_frame
    iterate 2 go_big_quiet_step (fail)
    refine wpQuiet_nil (Rn.st_free ?_)
    obtain ⟨d2, d3⟩ := H1.out.low hb5 2
    obtain ⟨v1, n1, e2, _⟩ := H1.out.c2
    rw [e2] at d2
    obtain ⟨A4, c4, rfl, _, _⟩ := own_slice own5
    go_wp2
    refine Rn.st_done ?_
    refine hM _ _ (Met.intro (hJ _ _ ?_))
    have own6 : w5.ownsRow w0.heap.size 5 1 (.slice A4 (m + (r.extract 0 n).size) c4) (m + (r.extract 0 n).size) ((xs ++ bI ((from_ s k).take n)).map (Value.int .u8)) := by
      rw [List.map_append, ← Hcl.out]; exact own5
    have H6 := H1.out.text hb5 own6
    rw [Htz.out] at H6
    first
      | exact H6
      | ((repeat apply Exists.intro); exact ⟨H6, rfl⟩)
  have c1 := hcut.c1
  have f1 := hcut.fz 1
  have HC := Lib.hid hcut
  clear hcut
  have hn0 : decide ((0 : Int) < n) = decide (0 < n) := by by_cases h : 0 < n <;> simp [h]
  go_wp2
  go_ret
  exact ⟨by first | rfl | (congr 2), HC.out.moveI (by omega)⟩
end Go.Proofs.YtjigcembbigbnaaDoor
