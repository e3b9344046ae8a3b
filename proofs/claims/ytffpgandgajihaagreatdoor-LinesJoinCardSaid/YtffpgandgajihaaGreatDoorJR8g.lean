/- Triples that may be: the program's, the answer's. Printed by gen/r8e.py. The program's package term, walked: raw. Printed by gen/txraw.py. The program's package term, walked: guess, Parse. Printed by gen/txguess.py. Literals with a tag, with a type: the answer's, the program's. -/
import Derived.Test.YtffpgandgajihaaGreatDoorJR8e
import Derived.Test.YtffpgandgajihaaGreatDoorJWr2
import Derived.Test.YtffpgandgajihaaGreatDoorJTxRd
import Derived.Test.YtffpgandgajihaaGreatDoorJTxPU
import Derived.Lib.UnsafeStr
namespace Go.Proofs.YtffpgandgajihaaGreatDoor
open Go Go.RowKit Um Fm Lx Tx

set_option maxHeartbeats 8000000 in
set_option maxRecDepth 100000 in
theorem termTriple (a : Tp) (w : World) (hC : CtxT w) (ha : smallP a) :
    Calls Tryz.prog 11 #[tpA a] w fun e w' => e = .returned (.bool (tripB a)) ∧ Below w.heap.size w w' := by
  have hb0 : Below w.heap.size w (w.alloc (.cells (tpC a) 37)) := (Below.refl _ w).alloc (Nat.le_refl _) _
  have hga := heap_alloc_new w (.cells (tpC a) 37)
  obtain ⟨res, hres⟩ : ∃ r, tripB a = r := ⟨_, rfl⟩
  rw [hres]
  have HT : Hid (res = ((a.s.k == 1 || a.s.k == 2) && a.p.k == 1 && rightB a.s && rightB a.p && rightB a.o)) := by show _ = _; rw [← hres]; rfl
  clear hres
  have hC0 := hC.step hb0
  go_enter Tryz.func11, Tryz.ntmps11
  go_upto_region 1 with fail
  change Code.wp _ _ _ _ (w.alloc (.cells (tpC a) 37))
  generalize w.alloc (.cells (tpC a) 37) = w0 at *
  have a0 := cells_at hga 0 rfl
  have a1 := cells_at hga 1 rfl
  have a2 := cells_at hga 2 rfl
  have a3 := cells_at hga 3 rfl
  have a4 := cells_at hga 4 rfl
  have a5 := cells_at hga 5 rfl
  have a6 := cells_at hga 6 rfl
  have a7 := cells_at hga 7 rfl
  have a8 := cells_at hga 8 rfl
  have a9 := cells_at hga 9 rfl
  have a10 := cells_at hga 10 rfl
  have a11 := cells_at hga 11 rfl
  have hS := fun W hb => termRight' a.s W (hC0.step hb) ha.1
  have hP := fun W hb => termRight' a.p W (hC0.step hb) ha.2.1
  have hO := fun W hb => termRight' a.o W (hC0.step hb) ha.2.2
  have HB0 := Lib.hid hb0
  clear hga hb0 hC hC0
  have hB1 := Below.refl w0.heap.size w0
  cases hk1 : (a.s.k == 1)
  · cases hk2 : (a.s.k == 2)
    · rw [hk1, hk2] at HT
      go_wp2_with (first | (go_at_call 30; (first | with_reducible refine (hS _ (by assumption)).mono ?_ | with_reducible refine (hP _ (by assumption)).mono ?_ | with_reducible refine (hO _ (by assumption)).mono ?_); rintro e V1 ⟨rfl, k1⟩; have hB2 := below_tr hB1 k1; replace a0 := cell_on a0 k1; replace a1 := cell_on a1 k1; replace a2 := cell_on a2 k1; replace a3 := cell_on a3 k1; replace a4 := cell_on a4 k1; replace a5 := cell_on a5 k1; replace a6 := cell_on a6 k1; replace a7 := cell_on a7 k1; replace a8 := cell_on a8 k1; replace a9 := cell_on a9 k1; replace a10 := cell_on a10 k1; replace a11 := cell_on a11 k1; clear hB1; rename Below w0.heap.size w0 _ => hB1; clear k1))
      go_ret
      exact ⟨by rw [HT.out]; simp, HB0.out.trans (hB1.mono HB0.out.size)⟩
    · cases hk3 : (a.p.k == 1)
      · rw [hk1, hk2, hk3] at HT
        go_wp2_with (first | (go_at_call 30; (first | with_reducible refine (hS _ (by assumption)).mono ?_ | with_reducible refine (hP _ (by assumption)).mono ?_ | with_reducible refine (hO _ (by assumption)).mono ?_); rintro e V1 ⟨rfl, k1⟩; have hB2 := below_tr hB1 k1; replace a0 := cell_on a0 k1; replace a1 := cell_on a1 k1; replace a2 := cell_on a2 k1; replace a3 := cell_on a3 k1; replace a4 := cell_on a4 k1; replace a5 := cell_on a5 k1; replace a6 := cell_on a6 k1; replace a7 := cell_on a7 k1; replace a8 := cell_on a8 k1; replace a9 := cell_on a9 k1; replace a10 := cell_on a10 k1; replace a11 := cell_on a11 k1; clear hB1; rename Below w0.heap.size w0 _ => hB1; clear k1))
        go_ret
        exact ⟨by rw [HT.out]; simp, HB0.out.trans (hB1.mono HB0.out.size)⟩
      · cases hr1 : rightB a.s
        · rw [hr1] at hS
          rw [hk1, hk2, hk3, hr1] at HT
          clear hr1
          go_wp2_with (first | (go_at_call 30; (first | with_reducible refine (hS _ (by assumption)).mono ?_ | with_reducible refine (hP _ (by assumption)).mono ?_ | with_reducible refine (hO _ (by assumption)).mono ?_); rintro e V1 ⟨rfl, k1⟩; have hB2 := below_tr hB1 k1; replace a0 := cell_on a0 k1; replace a1 := cell_on a1 k1; replace a2 := cell_on a2 k1; replace a3 := cell_on a3 k1; replace a4 := cell_on a4 k1; replace a5 := cell_on a5 k1; replace a6 := cell_on a6 k1; replace a7 := cell_on a7 k1; replace a8 := cell_on a8 k1; replace a9 := cell_on a9 k1; replace a10 := cell_on a10 k1; replace a11 := cell_on a11 k1; clear hB1; rename Below w0.heap.size w0 _ => hB1; clear k1))
          go_ret
          exact ⟨by rw [HT.out]; simp, HB0.out.trans (hB1.mono HB0.out.size)⟩
        · cases hr2 : rightB a.p
          · rw [hr1] at hS
            rw [hr2] at hP
            rw [hk1, hk2, hk3, hr1, hr2] at HT
            clear hr1 hr2
            go_wp2_with (first | (go_at_call 30; (first | with_reducible refine (hS _ (by assumption)).mono ?_ | with_reducible refine (hP _ (by assumption)).mono ?_ | with_reducible refine (hO _ (by assumption)).mono ?_); rintro e V1 ⟨rfl, k1⟩; have hB2 := below_tr hB1 k1; replace a0 := cell_on a0 k1; replace a1 := cell_on a1 k1; replace a2 := cell_on a2 k1; replace a3 := cell_on a3 k1; replace a4 := cell_on a4 k1; replace a5 := cell_on a5 k1; replace a6 := cell_on a6 k1; replace a7 := cell_on a7 k1; replace a8 := cell_on a8 k1; replace a9 := cell_on a9 k1; replace a10 := cell_on a10 k1; replace a11 := cell_on a11 k1; clear hB1; rename Below w0.heap.size w0 _ => hB1; clear k1))
            go_ret
            exact ⟨by rw [HT.out]; simp, HB0.out.trans (hB1.mono HB0.out.size)⟩
          · cases hr3 : rightB a.o
            · rw [hr1] at hS
              rw [hr2] at hP
              rw [hr3] at hO
              rw [hk1, hk2, hk3, hr1, hr2, hr3] at HT
              clear hr1 hr2 hr3
              go_wp2_with (first | (go_at_call 30; (first | with_reducible refine (hS _ (by assumption)).mono ?_ | with_reducible refine (hP _ (by assumption)).mono ?_ | with_reducible refine (hO _ (by assumption)).mono ?_); rintro e V1 ⟨rfl, k1⟩; have hB2 := below_tr hB1 k1; replace a0 := cell_on a0 k1; replace a1 := cell_on a1 k1; replace a2 := cell_on a2 k1; replace a3 := cell_on a3 k1; replace a4 := cell_on a4 k1; replace a5 := cell_on a5 k1; replace a6 := cell_on a6 k1; replace a7 := cell_on a7 k1; replace a8 := cell_on a8 k1; replace a9 := cell_on a9 k1; replace a10 := cell_on a10 k1; replace a11 := cell_on a11 k1; clear hB1; rename Below w0.heap.size w0 _ => hB1; clear k1))
              go_ret
              exact ⟨by rw [HT.out]; simp, HB0.out.trans (hB1.mono HB0.out.size)⟩
            · rw [hr1] at hS
              rw [hr2] at hP
              rw [hr3] at hO
              rw [hk1, hk2, hk3, hr1, hr2, hr3] at HT
              clear hr1 hr2 hr3
              go_wp2_with (first | (go_at_call 30; (first | with_reducible refine (hS _ (by assumption)).mono ?_ | with_reducible refine (hP _ (by assumption)).mono ?_ | with_reducible refine (hO _ (by assumption)).mono ?_); rintro e V1 ⟨rfl, k1⟩; have hB2 := below_tr hB1 k1; replace a0 := cell_on a0 k1; replace a1 := cell_on a1 k1; replace a2 := cell_on a2 k1; replace a3 := cell_on a3 k1; replace a4 := cell_on a4 k1; replace a5 := cell_on a5 k1; replace a6 := cell_on a6 k1; replace a7 := cell_on a7 k1; replace a8 := cell_on a8 k1; replace a9 := cell_on a9 k1; replace a10 := cell_on a10 k1; replace a11 := cell_on a11 k1; clear hB1; rename Below w0.heap.size w0 _ => hB1; clear k1))
              go_ret
              exact ⟨by rw [HT.out]; simp, HB0.out.trans (hB1.mono HB0.out.size)⟩
  · cases hk3 : (a.p.k == 1)
    · rw [hk1, hk3] at HT
      go_wp2_with (first | (go_at_call 30; (first | with_reducible refine (hS _ (by assumption)).mono ?_ | with_reducible refine (hP _ (by assumption)).mono ?_ | with_reducible refine (hO _ (by assumption)).mono ?_); rintro e V1 ⟨rfl, k1⟩; have hB2 := below_tr hB1 k1; replace a0 := cell_on a0 k1; replace a1 := cell_on a1 k1; replace a2 := cell_on a2 k1; replace a3 := cell_on a3 k1; replace a4 := cell_on a4 k1; replace a5 := cell_on a5 k1; replace a6 := cell_on a6 k1; replace a7 := cell_on a7 k1; replace a8 := cell_on a8 k1; replace a9 := cell_on a9 k1; replace a10 := cell_on a10 k1; replace a11 := cell_on a11 k1; clear hB1; rename Below w0.heap.size w0 _ => hB1; clear k1))
      go_ret
      exact ⟨by rw [HT.out]; simp, HB0.out.trans (hB1.mono HB0.out.size)⟩
    · cases hr1 : rightB a.s
      · rw [hr1] at hS
        rw [hk1, hk3, hr1] at HT
        clear hr1
        go_wp2_with (first | (go_at_call 30; (first | with_reducible refine (hS _ (by assumption)).mono ?_ | with_reducible refine (hP _ (by assumption)).mono ?_ | with_reducible refine (hO _ (by assumption)).mono ?_); rintro e V1 ⟨rfl, k1⟩; have hB2 := below_tr hB1 k1; replace a0 := cell_on a0 k1; replace a1 := cell_on a1 k1; replace a2 := cell_on a2 k1; replace a3 := cell_on a3 k1; replace a4 := cell_on a4 k1; replace a5 := cell_on a5 k1; replace a6 := cell_on a6 k1; replace a7 := cell_on a7 k1; replace a8 := cell_on a8 k1; replace a9 := cell_on a9 k1; replace a10 := cell_on a10 k1; replace a11 := cell_on a11 k1; clear hB1; rename Below w0.heap.size w0 _ => hB1; clear k1))
        go_ret
        exact ⟨by rw [HT.out]; simp, HB0.out.trans (hB1.mono HB0.out.size)⟩
      · cases hr2 : rightB a.p
        · rw [hr1] at hS
          rw [hr2] at hP
          rw [hk1, hk3, hr1, hr2] at HT
          clear hr1 hr2
          go_wp2_with (first | (go_at_call 30; (first | with_reducible refine (hS _ (by assumption)).mono ?_ | with_reducible refine (hP _ (by assumption)).mono ?_ | with_reducible refine (hO _ (by assumption)).mono ?_); rintro e V1 ⟨rfl, k1⟩; have hB2 := below_tr hB1 k1; replace a0 := cell_on a0 k1; replace a1 := cell_on a1 k1; replace a2 := cell_on a2 k1; replace a3 := cell_on a3 k1; replace a4 := cell_on a4 k1; replace a5 := cell_on a5 k1; replace a6 := cell_on a6 k1; replace a7 := cell_on a7 k1; replace a8 := cell_on a8 k1; replace a9 := cell_on a9 k1; replace a10 := cell_on a10 k1; replace a11 := cell_on a11 k1; clear hB1; rename Below w0.heap.size w0 _ => hB1; clear k1))
          go_ret
          exact ⟨by rw [HT.out]; simp, HB0.out.trans (hB1.mono HB0.out.size)⟩
        · cases hr3 : rightB a.o
          · rw [hr1] at hS
            rw [hr2] at hP
            rw [hr3] at hO
            rw [hk1, hk3, hr1, hr2, hr3] at HT
            clear hr1 hr2 hr3
            go_wp2_with (first | (go_at_call 30; (first | with_reducible refine (hS _ (by assumption)).mono ?_ | with_reducible refine (hP _ (by assumption)).mono ?_ | with_reducible refine (hO _ (by assumption)).mono ?_); rintro e V1 ⟨rfl, k1⟩; have hB2 := below_tr hB1 k1; replace a0 := cell_on a0 k1; replace a1 := cell_on a1 k1; replace a2 := cell_on a2 k1; replace a3 := cell_on a3 k1; replace a4 := cell_on a4 k1; replace a5 := cell_on a5 k1; replace a6 := cell_on a6 k1; replace a7 := cell_on a7 k1; replace a8 := cell_on a8 k1; replace a9 := cell_on a9 k1; replace a10 := cell_on a10 k1; replace a11 := cell_on a11 k1; clear hB1; rename Below w0.heap.size w0 _ => hB1; clear k1))
            go_ret
            exact ⟨by rw [HT.out]; simp, HB0.out.trans (hB1.mono HB0.out.size)⟩
          · rw [hr1] at hS
            rw [hr2] at hP
            rw [hr3] at hO
            rw [hk1, hk3, hr1, hr2, hr3] at HT
            clear hr1 hr2 hr3
            go_wp2_with (first | (go_at_call 30; (first | with_reducible refine (hS _ (by assumption)).mono ?_ | with_reducible refine (hP _ (by assumption)).mono ?_ | with_reducible refine (hO _ (by assumption)).mono ?_); rintro e V1 ⟨rfl, k1⟩; have hB2 := below_tr hB1 k1; replace a0 := cell_on a0 k1; replace a1 := cell_on a1 k1; replace a2 := cell_on a2 k1; replace a3 := cell_on a3 k1; replace a4 := cell_on a4 k1; replace a5 := cell_on a5 k1; replace a6 := cell_on a6 k1; replace a7 := cell_on a7 k1; replace a8 := cell_on a8 k1; replace a9 := cell_on a9 k1; replace a10 := cell_on a10 k1; replace a11 := cell_on a11 k1; clear hB1; rename Below w0.heap.size w0 _ => hB1; clear k1))
            go_ret
            exact ⟨by rw [HT.out]; simp, HB0.out.trans (hB1.mono HB0.out.size)⟩
end Go.Proofs.YtffpgandgajihaaGreatDoor
namespace Go.Proofs.YtffpgandgajihaaGreatDoor
open Go Go.RowKit Um Fm Lx Tx

theorem bTy : WTy 83 2 := ⟨by kernel_rfl, by decide⟩
/-- A builder in block b, with the bytes acc. -/
abbrev BI (B b : Nat) (acc : List UInt8) (w : World) : Prop := WIs 83 [] B b (Lib.byteCells acc) w
theorem bWrite (B b : Nat) (acc : List UInt8) (s : ByteArray) (w : World) (h : BI B b acc w) (ha : acc.length ≤ 1000000000) (hs : s.size ≤ 1000000000) (hBw : B ≤ w.heap.size) :
    Calls Tryz.prog 37 #[.pointer (some ⟨b, 0, none⟩), .string s] w fun e w' => (∃ u, e = .returned u) ∧ BI B b (acc ++ s.data.toList) w' ∧ Below B w w' := by
  refine (wString bTy B b _ s w h (by rw [Lib.byteCells_length]; omega) hBw).mono ?_
  rintro e w' ⟨rfl, h1, h2, _⟩
  rw [Lib.strCells_eq, ← Lib.byteCells_append] at h1
  exact ⟨⟨_, rfl⟩, .inr h1, h2⟩
theorem bByte (B b : Nat) (acc : List UInt8) (x : Nat) (hx : x < 256) (w : World) (h : BI B b acc w) (ha : acc.length ≤ 1000000000) (hBw : B ≤ w.heap.size) :
    Calls Tryz.prog 131 #[.pointer (some ⟨b, 0, none⟩), .int .u8 (x : Int)] w fun e w' => (∃ u, e = .returned u) ∧ BI B b (acc ++ [UInt8.ofNat x]) w' ∧ Below B w w' := by
  refine (wByte bTy B b _ (x : Int) w h (by rw [Lib.byteCells_length]; omega) hBw).mono ?_
  rintro e w' ⟨rfl, h1, h2, _⟩
  have e1 : Lib.byteCells acc ++ [.int .u8 (x : Int)] = Lib.byteCells (acc ++ [UInt8.ofNat x]) := by
    rw [Lib.byteCells_append]
    congr 1
    simp [Lib.byteCells]; omega
  rw [e1] at h1
  exact ⟨⟨_, rfl⟩, .inr h1, h2⟩
theorem z10 : (10 : Int) = ((10 : Nat) : Int) := rfl
theorem z13 : (13 : Int) = ((13 : Nat) : Int) := rfl
theorem z117 : (117 : Int) = ((117 : Nat) : Int) := rfl
theorem bByteI (B b : Nat) (acc : List UInt8) (z : Int) (x : Nat) (hz : z = x) (hx : x < 256) (w : World) (h : BI B b acc w) (ha : acc.length ≤ 1000000000) (hBw : B ≤ w.heap.size) :
    Calls Tryz.prog 131 #[.pointer (some ⟨b, 0, none⟩), .int .u8 z] w fun e w' => (∃ u, e = .returned u) ∧ BI B b (acc ++ [UInt8.ofNat x]) w' ∧ Below B w w' := by
  subst hz; exact bByte B b acc x hx w h ha hBw
set_option maxRecDepth 100000 in
theorem bStr0 (b : Nat) (w : World) (c1 : w.cell? ⟨b, 1, none⟩ = some (.slice none 0 0)) :
    Calls Tryz.prog 38 #[.pointer (some ⟨b, 0, none⟩)] w fun e w' => e = .returned (.string ⟨#[]⟩) ∧ Below w.heap.size w w' := by
  have hUS := fun W q => Lib.run_unsafeString_none (P := Tryz.prog) (w := W) 129 3 9 q
  have hSD : (Builtin.unsafeSliceData_ #[67] 129 #[.slice none 0 0]).run Tryz.prog w.drew = .ok (.pointer none) w.drew := rfl
  have c1' : w.drew.cell? ⟨b, 1, none⟩ = some (.slice none 0 0) := c1
  have mixed : Tryz.prog.follows Departure.mixedOrders = true := by kernel_rfl
  go_enter Tryz.func38, Tryz.ntmps38
  go_wp2
  go_region_o
  all_goals (go_wp2; go_ret; exact ⟨rfl, Below.drew (Below.refl _ _)⟩)
theorem pu8_lt {l : List UInt8} {n : Nat} (h : pu8 l = some n) : n < 256 := by
  unfold pu8 at h
  split at h
  · cases h
  · cases hx : hexN l 0 with
    | none => rw [hx] at h; cases h
    | some m =>
      rw [hx, Option.bind_some] at h
      split at h
      · injection h with h; omega
      · cases h
def strSz : Value → Nat
  | .string t => t.size
  | _ => 0
theorem ba_nil {t : ByteArray} (h : t.size = 0) : t.toList.isEmpty = true := by
  rw [ByteArray.toList_eq]
  have : t.data.toList.length = 0 := by rw [size_toList]; exact h
  rw [List.isEmpty_iff]; exact List.eq_nil_of_length_eq_zero this
theorem ba_pos {t : ByteArray} (h : t.size ≠ 0) : t.toList.isEmpty = false := by
  rw [ByteArray.toList_eq]
  cases he : t.data.toList.isEmpty
  · rfl
  · rw [List.isEmpty_iff] at he
    have := size_toList t
    rw [he] at this
    exact absurd this.symm h
/-- What the loop keeps: the text that is left, what has been written. -/
def RawI (s : ByteArray) (w : World) (v : Value) (wr : World) : Prop :=
  ∃ (t : ByteArray) (acc : List UInt8), v = .string t ∧ t.size ≤ 1000000 ∧ acc.length + t.size ≤ 2000000 ∧ BI w.heap.size w.heap.size acc wr ∧ Below w.heap.size w wr ∧ Hid (rdG puP s.data.toList = acc ++ rdG puP t.data.toList) ∧
    Hid (acc ≠ [] ∨ t.size ≠ 0 ∨ wr.cell? ⟨w.heap.size, 1, none⟩ = some (.slice none 0 0))
end Go.Proofs.YtffpgandgajihaaGreatDoor
namespace Go.Proofs.YtffpgandgajihaaGreatDoor
open Go Go.RowKit Um Fm Lx Tx

theorem termBlank (s : ByteArray) (w : World) : Calls Tryz.prog 15 #[.string s] w fun e w' => e = .returned (tA ⟨2, s, ⟨#[]⟩, ⟨#[]⟩⟩) ∧ Below w.heap.size w w' := by
  go_enter Tryz.func15, Tryz.ntmps15
  go_wp2
  refine bodyPost_ret (v := tA ⟨2, s, ⟨#[]⟩, ⟨#[]⟩⟩) (by simp [results, Tryz.results15, go_sem]) rfl ⟨rfl, (by repeat (first | exact Below.refl _ _ | assumption | exact (Below.refl _ _).alloc (Nat.le_refl _) _ | refine below_tr ?_ (by assumption) | refine below_alloc ?_ | refine below_tr ?_ (below_regrown _ _ _)))⟩
theorem termLiteral (s : ByteArray) (w : World) : Calls Tryz.prog 70 #[.string s] w fun e w' => e = .returned (tA ⟨3, s, ⟨#[]⟩, ⟨#[]⟩⟩) ∧ Below w.heap.size w w' := by
  go_enter Tryz.func70, Tryz.ntmps70
  go_wp2
  refine bodyPost_ret (v := tA ⟨3, s, ⟨#[]⟩, ⟨#[]⟩⟩) (by simp [results, Tryz.results70, go_sem]) rfl ⟨rfl, (by repeat (first | exact Below.refl _ _ | assumption | exact (Below.refl _ _).alloc (Nat.le_refl _) _ | refine below_tr ?_ (by assumption) | refine below_alloc ?_ | refine below_tr ?_ (below_regrown _ _ _)))⟩
theorem trim_lib (l : List UInt8) : Lib.trimSuffix l [62] = trimL l := rfl
theorem drop_ext (s : ByteArray) (k : Nat) : (s.extract k s.size).data.toList = s.data.toList.drop k := by
  rw [extract_toList, List.take_of_length_le (by rw [List.length_drop, size_toList]; omega)]
theorem mid_ext (s : ByteArray) (k n : Nat) : (s.extract k n).data.toList = (s.data.toList.drop k).take (n - k) := extract_toList s k n
/-- A new term's block. -/
def zT (w : World) (V : World) : Prop := V.heap[w.heap.size]? = some (.cells #[.int .i64 0, .string ⟨#[]⟩, .string ⟨#[]⟩, .string ⟨#[]⟩] 35 (0, 0))
theorem zT.new (w : World) : zT w (w.alloc (.cells #[.int .i64 0, .string ⟨#[]⟩, .string ⟨#[]⟩, .string ⟨#[]⟩] 35)) := heap_alloc_new w _
theorem zT.step {w V V' : World} (h : zT w V) (hb : Below V.heap.size V V') : zT w V' := below_blk hb h
theorem zT.d {w V : World} (h : zT w V) : V.cell? ⟨w.heap.size, 0, none⟩ = some (.int .i64 0) ∧ V.cell? ⟨w.heap.size, 1, none⟩ = some (.string ⟨#[]⟩) ∧ V.cell? ⟨w.heap.size, 2, none⟩ = some (.string ⟨#[]⟩) ∧ V.cell? ⟨w.heap.size, 3, none⟩ = some (.string ⟨#[]⟩) ∧ ∀ i, V.frozen? ⟨w.heap.size, i, none⟩ = false :=
  ⟨by rw [Lib.cell_of_heap h]; rfl, by rw [Lib.cell_of_heap h]; rfl, by rw [Lib.cell_of_heap h]; rfl, by rw [Lib.cell_of_heap h]; rfl, fun i => Lib.frozen_of_heap h i⟩

def parseP (l : List UInt8) : Tm × Int := if 4096 < l.length then (⟨0, ⟨#[]⟩, ⟨#[]⟩, ⟨#[]⟩⟩, 3) else if okP l (guessP l) then (guessP l, 0) else (⟨0, ⟨#[]⟩, ⟨#[]⟩, ⟨#[]⟩⟩, 10)
theorem rdF_len (p : List UInt8 → Option Nat) : ∀ (f : Nat) (l : List UInt8), (rdF p f l).length ≤ l.length
  | 0, l => by simp [rdF]
  | f + 1, [] => Nat.le_refl _
  | f + 1, [c] => Nat.le_refl _
  | f + 1, c :: d :: r => by
    have h1 := rdF_len p f (d :: r)
    have h2 := rdF_len p f r
    have h3 := rdF_len p f (r.drop 4)
    rw [List.length_drop] at h3
    rw [rdF]
    split
    · simp only [List.length_cons] at *; omega
    split
    · simp only [List.length_cons] at *; omega
    · simp only [List.length_cons] at *; omega
theorem rdG_len (p : List UInt8 → Option Nat) (l : List UInt8) : (rdG p l).length ≤ l.length := rdF_len p _ l
theorem trimL_len (l : List UInt8) : (trimL l).length ≤ l.length := by unfold trimL; split <;> (try simp only [List.length_take]) <;> omega
theorem guess_small (l : List UInt8) (h : l.length ≤ 1000000) : smallT (guessP l) := by
  have z : (⟨#[]⟩ : ByteArray).size = 0 := rfl
  have h1 : (rdG puP (trimL (l.drop 1))).length ≤ 1000000 := Nat.le_trans (rdG_len _ _) (Nat.le_trans (trimL_len _) (by rw [List.length_drop]; omega))
  have h2 : (rdG puP ((l.drop 1).take (qtL l - 2))).length ≤ 1000000 := Nat.le_trans (rdG_len _ _) (by rw [List.length_take, List.length_drop]; omega)
  have h3 : (rdG puP (trimL ((l.drop (qtL l)).drop 3))).length ≤ 1000000 := Nat.le_trans (rdG_len _ _) (Nat.le_trans (trimL_len _) (by rw [List.length_drop, List.length_drop]; omega))
  have h4 : ((l.drop (qtL l)).drop 1).length ≤ 1000000 := by rw [List.length_drop, List.length_drop]; omega
  have h5 : (l.drop 2).length ≤ 1000000 := by rw [List.length_drop]; omega
  unfold guessP smallT
  repeat' split
  all_goals (simp only [mkS_size, z]; omega)
end Go.Proofs.YtffpgandgajihaaGreatDoor
namespace Go.Proofs.YtffpgandgajihaaGreatDoor
open Go Go.RowKit Um Fm Lx Tx

def typedT (s y : ByteArray) : Tm := if (y.toList == xsdL) = true then ⟨3, s, ⟨#[]⟩, ⟨#[]⟩⟩ else ⟨4, s, ⟨#[]⟩, y⟩
theorem typed_yes {s y : ByteArray} (h : (y.toList == xsdL) = true) : typedT s y = ⟨3, s, ⟨#[]⟩, ⟨#[]⟩⟩ := by unfold typedT; rw [if_pos h]
theorem typed_no {s y : ByteArray} (h : (y.toList == xsdL) = false) : typedT s y = ⟨4, s, ⟨#[]⟩, y⟩ := by unfold typedT; rw [if_neg (by rw [h]; decide)]
theorem termTyped (s y : ByteArray) (w : World) : Calls Tryz.prog 69 #[.string s, .string y] w fun e w' => e = .returned (tA (typedT s y)) ∧ Below w.heap.size w w' := by
  have hblk := zT.new w
  have hB0 : Below w.heap.size w (w.alloc (.cells #[.int .i64 0, .string ⟨#[]⟩, .string ⟨#[]⟩, .string ⟨#[]⟩] 35)) := (Below.refl _ w).alloc (Nat.le_refl _) _
  have hLi := fun W => termLiteral s W
  cases hq : (y.toList == xsdL)
  · rw [typed_no hq]
    unfold xsdL at hq
    obtain ⟨d0, d1, d2, d3, f0⟩ := zT.d hblk
    go_enter Tryz.func69, Tryz.ntmps69
    go_wp2
    refine bodyPost_ret (v := tA ⟨4, s, ⟨#[]⟩, y⟩) (by simp [results, Tryz.results69, go_sem]) rfl ⟨rfl, ?_⟩
    exact (by repeat (first | exact Below.refl _ _ | assumption | exact (Below.refl _ _).alloc (Nat.le_refl _) _ | refine below_tr ?_ (by assumption) | refine below_alloc ?_ | refine below_tr ?_ (below_regrown _ _ _)))
  · rw [typed_yes hq]
    unfold xsdL at hq
    have HX := fun V (hb : Below (w.alloc (.cells #[.int .i64 0, .string ⟨#[]⟩, .string ⟨#[]⟩, .string ⟨#[]⟩] 35)).heap.size (w.alloc (.cells #[.int .i64 0, .string ⟨#[]⟩, .string ⟨#[]⟩, .string ⟨#[]⟩] 35)) V) => zT.d (hblk.step hb)
    go_enter Tryz.func69, Tryz.ntmps69
    go_wp2_with (go_at_call 70; with_reducible refine (hLi _).mono ?_; rintro e w1 ⟨rfl, k1⟩; obtain ⟨d0, d1, d2, d3, f0⟩ := HX _ k1; have k2 := below_tr hB0 k1)
    refine bodyPost_ret (v := tA ⟨3, s, ⟨#[]⟩, ⟨#[]⟩⟩) (by simp [results, Tryz.results69, go_sem, d0, d1, d2, d3]) rfl ⟨rfl, ?_⟩
    exact k2.trans (below_set4 (Nat.le_refl _) _ _ _ _)
theorem r08Typed (s y : ByteArray) (w : World) : Calls Tryz.prog 108 #[.string s, .string y] w fun e w' => e = .returned (tA (typedT s y)) ∧ Below w.heap.size w w' := by
  have hblk := zT.new w
  have hB0 : Below w.heap.size w (w.alloc (.cells #[.int .i64 0, .string ⟨#[]⟩, .string ⟨#[]⟩, .string ⟨#[]⟩] 35)) := (Below.refl _ w).alloc (Nat.le_refl _) _
  obtain ⟨d0, d1, d2, d3, f0⟩ := zT.d hblk
  cases hq : (y.toList == xsdL)
  · rw [typed_no hq]
    unfold xsdL at hq
    go_enter Tryz.func108, Tryz.ntmps108
    go_wp2
    refine bodyPost_ret (v := tA ⟨4, s, ⟨#[]⟩, y⟩) (by simp [results, Tryz.results108, go_sem]) rfl ⟨rfl, ?_⟩
    exact (by repeat (first | exact Below.refl _ _ | assumption | exact (Below.refl _ _).alloc (Nat.le_refl _) _ | refine below_tr ?_ (by assumption) | refine below_alloc ?_ | refine below_tr ?_ (below_regrown _ _ _)))
  · rw [typed_yes hq]
    unfold xsdL at hq
    go_enter Tryz.func108, Tryz.ntmps108
    go_wp2
    refine bodyPost_ret (v := tA ⟨3, s, ⟨#[]⟩, ⟨#[]⟩⟩) (by simp [results, Tryz.results108, go_sem]) rfl ⟨rfl, ?_⟩
    exact (by repeat (first | exact Below.refl _ _ | assumption | exact (Below.refl _ _).alloc (Nat.le_refl _) _ | refine below_tr ?_ (by assumption) | refine below_alloc ?_ | refine below_tr ?_ (below_regrown _ _ _)))
set_option maxHeartbeats 1000000 in
set_option maxRecDepth 10000 in
theorem r08Tagged (x s : ByteArray) (w : World) (hs : s.size ≤ 1000000) :
    Calls Tryz.prog 107 #[.string x, .string s] w fun e w' => e = .returned (tmA 3 x (lowS s) ⟨#[]⟩) ∧ Below w.heap.size w w' := by
  have hB0 : Below w.heap.size w (w.alloc (.cells #[.int .i64 0, .string ⟨#[]⟩, .string ⟨#[]⟩, .string ⟨#[]⟩] 35)) := (Below.refl _ w).alloc (Nat.le_refl _) _
  have hblk := heap_alloc_new w (.cells #[.int .i64 0, .string ⟨#[]⟩, .string ⟨#[]⟩, .string ⟨#[]⟩] 35)
  have hcv := Lib.run_convert_string_bytes (P := Tryz.prog) (w.alloc (.cells #[.int .i64 0, .string ⟨#[]⟩, .string ⟨#[]⟩, .string ⟨#[]⟩] 35)) 9 67 5 s (u := .string) Tryz.underlying9 Tryz.underlying67 Tryz.underlying5
  have hBy := By.conv (w.alloc (.cells #[.int .i64 0, .string ⟨#[]⟩, .string ⟨#[]⟩, .string ⟨#[]⟩] 35)) s
  obtain ⟨W1, hW1⟩ : ∃ W1, W1 = Lib.bytesWorld (w.alloc (.cells #[.int .i64 0, .string ⟨#[]⟩, .string ⟨#[]⟩, .string ⟨#[]⟩] 35)) 5 s := ⟨_, rfl⟩
  obtain ⟨c1, hc1⟩ : ∃ c1, c1 = grownCap (w.alloc (.cells #[.int .i64 0, .string ⟨#[]⟩, .string ⟨#[]⟩, .string ⟨#[]⟩] 35)) s.size 0 5 := ⟨_, rfl⟩
  rw [← hW1] at hcv hBy
  rw [← hc1] at hcv
  clear hW1 hc1
  obtain ⟨W0, hW0⟩ : ∃ W0, W0 = w.alloc (.cells #[.int .i64 0, .string ⟨#[]⟩, .string ⟨#[]⟩, .string ⟨#[]⟩] 35) := ⟨_, rfl⟩
  rw [← hW0] at hBy hB0 hblk
  have hg : W0.heap.size = w.heap.size + 1 := by rw [hW0]; simp
  rw [hg] at hBy
  have HG := Lib.hid hg
  have HB0 := Lib.hid hB0
  have Hblk := Lib.hid hblk
  have HBy := Lib.hid hBy
  clear hW0 hg hB0 hblk hBy
  go_enter Tryz.func107, Tryz.ntmps107
  go_wp2
  go_loopw [6] (fun i wr => ∃ k : Nat, k ≤ s.size ∧ i = .int .i64 k ∧ By W0 (w.heap.size + 1) s.size (fun j => if j < k then lowI (bn s j) else (bn s j : Int)) wr) (fun i _ => s.size - (intOf i).toNat)
  case atStart => exact ⟨0, by omega, rfl, HBy.out.congr (fun j _ => by rw [if_neg (by omega)])⟩
  case round =>
    obtain ⟨k, hk, rfl, hI⟩ := hrel
    have HI := Lib.hid hI
    by_cases hlt : k < s.size
    · have hc := hI.cells k hlt
      have hf := hI.fz k hlt
      rw [if_neg (by omega)] at hc
      have hb := bn_lt s k
      have Hlow : Hid (lowI (bn s k : Int) = if 65 ≤ bn s k ∧ bn s k ≤ 90 then (bn s k : Int) + 32 else (bn s k : Int)) := by
        show _ = _
        unfold lowI
        split <;> split <;> omega
      have hstay : ¬ (65 ≤ bn s k ∧ bn s k ≤ 90) → By W0 (w.heap.size + 1) s.size (fun j => if j < k + 1 then lowI (bn s j) else (bn s j : Int)) wr := fun h => HI.out.congr (fun j hj => by
        by_cases e : j = k
        · subst e
          have := Hlow.out
          rw [if_neg h] at this
          rw [if_neg (by omega), if_pos (by omega), this]
        · by_cases e2 : j < k
          · rw [if_pos e2, if_pos (by omega)]
          · rw [if_neg e2, if_neg (by omega)])
      have Hstay := Lib.hid hstay
      clear hI hstay
      by_cases h1 : 65 ≤ bn s k
      · by_cases h2 : bn s k ≤ 90
        · obtain ⟨y, hy⟩ : ∃ y, bn s k = y := ⟨_, rfl⟩
          have hq : Hid (lowI (bn s k : Int) = (y : Int) - 65 + 97) := by show _ = _; rw [Hlow.out, if_pos ⟨h1, h2⟩, hy]; omega
          rw [hy] at hc h1 h2 hb
          clear Hlow Hstay
          go_wp2
          go_roundw
          case rel =>
            refine ⟨k + 1, by omega, by go_num, (HI.out.set k hlt ((y : Int) - 65 + 97)).congr (fun j hj => ?_)⟩
            by_cases e : j = k
            · subst e; rw [if_pos rfl, if_pos (by omega), hq.out]
            · rw [if_neg e]
              by_cases e2 : j < k
              · rw [if_pos e2, if_pos (by omega)]
              · rw [if_neg e2, if_neg (by omega)]
          case measure => simp [intOf]; omega
        · have HS := Lib.hid (Hstay.out (fun h => h2 h.2))
          clear Hlow Hstay
          go_wp2
          go_roundw
          case rel => exact ⟨k + 1, by omega, by go_num, HS.out⟩
          case measure => simp [intOf]; omega
      · have HS := Lib.hid (Hstay.out (fun h => h1 h.1))
        clear Hlow Hstay
        go_wp2
        go_roundw
        case rel => exact ⟨k + 1, by omega, by go_num, HS.out⟩
        case measure => simp [intOf]; omega
    · have hks : k = s.size := by omega
      subst hks
      have hrd : Rd wr (some ⟨w.heap.size + 1, 0, none⟩) ((s.data.toList.map fun b => lowI b.toNat).map (Value.int .u8)) := hI.rd (by rw [List.length_map, size_toList]) (fun j hj => by rw [if_pos hj, low_at s j hj])
      have hcs := run_conv_bytes (P := Tryz.prog) (w := wr) (n := s.size) (c := c1) 67 9 5 Tryz.underlying67 Tryz.underlying5 Tryz.underlying9 hrd (by rw [List.length_map, size_toList])
      rw [low_str] at hcs
      have hb3 : wr.heap[w.heap.size]? = some (.cells #[.int .i64 0, .string ⟨#[]⟩, .string ⟨#[]⟩, .string ⟨#[]⟩] 35 (0, 0)) := by
        rw [hI.below.block _ (by rw [HG.out]; omega)]; exact Hblk.out
      have d0 : wr.cell? ⟨w.heap.size, 0, none⟩ = some (.int .i64 0) := by rw [Lib.cell_of_heap hb3]; rfl
      have d1 : wr.cell? ⟨w.heap.size, 1, none⟩ = some (.string ⟨#[]⟩) := by rw [Lib.cell_of_heap hb3]; rfl
      have d2 : wr.cell? ⟨w.heap.size, 2, none⟩ = some (.string ⟨#[]⟩) := by rw [Lib.cell_of_heap hb3]; rfl
      have d3 : wr.cell? ⟨w.heap.size, 3, none⟩ = some (.string ⟨#[]⟩) := by rw [Lib.cell_of_heap hb3]; rfl
      have f0 : ∀ i, wr.frozen? ⟨w.heap.size, i, none⟩ = false := fun i => Lib.frozen_of_heap hb3 i
      have HX := Lib.hid (below_tr HB0.out hI.below)
      clear hI hrd hb3
      go_wp2
      refine bodyPost_ret (v := tmA 3 x (lowS s) ⟨#[]⟩) (by simp [results, Tryz.results107, go_sem, d0, d1, d2, d3]) rfl ⟨rfl, ?_⟩
      exact HX.out.trans (below_set4 (Nat.le_refl _) _ _ _ _)
end Go.Proofs.YtffpgandgajihaaGreatDoor
