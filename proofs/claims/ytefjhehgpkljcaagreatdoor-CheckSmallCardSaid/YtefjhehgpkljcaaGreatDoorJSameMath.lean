/- The program's package check, walked: Told. The kit's marks. append onto a row of the call's own: where the row lies then. Two conditions, two queries are the same: in plain words. -/
import Derived.Test.YtefjhehgpkljcaaGreatDoorJChk8
import Derived.Test.YtefjhehgpkljcaaGreatDoorJChk4
import Derived.Test.YtefjhehgpkljcaaGreatDoorJQWalk
import Derived.Test.YtefjhehgpkljcaaGreatDoorJQRight2
namespace Go.Proofs.YtefjhehgpkljcaaGreatDoor
open Go Go.RowKit Um Fm Mt

theorem intInfo' : (Tryz.prog.info? 3).map (fun i => (i.zero, i.size, i.bytes)) = some (some (.int .i64 0), 1, 8) := by kernel_rfl
/-- Where what is told stands. -/
def toldL (among vars : List ByteArray) : List Int := vars.map fun s => Lib.idxOfS among s
def NumsR (l : List Int) (w : World) (e : Ending) (w' : World) : Prop := ∃ v, e = .returned v ∧ w'.ownsRow w.heap.size 3 1 v l.length (l.map (Value.int .i64)) ∧ Below w.heap.size w w'
def ToldL (among vars : List ByteArray) (w : World) (v i : Value) (wr : World) : Prop := ∃ (k : Nat) (v' : Value), k ≤ vars.length ∧ i = .int .i64 k ∧ v = v' ∧ wr.ownsRow w.heap.size 3 1 v' k ((toldL among (vars.take k)).map (Value.int .i64)) ∧ Below w.heap.size w wr
set_option maxRecDepth 20000 in
set_option maxHeartbeats 2000000 in
theorem cTold (n : Nat) (q : Qy n) (a1 a2 a3 a4 : Option Addr) (c1 c2 c3 c4 : Nat) (among : List ByteArray) (A : Option Addr) (c : Nat) (w : World) (h1 : Rd w a1 (q.vars.map Value.string)) (hr : Rd w A (among.map Value.string)) (hv : q.vars.length ≤ 1000000) (hl : among.length ≤ 1000000) :
    Calls Tryz.prog 16 #[.agg #[.bool q.ask, .bool q.dist, .slice a1 q.vars.length c1, .slice a2 q.pats.length c2, .slice a3 q.fils.length c3, .slice a4 q.ord.length c4, .int .i64 q.lim, .int .i64 q.off], .slice A among.length c] w (NumsR (toldL among q.vars) w) := by
  obtain ⟨W, hW⟩ : ∃ W : World, w.alloc (.cells #[.bool q.ask, .bool q.dist, .slice a1 q.vars.length c1, .slice a2 q.pats.length c2, .slice a3 q.fils.length c3, .slice a4 q.ord.length c4, .int .i64 q.lim, .int .i64 q.off] 40) = W := ⟨_, rfl⟩
  have hB0 : Below w.heap.size w W := by rw [← hW]; exact (by repeat (first | exact Below.refl _ _ | assumption | exact (Below.refl _ _).alloc (Nat.le_refl _) _ | refine below_tr ?_ (by assumption) | refine below_alloc ?_ | refine below_tr ?_ (below_regrown _ _ _)))
  have b0 : W.cell? ⟨w.heap.size, 0, none⟩ = some (.bool q.ask) := by rw [← hW, World.cell?, heap_alloc_new]; rfl
  have b1 : W.cell? ⟨w.heap.size, 1, none⟩ = some (.bool q.dist) := by rw [← hW, World.cell?, heap_alloc_new]; rfl
  have b2 : W.cell? ⟨w.heap.size, 2, none⟩ = some (.slice a1 q.vars.length c1) := by rw [← hW, World.cell?, heap_alloc_new]; rfl
  have b3 : W.cell? ⟨w.heap.size, 3, none⟩ = some (.slice a2 q.pats.length c2) := by rw [← hW, World.cell?, heap_alloc_new]; rfl
  have b4 : W.cell? ⟨w.heap.size, 4, none⟩ = some (.slice a3 q.fils.length c3) := by rw [← hW, World.cell?, heap_alloc_new]; rfl
  have b5 : W.cell? ⟨w.heap.size, 5, none⟩ = some (.slice a4 q.ord.length c4) := by rw [← hW, World.cell?, heap_alloc_new]; rfl
  have b6 : W.cell? ⟨w.heap.size, 6, none⟩ = some (.int .i64 q.lim) := by rw [← hW, World.cell?, heap_alloc_new]; rfl
  have b7 : W.cell? ⟨w.heap.size, 7, none⟩ = some (.int .i64 q.off) := by rw [← hW, World.cell?, heap_alloc_new]; rfl
  have k1 := h1.later hB0
  have kr := hr.later hB0
  have HW := Lib.hid hW
  have HB0 := Lib.hid hB0
  have hvn : (q.vars.length : Int) ≤ 1000000 := by omega
  clear hW h1 hr hB0
  go_enter Tryz.func16, Tryz.ntmps16
  go_wp2_with fail
  simp only [HW.out]
  go_wp2
  go_loopw [4, 10] (ToldL among q.vars W) (fun _ i _ => q.vars.length - (intOf i).toNat)
  case atStart => exact ⟨0, _, by omega, rfl, rfl, by simpa [toldL] using World.ownsRow_nil _ _ _ _, Below.refl _ _⟩
  case round =>
    clear b0 b1 b2 b3 b4 b5 b6 b7
    obtain ⟨k, v', hk, rfl, rfl, own, hB⟩ := hrel
    by_cases hlt : k < q.vars.length
    · obtain ⟨s, hs⟩ : ∃ x, q.vars[k]? = some x := ⟨_, List.getElem?_eq_getElem hlt⟩
      obtain ⟨g, o, rfl, cx⟩ := (k1.later hB).at_ (j := k) (u := .string s) (by simp [hs])
      have hI := idxTxt among s A c wr (by omega) (kr.later hB)
      have Ht : Hid (toldL among (q.vars.take (k + 1)) = toldL among (q.vars.take k) ++ [Lib.idxOfS among s]) := by show _ = _; unfold toldL; rw [take_snoc_of hs, List.map_append]; rfl
      generalize Lib.idxOfS among s = j at *
      have B2 : Below wr.heap.size wr (wr.alloc (.cells #[.int .i64 j] 3)) := (by repeat (first | exact Below.refl _ _ | assumption | exact (Below.refl _ _).alloc (Nat.le_refl _) _ | refine below_tr ?_ (by assumption) | refine below_alloc ?_ | refine below_tr ?_ (below_regrown _ _ _)))
      have own2 := own_below own B2 (Nat.le_refl _)
      have R2 : Rd (wr.alloc (.cells #[.int .i64 j] 3)) (some ⟨wr.heap.size, 0, none⟩) [.int .i64 j] := Rd.of_block (heap_alloc_new wr _) rfl
      have hbs : W.heap.size ≤ wr.heap.size := hB.size
      have B02 := Lib.hid (below_tr hB B2)
      clear hs own hB B2 k1 kr
      go_wp2_with (first
        | (go_at_call 66; refine hI.mono ?_; rintro e w5 ⟨rfl, rfl⟩)
        | (at_builtin; refine wpList_appG rfl rfl Tryz.underlying33 intInfo' rfl (by omega) rfl own2 rfl R2 rfl (by intro u hu; simp at hu; subst hu; rfl) (by omega) (by omega) (by simp; omega) ?_; intro v5 w5 own5 hb5 _))
      go_roundw
      case rel => exact ⟨k + 1, v5, by omega, by go_num, rfl, by rw [Ht.out, List.map_append]; exact own5, B02.out.trans hb5⟩
      case measure => simp [intOf]; omega
    · obtain rfl : k = q.vars.length := by omega
      have Hk2 : Hid (q.vars.take q.vars.length = q.vars) := List.take_length
      obtain ⟨A1, d1, rfl, _, _⟩ := own_slice own
      clear k1 kr
      go_wp2
      go_ret
      refine ⟨_, rfl, ?_, HB0.out.trans (hB.mono HB0.out.size)⟩
      rw [Hk2.out] at own
      have hl : (toldL among q.vars).length = q.vars.length := List.length_map _
      rw [hl]
      exact own_mono own HB0.out.size
end Go.Proofs.YtefjhehgpkljcaaGreatDoor
namespace Go.Proofs.YtefjhehgpkljcaaGreatDoor
open Go Go.RowKit Um Fm Mt

/-- The text that marks a place. -/
def mkT (k i : Int) : ByteArray := strOfNums [35, k % 256, k / 256, k / 65536, 47, i % 256, i / 256 % 256, i / 65536]
theorem conv_new' (xs : List Int) (n : Nat) (hn : xs.length = n) (W : World) (o : Obj) (c : Nat) (hr : Rd (W.alloc o) (some ⟨W.heap.size, 0, none⟩) (xs.map (Value.int .u8))) :
    (convert 132 9 (.slice (some ⟨W.heap.size, 0, none⟩) n c)).run Tryz.prog (W.alloc o) = .ok (.string (strOfNums xs)) (W.alloc o) :=
  run_conv_bytes 132 9 5 Tryz.underlying132 Tryz.underlying5 Tryz.underlying9 hr hn
set_option maxRecDepth 10000 in
theorem markTxt (k i : Int) (w : World) (hk0 : 0 ≤ k) (hk1 : k ≤ 1000) (hi0 : 0 ≤ i) (hi1 : i ≤ 1000000) :
    Calls Tryz.prog 59 #[.int .i64 k, .int .i64 i] w fun e w' => e = .returned (.string (mkT k i)) ∧ Below w.heap.size w w' := by
  have hcv := conv_new' [35, k % 256, k / 256, k / 65536, 47, i % 256, i / 256 % 256, i / 65536] 8 rfl w (.cells #[.int .u8 35, .int .u8 (k % 256), .int .u8 (k / 256), .int .u8 (k / 65536), .int .u8 47, .int .u8 (i % 256), .int .u8 (i / 256 % 256), .int .u8 (i / 65536)] 5) 8 (Rd.of_block (heap_alloc_new w _) rfl)
  rw [show strOfNums [35, k % 256, k / 256, k / 65536, 47, i % 256, i / 256 % 256, i / 65536] = mkT k i from rfl] at hcv
  generalize mkT k i = s at *
  go_enter Tryz.func59, Tryz.ntmps59
  go_wp2
  go_ret
  exact ⟨rfl, (by repeat (first | exact Below.refl _ _ | assumption | exact (Below.refl _ _).alloc (Nat.le_refl _) _ | refine below_tr ?_ (by assumption) | refine below_alloc ?_ | refine below_tr ?_ (below_regrown _ _ _)))⟩
theorem kitMark1 (i : Int) (w : World) (h0 : 0 ≤ i) (h1 : i ≤ 1000000) :
    Calls Tryz.prog 146 #[.int .i64 1, .int .i64 i] w fun e w' => e = .returned (.int .i64 (8000024 + i)) ∧ w = w' := by
  go_enter Tryz.func146, Tryz.ntmps146
  go_wp2
  go_ret
  exact ⟨by simp; try omega, rfl⟩
def mkTm (i : Int) : Tm := ⟨8000024 + i, ⟨#[]⟩, ⟨#[]⟩, ⟨#[]⟩⟩
theorem markTm (i : Int) (w : World) (h0 : 0 ≤ i) (h1 : i ≤ 1000000) :
    Calls Tryz.prog 96 #[.int .i64 1, .int .i64 i] w fun e w' => e = .returned (.agg #[.int .i64 (8000024 + i), .string ⟨#[]⟩, .string ⟨#[]⟩, .string ⟨#[]⟩]) ∧ Below w.heap.size w w' := by
  have hm := fun W => kitMark1 i W h0 h1
  generalize 8000024 + i = v at *
  go_enter Tryz.func96, Tryz.ntmps96
  go_wp2_with (refine (hm _).mono ?_; rintro e w3 ⟨rfl, rfl⟩)
  exact bodyPost_ret (v := .agg #[.int .i64 v, .string ⟨#[]⟩, .string ⟨#[]⟩, .string ⟨#[]⟩]) (by simp [results, Tryz.results96, go_sem]) rfl ⟨rfl, (by repeat (first | exact Below.refl _ _ | assumption | exact (Below.refl _ _).alloc (Nat.le_refl _) _ | refine below_tr ?_ (by assumption) | refine below_alloc ?_ | refine below_tr ?_ (below_regrown _ _ _)))⟩
def mkE (i : Int) : List Value := [.int .i64 (8000024 + i), .string ⟨#[]⟩, .int .i64 0, .string ⟨#[]⟩, .string ⟨#[]⟩, .string ⟨#[]⟩, .slice none 0 0]
theorem markEx (i : Int) (w : World) (h0 : 0 ≤ i) (h1 : i ≤ 1000000) :
    Calls Tryz.prog 95 #[.int .i64 1, .int .i64 i] w fun e w' => e = .returned (.agg (mkE i).toArray) ∧ Below w.heap.size w w' := by
  have hm := fun W => kitMark1 i W h0 h1
  unfold mkE
  generalize 8000024 + i = v at *
  go_enter Tryz.func95, Tryz.ntmps95
  go_wp2_with (refine (hm _).mono ?_; rintro e w3 ⟨rfl, rfl⟩)
  exact bodyPost_ret (v := .agg #[.int .i64 v, .string ⟨#[]⟩, .int .i64 0, .string ⟨#[]⟩, .string ⟨#[]⟩, .string ⟨#[]⟩, .slice none 0 0]) (by simp [results, Tryz.results95, go_sem]) rfl ⟨rfl, (by repeat (first | exact Below.refl _ _ | assumption | exact (Below.refl _ _).alloc (Nat.le_refl _) _ | refine below_tr ?_ (by assumption) | refine below_alloc ?_ | refine below_tr ?_ (below_regrown _ _ _)))⟩
theorem markPt (i : Int) (w : World) (h0 : 0 ≤ i) (h1 : i ≤ 1000000) :
    Calls Tryz.prog 105 #[.int .i64 1, .int .i64 i] w fun e w' => e = .returned (vPat ⟨⟨⟨#[]⟩, mkTm i⟩, ⟨⟨#[]⟩, zTm⟩, ⟨⟨#[]⟩, zTm⟩⟩) ∧ Below w.heap.size w w' := by
  have hm := fun W => kitMark1 i W h0 h1
  unfold vPat mkTm zTm
  simp only
  generalize 8000024 + i = v at *
  go_enter Tryz.func105, Tryz.ntmps105
  go_wp2_with (refine (hm _).mono ?_; rintro e w3 ⟨rfl, rfl⟩)
  exact bodyPost_ret (v := .agg #[.string ⟨#[]⟩, .int .i64 v, .string ⟨#[]⟩, .string ⟨#[]⟩, .string ⟨#[]⟩, .string ⟨#[]⟩, .int .i64 0, .string ⟨#[]⟩, .string ⟨#[]⟩, .string ⟨#[]⟩, .string ⟨#[]⟩, .int .i64 0, .string ⟨#[]⟩, .string ⟨#[]⟩, .string ⟨#[]⟩]) (by simp [results, Tryz.results105, go_sem]) rfl ⟨rfl, (by repeat (first | exact Below.refl _ _ | assumption | exact (Below.refl _ _).alloc (Nat.le_refl _) _ | refine below_tr ?_ (by assumption) | refine below_alloc ?_ | refine below_tr ?_ (below_regrown _ _ _)))⟩
theorem markKy (i : Int) (w : World) (h0 : 0 ≤ i) (h1 : i ≤ 1000000) :
    Calls Tryz.prog 106 #[.int .i64 1, .int .i64 i] w fun e w' => e = .returned (.agg #[.string (mkT 1 i), .bool false]) ∧ Below w.heap.size w w' := by
  have hm := fun W => markTxt 1 i W (by omega) (by omega) h0 h1
  generalize mkT 1 i = v at *
  go_enter Tryz.func106, Tryz.ntmps106
  go_wp2_with fail
  refine (hm _).mono ?_
  rintro e w3 ⟨rfl, b3⟩
  have hz : w.heap.size < w3.heap.size := by have := b3.size; simp at this; omega
  have hc0 : w3.cell? ⟨w.heap.size, 0, none⟩ = some (.string ⟨#[]⟩) := by rw [b3.cell (p := ⟨w.heap.size, 0, none⟩) (by simp), World.cell?, heap_alloc_new]; rfl
  have hc1 : w3.cell? ⟨w.heap.size, 1, none⟩ = some (.bool false) := by rw [b3.cell (p := ⟨w.heap.size, 1, none⟩) (by simp), World.cell?, heap_alloc_new]; rfl
  have hf0 : w3.frozen? ⟨w.heap.size, 0, none⟩ = false := by rw [b3.frozen (p := ⟨w.heap.size, 0, none⟩) (by simp), World.frozen?, heap_alloc_new]; rfl
  have hf1 : w3.frozen? ⟨w.heap.size, 1, none⟩ = false := by rw [b3.frozen (p := ⟨w.heap.size, 1, none⟩) (by simp), World.frozen?, heap_alloc_new]; rfl
  have hB : Below w.heap.size w ((w3.setCell ⟨w.heap.size, 0, none⟩ (.string v)).setCell ⟨w.heap.size, 1, none⟩ (.bool false)) := ((((Below.refl w.heap.size w).alloc (Nat.le_refl _) _).trans (b3.mono (by simp))).setCell (p := ⟨w.heap.size, 0, none⟩) (Nat.le_refl _) _).setCell (p := ⟨w.heap.size, 1, none⟩) (Nat.le_refl _) _
  clear hm b3
  go_wp2
  exact bodyPost_ret (v := .agg #[.string v, .bool false]) (by simp [results, Tryz.results106, go_sem, hc0, hc1]) rfl ⟨rfl, hB⟩
end Go.Proofs.YtefjhehgpkljcaaGreatDoor
namespace Go.Proofs.YtefjhehgpkljcaaGreatDoor
open Go Go.RowKit
theorem run_append_ownF {P : Program} (w : World) (base : Nat) (t ty e : TypeId) (i : TypeInfo) (z : Value) (size bytes : Nat) (ht : P.underlying t = some (.slice e)) (hi : P.info? e = some i) (hz : i.zero = some z)
    (hsize : i.size = size) (hby : i.bytes = bytes) (hzs : z.cells.size = size) (hsz : 0 < size)
    (v : Value) (n : Nat) (xs : List Value) (hown : w.ownsRow base e size v n xs)
    (a : Addr) (m c : Nat) (news : List Value) (hl : news.length = m * size) (hnews : ∀ j u, news[j]? = some u → w.cell? (a.add j) = some u) (h1 : ∀ u ∈ news, u.oneCell' = true)
    (h63 : n + m ≤ maxLen) (hbytes : (n + m) * bytes ≤ 140737488355328) (hbase : base ≤ w.heap.size) :
    ∃ v' w', (Builtin.append_ #[t, t] ty #[v, .slice (some a) m c]).run P w = .ok v' w' ∧ w'.ownsRow base e size v' (n + m) (xs ++ news) ∧ w.grownBy w' v.ownBlock ∧
      (v'.ownBlock = v.ownBlock ∨ v'.ownBlock = some w.heap.size) := by
  obtain ⟨v', w', hr, h2, h3, -⟩ := run_append_own (P := P) w base t ty e i z size bytes ht hi hz hsize hby hzs hsz v n xs hown a m c news hl hnews h1 h63 hbytes hbase
  refine ⟨v', w', hr, h2, h3, ?_⟩
  subst hsize
  subst hby
  have hsmall : n + m ≤ 9223372036854775807 := by simp only [maxLen] at h63; omega
  rcases hown.2 with ⟨rfl, rfl⟩ | ⟨g, cap, cur, rfl, hbg, hg, hnc, hcm, hcs, htake⟩
  · by_cases hm : m = 0
    · subst hm
      rcases h2.2 with ⟨rfl, _⟩ | ⟨g, cap, cur, rfl, _⟩
      · exact .inl rfl
      · have hn : news = [] := List.eq_nil_of_length_eq_zero (by simpa using hl)
        subst hn
        have hr' : (Builtin.append_ #[t, t] ty #[.slice none 0 0, .slice (some a) 0 c]).run P w = .ok (.slice none 0 0) w := by
          simp [Builtin.append_, run_underlying ht, sizeOf, typeInfo, hi, Builtin.lenOf, Builtin.firstCells, loadCells, loadCellsFrom]
        rw [hr'] at hr
        cases hr
    · have hr' := run_append_nil (P := P) w t ty e i z ht hi hz a m c news hl hnews (by omega) (by omega) (by have hb := hbytes; simp only [Nat.zero_add] at hb; omega)
      rw [hr'] at hr
      cases hr
      exact .inr rfl
  · by_cases hroom : n + m ≤ cap
    · have hfit : n * i.size + news.length ≤ cur.size := by rw [hl, hcs, ← Nat.add_mul]; exact Nat.mul_le_mul_right _ hroom
      have hr' := run_append_room (P := P) w t ty e i ht hi g n cap cur hg a m c news hl hnews h1 hroom hfit
      rw [hr'] at hr
      cases hr
      exact .inl rfl
    · have holds : ∀ j u, xs[j]? = some u → w.cell? ((⟨g, 0, none⟩ : Addr).add j) = some u := hown.cells (g := g) rfl
      have hr' := run_append_grow (P := P) w t ty e i z ht hi hz ⟨g, 0, none⟩ n cap xs hown.1 holds a m c news hl hnews (by omega) (by omega) (growslice_fits (by omega) hbytes)
      rw [hr'] at hr
      cases hr
      exact .inr rfl
theorem wpList_appF {P : Program} {w : World} {ops : Array Oper} {rest : List Oper} {o : Oper} {a : Act} {Q : Exit → Act → World → Prop} {s x : Operand} {t : TypeId}
    (ho : o.op = .call { callee := .builtin .append, args := #[s, x], argTypes := #[t, t] }) (hgd : o.guard = none)
    {e : TypeId} {z : Value} {size bytes : Nat} (ht : P.underlying t = some (.slice e)) (hinfo : (P.info? e).map (fun i => (i.zero, i.size, i.bytes)) = some (some z, size, bytes))
    (hzs : z.cells.size = size) (hsz : 0 < size)
    {base : Nat} {v : Value} {n : Nat} {xs : List Value} (hs : a.eval s = v) (hown : w.ownsRow base e size v n xs)
    {g off m c : Nat} {news : List Value} (hx : a.eval x = .slice (some ⟨g, off, none⟩) m c) (hr : ∀ j u, news[j]? = some u → w.cell? ⟨g, off + j, none⟩ = some u) (hl : news.length = m * size) (h1 : ∀ u ∈ news, u.oneCell' = true)
    (hbytes : (n + m) * bytes ≤ 140737488355328) (h63 : n + m ≤ 9223372036854775807) (hbase : base ≤ w.heap.size)
    (h : ∀ v' w', w'.ownsRow base e size v' (n + m) (xs ++ news) → Below base w w' → w.grownBy w' v.ownBlock → (v'.ownBlock = v.ownBlock ∨ v'.ownBlock = some w.heap.size) → wpList P ops Q rest (a.put o.dst v') w') : wpList P ops Q (o :: rest) a w := by
  obtain ⟨i, hi, hz, hsize, hby⟩ := info_parts hinfo
  refine wpList_plain hgd fun K hK => ?_
  obtain ⟨v', w', hrun, h2, h3, h4⟩ := run_append_ownF (P := P) w base t o.type e i z size bytes ht hi hz hsize hby hzs hsz v n xs hown ⟨g, off, none⟩ m c news hl (fun j u hu => by rw [add_zero_spot]; exact hr j u hu) h1 (by simp only [maxLen]; omega) hbytes hbase
  unfold Oper.wp execOp
  simp only [ho, resolve, invoke, builtin, Sem.run_bind, Sem.run_pure, Result.andThen_ok, List.map_toArray, List.map_cons, List.map_nil, hs, hx, hrun]
  exact hK _ _ (h v' w' h2 ((Below.refl _ _).grown h3 hbase fun k hk => (hown.lt k hk).1) h3 h4)
/-- Blocks that lay before; these, and the row of a slice. -/
def oldB (S : Nat) : Nat → Obj → Bool := fun b _ => decide (b < S)
def hideR (S : Nat) (v : Value) : Nat → Obj → Bool := fun b _ => decide (b < S) || decide (v.ownBlock = some b)
theorem old_cell {S : Nat} {w : World} {p : Addr} {u : Value} : (wo (oldB S) w).cell? p = some u ↔ (w.cell? p = some u ∧ S ≤ p.block) := by
  unfold oldB; rw [wo_cellN (h := fun b => decide (b < S))]; simp
theorem hide_cell {S : Nat} {v : Value} {w : World} {p : Addr} {u : Value} : (wo (hideR S v) w).cell? p = some u ↔ (w.cell? p = some u ∧ S ≤ p.block ∧ v.ownBlock ≠ some p.block) := by
  unfold hideR; rw [wo_cellN (h := fun b => decide (b < S) || decide (v.ownBlock = some b))]; simp
theorem CM.new_all {S : Nat} {w : World} : CM (wo (oldB S) w) w := fun _ _ h => (old_cell.1 h).1
theorem CM.hide_old {S : Nat} {v : Value} {w : World} : CM (wo (hideR S v) w) (wo (oldB S) w) := fun _ _ h => by
  obtain ⟨h1, h2, _⟩ := hide_cell.1 h
  exact old_cell.2 ⟨h1, h2⟩
/-- A row grew: what lay outside it lies outside it. -/
theorem CM.row {S : Nat} {v v' : Value} {w w1 w' : World} (hb : Below w.heap.size w w1) (hg : w1.grownBy w' v.ownBlock) (hv : v'.ownBlock = v.ownBlock ∨ v'.ownBlock = some w1.heap.size) : CM (wo (hideR S v) w) (wo (hideR S v') w') := fun p u h => by
  obtain ⟨h1, h2, h3⟩ := hide_cell.1 h
  have h4 := cell_on h1 hb
  refine hide_cell.2 ⟨hg.cell h4 (fun e => h3 e.symm), h2, ?_⟩
  rcases hv with e | e
  · rw [e]; exact h3
  · rw [e]
    have := cell_lt h4
    intro h; have h5 := Option.some.inj h; omega
/-- What a call made lies outside a row that lay before. -/
theorem CM.new_row {S T : Nat} {v v' : Value} {w1 w2 w' : World} (hb : Below w1.heap.size w1 w2) (hST : S ≤ T) (hv : ∀ g, v.ownBlock = some g → g < T) (hg : w2.grownBy w' v.ownBlock) (hv' : v'.ownBlock = v.ownBlock ∨ v'.ownBlock = some w2.heap.size) : CM (wo (oldB T) w1) (wo (hideR S v') w') := fun p u h => by
  obtain ⟨h1, h2⟩ := old_cell.1 h
  have h4 := cell_on h1 hb
  have hne : v.ownBlock ≠ some p.block := fun e => by have := hv _ e; omega
  refine hide_cell.2 ⟨hg.cell h4 (fun e => hne e.symm), by omega, ?_⟩
  rcases hv' with e | e
  · rw [e]; exact hne
  · rw [e]
    have := cell_lt h4
    intro h; have h5 := Option.some.inj h; omega
/-- A row of the call's own, read without what lay before. -/
theorem Rd.own_new {w : World} {base : Nat} {e : TypeId} {size n : Nat} {v : Value} {xs : List Value} (h : w.ownsRow base e size v n xs) : (wo (oldB base) w).ownsRow base e size v n xs := by
  refine ⟨h.1, ?_⟩
  rcases h.2 with h0 | ⟨g, cap, cur, hv, hg, hh, r⟩
  · exact .inl h0
  · refine .inr ⟨g, cap, cur, hv, hg, ?_, r⟩
    unfold wo oldB
    simp only [Array.getElem?_mapIdx, hh, Option.map_some]
    rw [if_neg]
    simp; omega
end Go.Proofs.YtefjhehgpkljcaaGreatDoor
namespace Go.Proofs.YtefjhehgpkljcaaGreatDoor
open Go Go.RowKit Um Fm

/-- Two lists are, one by one. -/
def eqL {α : Type} (p : α → α → Bool) : List α → List α → Bool
  | [], [] => true
  | a :: l, b :: m => p a b && eqL p l m
  | [], _ :: _ => false
  | _ :: _, [] => false
theorem eqL_iff {α : Type} {p : α → α → Bool} : ∀ {l m : List α}, (∀ a ∈ l, ∀ b, p a b = true ↔ a = b) → (eqL p l m = true ↔ l = m)
  | [], [], _ => by simp [eqL]
  | a :: l, b :: m, h => by
    rw [eqL, Bool.and_eq_true, h a (by simp) b, eqL_iff (fun a ha b => h a (by simp [ha]) b)]
    simp
  | [], _ :: _, _ => by simp [eqL]
  | _ :: _, [], _ => by simp [eqL]
theorem eqL_len {α : Type} {p : α → α → Bool} : ∀ {l m : List α}, l.length ≠ m.length → eqL p l m = false
  | [], [], h => absurd rfl h
  | a :: l, b :: m, h => by rw [eqL, eqL_len (fun e => h (by simp [e])), Bool.and_false]
  | [], _ :: _, _ => rfl
  | _ :: _, [], _ => rfl
theorem eqL_take {α : Type} {p : α → α → Bool} : ∀ {l m : List α} {j : Nat} {a b : α}, l.length = m.length → l[j]? = some a → m[j]? = some b → eqL p l m = (eqL p (l.take j) (m.take j) && (p a b && eqL p (l.drop (j + 1)) (m.drop (j + 1))))
  | [], _, _, _, _, _, h, _ => by simp at h
  | _ :: _, [], _, _, _, h, _, _ => by simp at h
  | x :: l, y :: m, 0, a, b, h, ha, hb => by
    simp at ha hb; subst ha; subst hb
    simp [eqL]
  | x :: l, y :: m, j + 1, a, b, h, ha, hb => by
    simp at ha hb
    have := eqL_take (p := p) (l := l) (m := m) (j := j) (by simpa using h) ha hb
    simp only [List.take_succ_cons, List.drop_succ_cons, eqL]
    rw [this, Bool.and_assoc]
def beqS (a b : ByteArray) : Bool := a.toList == b.toList
theorem beqS_iff {a b : ByteArray} : beqS a b = true ↔ a = b := Lib.bytes_beq_iff a b
theorem sameTm_iff {a b : Tm} : sameTm a b = true ↔ a = b := by
  obtain ⟨k, x, l, y⟩ := a
  obtain ⟨k', x', l', y'⟩ := b
  unfold sameTm
  simp only [Bool.and_eq_true, beq_iff_eq, Tm.mk.injEq, and_assoc]
  rw [← Lib.bytes_beq_iff x x', ← Lib.bytes_beq_iff l l', ← Lib.bytes_beq_iff y y']
  simp
/-- Two conditions are the same. -/
def sameE : (n : Nat) → ExT n → ExT n → Bool
  | 0, _, _ => true
  | n + 1, (k, s, t, ks), (k', s', t', ks') => k == k' && beqS s s' && sameTm t t' && eqL (sameE n) ks ks'
theorem sameE_iff : ∀ {n : Nat} {a b : ExT n}, sameE n a b = true ↔ a = b
  | 0, a, _ => nomatch (show Empty from a)
  | n + 1, (k, s, t, ks), (k', s', t', ks') => by
    rw [sameE]
    simp only [Bool.and_eq_true, beq_iff_eq, beqS_iff, sameTm_iff]
    rw [eqL_iff (fun a _ b => sameE_iff)]
    constructor
    · rintro ⟨⟨⟨rfl, rfl⟩, rfl⟩, rfl⟩; rfl
    · intro h
      have h1 := congrArg Prod.fst h
      have h2 := congrArg (fun x => x.2.1) h
      have h3 := congrArg (fun x => x.2.2.1) h
      have h4 := congrArg (fun x => x.2.2.2) h
      exact ⟨⟨⟨h1, h2⟩, h3⟩, h4⟩
def sameSl (a b : Sl) : Bool := beqS a.v b.v && sameTm a.t b.t
theorem sameSl_iff {a b : Sl} : sameSl a b = true ↔ a = b := by
  obtain ⟨v, t⟩ := a; obtain ⟨v', t'⟩ := b
  unfold sameSl
  simp only [Bool.and_eq_true, beqS_iff, sameTm_iff, Sl.mk.injEq]
def samePat (a b : Pat) : Bool := sameSl a.s b.s && sameSl a.p b.p && sameSl a.o b.o
theorem samePat_iff {a b : Pat} : samePat a b = true ↔ a = b := by
  obtain ⟨v, t, u⟩ := a; obtain ⟨v', t', u'⟩ := b
  unfold samePat
  simp only [Bool.and_eq_true, sameSl_iff, Pat.mk.injEq, and_assoc]
def sameKy (a b : Ky) : Bool := beqS a.v b.v && a.d == b.d
theorem sameKy_iff {a b : Ky} : sameKy a b = true ↔ a = b := by
  obtain ⟨v, t⟩ := a; obtain ⟨v', t'⟩ := b
  unfold sameKy
  simp only [Bool.and_eq_true, beqS_iff, beq_iff_eq, Ky.mk.injEq]
def sameQ {n : Nat} (a b : Qy n) : Bool := a.ask == b.ask && a.dist == b.dist && a.lim == b.lim && a.off == b.off && eqL beqS a.vars b.vars && eqL samePat a.pats b.pats && eqL sameKy a.ord b.ord && eqL (sameE n) a.fils b.fils
theorem sameQ_iff {n : Nat} {a b : Qy n} : sameQ a b = true ↔ a = b := by
  obtain ⟨a1, a2, a3, a4, a5, a6, a7, a8⟩ := a
  obtain ⟨b1, b2, b3, b4, b5, b6, b7, b8⟩ := b
  unfold sameQ
  simp only [Bool.and_eq_true, beq_iff_eq, eqL_iff (fun a _ b => beqS_iff), eqL_iff (fun a _ b => samePat_iff), eqL_iff (fun a _ b => sameKy_iff), eqL_iff (fun a _ b => sameE_iff), Qy.mk.injEq]
  constructor
  · rintro ⟨⟨⟨⟨⟨⟨⟨rfl, rfl⟩, rfl⟩, rfl⟩, rfl⟩, rfl⟩, rfl⟩, rfl⟩; simp
  · rintro ⟨rfl, rfl, rfl, rfl, rfl, rfl, rfl, rfl⟩; simp
end Go.Proofs.YtefjhehgpkljcaaGreatDoor
