/- Layer 22's law, walked: a query that is right. -/
import Derived.Test.YtafaanegkoolgaaGreatDoorJLaw22g
import Derived.Test.YtafaanegkoolgaaGreatDoorJUsed
import Derived.Test.YtafaanegkoolgaaGreatDoorJChk4
namespace Go.Proofs.YtafaanegkoolgaaGreatDoor
open Go Go.RowKit Um Fm Mt

theorem l22Free (s : ByteArray) (w : World) : Calls Tryz.prog 117 #[.string s] w fun e w' => e = .returned (.agg #[.string s, .int .i64 0, .string ⟨#[]⟩, .string ⟨#[]⟩, .string ⟨#[]⟩]) ∧ Below w.heap.size w w' := by
  go_enter Tryz.func117, Tryz.ntmps117
  go_wp2
  exact bodyPost_ret (v := .agg #[.string s, .int .i64 0, .string ⟨#[]⟩, .string ⟨#[]⟩, .string ⟨#[]⟩]) (by simp [results, Tryz.results117, go_sem]) rfl ⟨rfl, (by repeat (first | exact Below.refl _ _ | assumption | exact (Below.refl _ _).alloc (Nat.le_refl _) _ | refine below_tr ?_ (by assumption) | refine below_alloc ?_ | refine below_tr ?_ (below_regrown _ _ _)))⟩
theorem l22Iri (s : ByteArray) (w : World) : Calls Tryz.prog 119 #[.string s] w fun e w' => e = .returned (.agg #[.int .i64 1, .string s, .string ⟨#[]⟩, .string ⟨#[]⟩]) ∧ Below w.heap.size w w' := by
  go_enter Tryz.func119, Tryz.ntmps119
  go_wp2
  exact bodyPost_ret (v := .agg #[.int .i64 1, .string s, .string ⟨#[]⟩, .string ⟨#[]⟩]) (by simp [results, Tryz.results119, go_sem]) rfl ⟨rfl, (by repeat (first | exact Below.refl _ _ | assumption | exact (Below.refl _ _).alloc (Nat.le_refl _) _ | refine below_tr ?_ (by assumption) | refine below_alloc ?_ | refine below_tr ?_ (below_regrown _ _ _)))⟩
theorem l22One (t : Tm) (w : World) : Calls Tryz.prog 118 #[.agg #[.int .i64 t.k, .string t.x, .string t.l, .string t.y]] w fun e w' => e = .returned (.agg #[.string ⟨#[]⟩, .int .i64 t.k, .string t.x, .string t.l, .string t.y]) ∧ Below w.heap.size w w' := by
  go_enter Tryz.func118, Tryz.ntmps118
  go_wp2
  exact bodyPost_ret (v := .agg #[.string ⟨#[]⟩, .int .i64 t.k, .string t.x, .string t.l, .string t.y]) (by simp [results, Tryz.results118, go_sem]) rfl ⟨rfl, (by repeat (first | exact Below.refl _ _ | assumption | exact (Below.refl _ _).alloc (Nat.le_refl _) _ | refine below_tr ?_ (by assumption) | refine below_alloc ?_ | refine below_tr ?_ (below_regrown _ _ _)))⟩
theorem l22Leaf (s : ByteArray) (w : World) : Calls Tryz.prog 120 #[.string s] w fun e w' => e = .returned (.agg #[.int .i64 1, .string s, .int .i64 0, .string ⟨#[]⟩, .string ⟨#[]⟩, .string ⟨#[]⟩, .slice none 0 0]) ∧ Below w.heap.size w w' := by
  go_enter Tryz.func120, Tryz.ntmps120
  go_wp2
  exact bodyPost_ret (v := .agg #[.int .i64 1, .string s, .int .i64 0, .string ⟨#[]⟩, .string ⟨#[]⟩, .string ⟨#[]⟩, .slice none 0 0]) (by simp [results, Tryz.results120, go_sem]) rfl ⟨rfl, (by repeat (first | exact Below.refl _ _ | assumption | exact (Below.refl _ _).alloc (Nat.le_refl _) _ | refine below_tr ?_ (by assumption) | refine below_alloc ?_ | refine below_tr ?_ (below_regrown _ _ _)))⟩
def sx : ByteArray := ⟨#[120]⟩
def sy : ByteArray := ⟨#[121]⟩
def sz : ByteArray := ⟨#[122]⟩
def tIri (s : ByteArray) : Tm := ⟨1, s, ⟨#[]⟩, ⟨#[]⟩⟩
def goodP : List Pat := [⟨⟨sx, zTm⟩, ⟨⟨#[]⟩, tIri ⟨#[112]⟩⟩, ⟨sy, zTm⟩⟩, ⟨⟨sy, zTm⟩, ⟨sz, zTm⟩, ⟨sx, zTm⟩⟩]
def goodF1 : ExT 1 := (1, sx, zTm, [])
def goodF2 : ExT 1 := (2, ⟨#[]⟩, tIri ⟨#[117]⟩, [])
def goodF3 : ExT 2 := (6, ⟨#[]⟩, zTm, [goodF1, goodF2])
def goodF : ExT 3 := (3, ⟨#[]⟩, zTm, [goodF3])
def goodQ : Qy 3 := ⟨false, false, [sx], goodP, [goodF], [⟨sy, true⟩], 5, 0⟩
def GoodR (w : World) (e : Ending) (w' : World) : Prop := ∃ a1 a2 a3 a4 : Option Addr, e = .returned (.agg #[.bool false, .bool false, .slice a1 1 1, .slice a2 2 2, .slice a3 1 1, .slice a4 1 1, .int .i64 5, .int .i64 0]) ∧
  Rd w' a1 [.string sx] ∧ RdPat w' a2 goodP ∧ RdEs 3 w' a3 [goodF] ∧ RdKey w' a4 [⟨sy, true⟩] ∧ Below w.heap.size w w'
set_option maxRecDepth 100000 in
set_option maxHeartbeats 4000000 in
theorem l22Good (w : World) : Calls Tryz.prog 43 #[] w (GoodR w) := by
  go_enter Tryz.func43, Tryz.ntmps43
  go_wp2_with fail
  refine (l22Free _ _).mono ?_
  rintro e w1 ⟨rfl, b1⟩
  go_wp2_with fail
  refine (l22Iri _ _).mono ?_
  rintro e w2 ⟨rfl, b2⟩
  go_wp2_with fail
  refine (l22One ⟨1, ⟨#[112]⟩, ⟨#[]⟩, ⟨#[]⟩⟩ _).mono ?_
  rintro e w3 ⟨rfl, b3⟩
  go_wp2_with fail
  refine (l22Free _ _).mono ?_
  rintro e w4 ⟨rfl, b4⟩
  go_wp2_with fail
  refine (l22Free _ _).mono ?_
  rintro e w5 ⟨rfl, b5⟩
  go_wp2_with fail
  refine (l22Free _ _).mono ?_
  rintro e w6 ⟨rfl, b6⟩
  go_wp2_with fail
  refine (l22Free _ _).mono ?_
  rintro e w7 ⟨rfl, b7⟩
  go_wp2_with fail
  refine (l22Leaf _ _).mono ?_
  rintro e w8 ⟨rfl, b8⟩
  go_wp2_with fail
  refine (l22Iri _ _).mono ?_
  rintro e w9 ⟨rfl, b9⟩
  have z0 : w.heap.size < (w.alloc (.cells #[.bool false, .bool false, .slice none 0 0, .slice none 0 0, .slice none 0 0, .slice none 0 0, .int .i64 0, .int .i64 0] 27)).heap.size := by simp
  have B7 := below_tr b1 (below_tr b2 (below_tr b3 (below_tr b4 (below_tr b5 (below_tr b6 b7)))))
  have P7 : RdPat (w7.alloc (.cells (goodP.flatMap cPat).toArray 51)) (some ⟨w7.heap.size, 0, none⟩) goodP := ⟨_, Rd.of_block (heap_alloc_new w7 _) rfl, All.of_flat _ fun _ _ => rfl⟩
  have z7 : w.heap.size < w7.heap.size := Nat.lt_of_lt_of_le z0 B7.size
  have B79 : Below w7.heap.size w7 w9 := below_tr (by repeat (first | exact Below.refl _ _ | assumption | exact (Below.refl _ _).alloc (Nat.le_refl _) _ | refine below_tr ?_ (by assumption) | refine below_alloc ?_ | refine below_tr ?_ (below_regrown _ _ _))) (below_tr b8 b9)
  have B09 := below_tr B7 B79
  have P9 : RdPat w9 (some ⟨w7.heap.size, 0, none⟩) goodP := RdL.mono P7 (below_tr b8 b9) fun _ _ _ h => h
  have z9 : w.heap.size < w9.heap.size := Nat.lt_of_lt_of_le z0 B09.size
  have hrow : w9.heap[w.heap.size]? = some (.cells #[.bool false, .bool false, .slice none 0 0, .slice none 0 0, .slice none 0 0, .slice none 0 0, .int .i64 0, .int .i64 0] 27 (0, 0)) := by
    rw [B09.block _ z0]; exact heap_alloc_new _ _
  have hrow0 := Lib.hid hrow
  have hQi : (Tryz.prog.info? 27).map (·.size) = some 8 := by kernel_rfl
  clear b1 b2 b3 b4 b5 b6 b7 b8 b9 P7
  have HVrow : Hid ((((((w9.alloc (.cells #[.int .i64 1, .string ⟨#[120]⟩, .int .i64 0, .string ⟨#[]⟩, .string ⟨#[]⟩, .string ⟨#[]⟩, .slice none 0 0, .int .i64 2, .string ⟨#[]⟩, .int .i64 1, .string ⟨#[117]⟩, .string ⟨#[]⟩, .string ⟨#[]⟩, .slice none 0 0] 38)).alloc (.cells #[.int .i64 6, .string ⟨#[]⟩, .int .i64 0, .string ⟨#[]⟩, .string ⟨#[]⟩, .string ⟨#[]⟩, .slice (some ⟨w9.heap.size, 0, none⟩) 2 2] 38)).alloc (.cells #[.int .i64 3, .string ⟨#[]⟩, .int .i64 0, .string ⟨#[]⟩, .string ⟨#[]⟩, .string ⟨#[]⟩, .slice (some ⟨w9.heap.size + 1, 0, none⟩) 1 1] 38)).alloc (.cells #[.string ⟨#[120]⟩] 9)).alloc (.cells #[.string ⟨#[121]⟩, .bool true] 66)).heap[w.heap.size]? = some (.cells #[.bool false, .bool false, .slice none 0 0, .slice none 0 0, .slice none 0 0, .slice none 0 0, .int .i64 0, .int .i64 0] 27 (0, 0))) := by
    show _ = _
    rw [Below.heap_alloc _ _ _ (by first | omega | (simp; omega)), Below.heap_alloc _ _ _ (by first | omega | (simp; omega)), Below.heap_alloc _ _ _ (by first | omega | (simp; omega)), Below.heap_alloc _ _ _ (by first | omega | (simp; omega)), Below.heap_alloc _ _ _ (by first | omega | (simp; omega))]
    exact hrow
  clear hrow
  go_wp2_with (refine wpList_store_row rfl 27 _ _ rfl rfl rfl hQi HVrow.out rfl rfl ?_)
  obtain ⟨V, hV⟩ : ∃ V : World, (((((w9.alloc (.cells #[.int .i64 1, .string ⟨#[120]⟩, .int .i64 0, .string ⟨#[]⟩, .string ⟨#[]⟩, .string ⟨#[]⟩, .slice none 0 0, .int .i64 2, .string ⟨#[]⟩, .int .i64 1, .string ⟨#[117]⟩, .string ⟨#[]⟩, .string ⟨#[]⟩, .slice none 0 0] 38)).alloc (.cells #[.int .i64 6, .string ⟨#[]⟩, .int .i64 0, .string ⟨#[]⟩, .string ⟨#[]⟩, .string ⟨#[]⟩, .slice (some ⟨w9.heap.size, 0, none⟩) 2 2] 38)).alloc (.cells #[.int .i64 3, .string ⟨#[]⟩, .int .i64 0, .string ⟨#[]⟩, .string ⟨#[]⟩, .string ⟨#[]⟩, .slice (some ⟨w9.heap.size + 1, 0, none⟩) 1 1] 38)).alloc (.cells #[.string ⟨#[120]⟩] 9)).alloc (.cells #[.string ⟨#[121]⟩, .bool true] 66)) = V := ⟨_, rfl⟩
  have v9 : Below w9.heap.size w9 V := by rw [← hV]; exact (by repeat (first | exact Below.refl _ _ | assumption | exact (Below.refl _ _).alloc (Nat.le_refl _) _ | refine below_tr ?_ (by assumption) | refine below_alloc ?_ | refine below_tr ?_ (below_regrown _ _ _)))
  have v0 : V.heap[w9.heap.size]? = some (.cells #[.int .i64 1, .string ⟨#[120]⟩, .int .i64 0, .string ⟨#[]⟩, .string ⟨#[]⟩, .string ⟨#[]⟩, .slice none 0 0, .int .i64 2, .string ⟨#[]⟩, .int .i64 1, .string ⟨#[117]⟩, .string ⟨#[]⟩, .string ⟨#[]⟩, .slice none 0 0] 38 (0, 0)) := by
    rw [← hV, Below.heap_alloc _ _ _ (by first | omega | (simp; done) | (simp; omega)), Below.heap_alloc _ _ _ (by first | omega | (simp; done) | (simp; omega)), Below.heap_alloc _ _ _ (by first | omega | (simp; done) | (simp; omega)), Below.heap_alloc _ _ _ (by first | omega | (simp; done) | (simp; omega))]
    have := heap_alloc_new w9 (.cells #[.int .i64 1, .string ⟨#[120]⟩, .int .i64 0, .string ⟨#[]⟩, .string ⟨#[]⟩, .string ⟨#[]⟩, .slice none 0 0, .int .i64 2, .string ⟨#[]⟩, .int .i64 1, .string ⟨#[117]⟩, .string ⟨#[]⟩, .string ⟨#[]⟩, .slice none 0 0] 38)
    simpa using this
  have v1 : V.heap[w9.heap.size + 1]? = some (.cells #[.int .i64 6, .string ⟨#[]⟩, .int .i64 0, .string ⟨#[]⟩, .string ⟨#[]⟩, .string ⟨#[]⟩, .slice (some ⟨w9.heap.size, 0, none⟩) 2 2] 38 (0, 0)) := by
    rw [← hV, Below.heap_alloc _ _ _ (by first | omega | (simp; done) | (simp; omega)), Below.heap_alloc _ _ _ (by first | omega | (simp; done) | (simp; omega)), Below.heap_alloc _ _ _ (by first | omega | (simp; done) | (simp; omega))]
    have := heap_alloc_new (w9.alloc (.cells #[.int .i64 1, .string ⟨#[120]⟩, .int .i64 0, .string ⟨#[]⟩, .string ⟨#[]⟩, .string ⟨#[]⟩, .slice none 0 0, .int .i64 2, .string ⟨#[]⟩, .int .i64 1, .string ⟨#[117]⟩, .string ⟨#[]⟩, .string ⟨#[]⟩, .slice none 0 0] 38)) (.cells #[.int .i64 6, .string ⟨#[]⟩, .int .i64 0, .string ⟨#[]⟩, .string ⟨#[]⟩, .string ⟨#[]⟩, .slice (some ⟨w9.heap.size, 0, none⟩) 2 2] 38)
    simpa using this
  have v2 : V.heap[w9.heap.size + 1 + 1]? = some (.cells #[.int .i64 3, .string ⟨#[]⟩, .int .i64 0, .string ⟨#[]⟩, .string ⟨#[]⟩, .string ⟨#[]⟩, .slice (some ⟨w9.heap.size + 1, 0, none⟩) 1 1] 38 (0, 0)) := by
    rw [← hV, Below.heap_alloc _ _ _ (by first | omega | (simp; done) | (simp; omega)), Below.heap_alloc _ _ _ (by first | omega | (simp; done) | (simp; omega))]
    have := heap_alloc_new ((w9.alloc (.cells #[.int .i64 1, .string ⟨#[120]⟩, .int .i64 0, .string ⟨#[]⟩, .string ⟨#[]⟩, .string ⟨#[]⟩, .slice none 0 0, .int .i64 2, .string ⟨#[]⟩, .int .i64 1, .string ⟨#[117]⟩, .string ⟨#[]⟩, .string ⟨#[]⟩, .slice none 0 0] 38)).alloc (.cells #[.int .i64 6, .string ⟨#[]⟩, .int .i64 0, .string ⟨#[]⟩, .string ⟨#[]⟩, .string ⟨#[]⟩, .slice (some ⟨w9.heap.size, 0, none⟩) 2 2] 38)) (.cells #[.int .i64 3, .string ⟨#[]⟩, .int .i64 0, .string ⟨#[]⟩, .string ⟨#[]⟩, .string ⟨#[]⟩, .slice (some ⟨w9.heap.size + 1, 0, none⟩) 1 1] 38)
    simpa using this
  have v3 : V.heap[w9.heap.size + 1 + 1 + 1]? = some (.cells #[.string ⟨#[120]⟩] 9 (0, 0)) := by
    rw [← hV, Below.heap_alloc _ _ _ (by first | omega | (simp; done) | (simp; omega))]
    have := heap_alloc_new (((w9.alloc (.cells #[.int .i64 1, .string ⟨#[120]⟩, .int .i64 0, .string ⟨#[]⟩, .string ⟨#[]⟩, .string ⟨#[]⟩, .slice none 0 0, .int .i64 2, .string ⟨#[]⟩, .int .i64 1, .string ⟨#[117]⟩, .string ⟨#[]⟩, .string ⟨#[]⟩, .slice none 0 0] 38)).alloc (.cells #[.int .i64 6, .string ⟨#[]⟩, .int .i64 0, .string ⟨#[]⟩, .string ⟨#[]⟩, .string ⟨#[]⟩, .slice (some ⟨w9.heap.size, 0, none⟩) 2 2] 38)).alloc (.cells #[.int .i64 3, .string ⟨#[]⟩, .int .i64 0, .string ⟨#[]⟩, .string ⟨#[]⟩, .string ⟨#[]⟩, .slice (some ⟨w9.heap.size + 1, 0, none⟩) 1 1] 38)) (.cells #[.string ⟨#[120]⟩] 9)
    simpa using this
  have v4 : V.heap[w9.heap.size + 1 + 1 + 1 + 1]? = some (.cells #[.string ⟨#[121]⟩, .bool true] 66 (0, 0)) := by
    rw [← hV]
    have := heap_alloc_new ((((w9.alloc (.cells #[.int .i64 1, .string ⟨#[120]⟩, .int .i64 0, .string ⟨#[]⟩, .string ⟨#[]⟩, .string ⟨#[]⟩, .slice none 0 0, .int .i64 2, .string ⟨#[]⟩, .int .i64 1, .string ⟨#[117]⟩, .string ⟨#[]⟩, .string ⟨#[]⟩, .slice none 0 0] 38)).alloc (.cells #[.int .i64 6, .string ⟨#[]⟩, .int .i64 0, .string ⟨#[]⟩, .string ⟨#[]⟩, .string ⟨#[]⟩, .slice (some ⟨w9.heap.size, 0, none⟩) 2 2] 38)).alloc (.cells #[.int .i64 3, .string ⟨#[]⟩, .int .i64 0, .string ⟨#[]⟩, .string ⟨#[]⟩, .string ⟨#[]⟩, .slice (some ⟨w9.heap.size + 1, 0, none⟩) 1 1] 38)).alloc (.cells #[.string ⟨#[120]⟩] 9)) (.cells #[.string ⟨#[121]⟩, .bool true] 66)
    simpa using this
  have HV := Lib.hid hV
  simp only [hV]
  clear hV HVrow
  have hz1 : ∀ i, w9.heap.size + i ≠ w.heap.size := fun i => by omega
  obtain ⟨F, hF⟩ : ∃ F : World, V.setRow w.heap.size #[.bool false, .bool false, .slice (some ⟨w9.heap.size + 1 + 1 + 1, 0, none⟩) 1 1, .slice (some ⟨w7.heap.size, 0, none⟩) 2 2, .slice (some ⟨w9.heap.size + 1 + 1, 0, none⟩) 1 1, .slice (some ⟨w9.heap.size + 1 + 1 + 1 + 1, 0, none⟩) 1 1, .int .i64 5, .int .i64 0] = F := ⟨_, rfl⟩
  have BF : Below w.heap.size w F := by rw [← hF]; exact below_setRow ((((Below.refl w.heap.size w).alloc (Nat.le_refl _) _).trans (B09.mono (Nat.le_of_lt z0))).trans (v9.mono (Nat.le_of_lt z9))) (Nat.le_refl _) _
  have R0 := rd_row (g := w.heap.size) (vs := #[.bool false, .bool false, .slice (some ⟨w9.heap.size + 1 + 1 + 1, 0, none⟩) 1 1, .slice (some ⟨w7.heap.size, 0, none⟩) 2 2, .slice (some ⟨w9.heap.size + 1 + 1, 0, none⟩) 1 1, .slice (some ⟨w9.heap.size + 1 + 1 + 1 + 1, 0, none⟩) 1 1, .int .i64 5, .int .i64 0]) (Rd.of_block v0 rfl) (fun a ha => by cases ha; simp; omega)
  have R1 := rd_row (g := w.heap.size) (vs := #[.bool false, .bool false, .slice (some ⟨w9.heap.size + 1 + 1 + 1, 0, none⟩) 1 1, .slice (some ⟨w7.heap.size, 0, none⟩) 2 2, .slice (some ⟨w9.heap.size + 1 + 1, 0, none⟩) 1 1, .slice (some ⟨w9.heap.size + 1 + 1 + 1 + 1, 0, none⟩) 1 1, .int .i64 5, .int .i64 0]) (Rd.of_block v1 rfl) (fun a ha => by cases ha; simp; omega)
  have R2 := rd_row (g := w.heap.size) (vs := #[.bool false, .bool false, .slice (some ⟨w9.heap.size + 1 + 1 + 1, 0, none⟩) 1 1, .slice (some ⟨w7.heap.size, 0, none⟩) 2 2, .slice (some ⟨w9.heap.size + 1 + 1, 0, none⟩) 1 1, .slice (some ⟨w9.heap.size + 1 + 1 + 1 + 1, 0, none⟩) 1 1, .int .i64 5, .int .i64 0]) (Rd.of_block v2 rfl) (fun a ha => by cases ha; simp; omega)
  have R3 := rd_row (g := w.heap.size) (vs := #[.bool false, .bool false, .slice (some ⟨w9.heap.size + 1 + 1 + 1, 0, none⟩) 1 1, .slice (some ⟨w7.heap.size, 0, none⟩) 2 2, .slice (some ⟨w9.heap.size + 1 + 1, 0, none⟩) 1 1, .slice (some ⟨w9.heap.size + 1 + 1 + 1 + 1, 0, none⟩) 1 1, .int .i64 5, .int .i64 0]) (Rd.of_block v3 rfl) (fun a ha => by cases ha; simp; omega)
  have R4 := rd_row (g := w.heap.size) (vs := #[.bool false, .bool false, .slice (some ⟨w9.heap.size + 1 + 1 + 1, 0, none⟩) 1 1, .slice (some ⟨w7.heap.size, 0, none⟩) 2 2, .slice (some ⟨w9.heap.size + 1 + 1, 0, none⟩) 1 1, .slice (some ⟨w9.heap.size + 1 + 1 + 1 + 1, 0, none⟩) 1 1, .int .i64 5, .int .i64 0]) (Rd.of_block v4 rfl) (fun a ha => by cases ha; simp; omega)
  obtain ⟨xs, hxs, hall⟩ : RdPat V (some ⟨w7.heap.size, 0, none⟩) goodP := RdL.mono P9 v9 fun _ _ _ h => h
  have R5 := rd_row (g := w.heap.size) (vs := #[.bool false, .bool false, .slice (some ⟨w9.heap.size + 1 + 1 + 1, 0, none⟩) 1 1, .slice (some ⟨w7.heap.size, 0, none⟩) 2 2, .slice (some ⟨w9.heap.size + 1 + 1, 0, none⟩) 1 1, .slice (some ⟨w9.heap.size + 1 + 1 + 1 + 1, 0, none⟩) 1 1, .int .i64 5, .int .i64 0]) hxs (fun a ha => by cases ha; simp; omega)
  rw [hF] at R0 R1 R2 R3 R4 R5
  have e1 : RdEs 1 F (some ⟨w9.heap.size, 0, none⟩) [goodF1, goodF2] := ⟨_, R0, [.int .i64 1, .string ⟨#[120]⟩, .int .i64 0, .string ⟨#[]⟩, .string ⟨#[]⟩, .string ⟨#[]⟩, .slice none 0 0], _, rfl, rfl, ⟨none, 0, rfl, Nat.le_refl _, RdL.nil _ _ _ _⟩, [.int .i64 2, .string ⟨#[]⟩, .int .i64 1, .string ⟨#[117]⟩, .string ⟨#[]⟩, .string ⟨#[]⟩, .slice none 0 0], _, rfl, rfl, ⟨none, 0, rfl, Nat.le_refl _, RdL.nil _ _ _ _⟩, rfl⟩
  have e2 : RdEs 2 F (some ⟨w9.heap.size + 1, 0, none⟩) [goodF3] := ⟨_, R1, All.one rfl ⟨_, 2, rfl, Nat.le_refl _, e1⟩⟩
  have e3 : RdEs 3 F (some ⟨w9.heap.size + 1 + 1, 0, none⟩) [goodF] := ⟨_, R2, All.one rfl ⟨_, 1, rfl, Nat.le_refl _, e2⟩⟩
  have hrowF : F.heap[w.heap.size]? = some (.cells #[.bool false, .bool false, .slice (some ⟨w9.heap.size + 1 + 1 + 1, 0, none⟩) 1 1, .slice (some ⟨w7.heap.size, 0, none⟩) 2 2, .slice (some ⟨w9.heap.size + 1 + 1, 0, none⟩) 1 1, .slice (some ⟨w9.heap.size + 1 + 1 + 1 + 1, 0, none⟩) 1 1, .int .i64 5, .int .i64 0] 27 (0, 0)) := by
    rw [← hF]; exact setRow_heap _ _ _ _ _ _ (by rw [v9.block _ z9]; exact hrow0.out)
  have hc : ∀ i, F.cell? ⟨w.heap.size, i, none⟩ = #[Value.bool false, .bool false, .slice (some ⟨w9.heap.size + 1 + 1 + 1, 0, none⟩) 1 1, .slice (some ⟨w7.heap.size, 0, none⟩) 2 2, .slice (some ⟨w9.heap.size + 1 + 1, 0, none⟩) 1 1, .slice (some ⟨w9.heap.size + 1 + 1 + 1 + 1, 0, none⟩) 1 1, .int .i64 5, .int .i64 0][i]? := fun i => by rw [World.cell?, hrowF]; rfl
  have c0 := hc 0
  have c1 := hc 1
  have c2 := hc 2
  have c3 := hc 3
  have c4 := hc 4
  have c5 := hc 5
  have c6 := hc 6
  have c7 := hc 7
  simp at c0 c1 c2 c3 c4 c5 c6 c7
  have R6 : RdPat F (some ⟨w7.heap.size, 0, none⟩) goodP := ⟨xs, R5, hall⟩
  have HR := Lib.hid (And.intro R3 (And.intro R6 (And.intro e3 (And.intro R4 BF))))
  clear R0 R1 R2 R3 R4 R5 R6 e1 e2 e3 BF hxs hall v0 v1 v2 v3 v4 v9 hrowF hc P9 B79 B09 B7 hz1
  simp only [hF]
  exact bodyPost_ret (v := .agg #[.bool false, .bool false, .slice (some ⟨w9.heap.size + 1 + 1 + 1, 0, none⟩) 1 1, .slice (some ⟨w7.heap.size, 0, none⟩) 2 2, .slice (some ⟨w9.heap.size + 1 + 1, 0, none⟩) 1 1, .slice (some ⟨w9.heap.size + 1 + 1 + 1 + 1, 0, none⟩) 1 1, .int .i64 5, .int .i64 0]) (by simp [results, Tryz.results43, go_sem, c0, c1, c2, c3, c4, c5, c6, c7]) rfl
    ⟨_, _, _, _, rfl, HR.out.1, HR.out.2.1, HR.out.2.2.1, ⟨_, HR.out.2.2.2.1, All.one rfl rfl⟩, HR.out.2.2.2.2⟩
end Go.Proofs.YtafaanegkoolgaaGreatDoor
