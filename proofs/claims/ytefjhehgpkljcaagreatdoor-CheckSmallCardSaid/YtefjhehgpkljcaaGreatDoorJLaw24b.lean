/- Layer 24's law, walked: awake. -/
import Derived.Test.YtefjhehgpkljcaaGreatDoorJLaw24a
namespace Go.Proofs.YtefjhehgpkljcaaGreatDoor
open Go Go.RowKit Um Fm Mt

def askF : ExT 1 := (1, sz, zTm, [])
def ofQ1 : Qy 0 := ⟨false, false, [sx], ofP, [], [], -1, 0⟩
def ofQ2 : Qy 0 := ⟨false, false, [sy, sy], ofP, [], [], -1, 0⟩
def ofQ3 : Qy 1 := ⟨true, false, [], ofP, [askF], [], -1, 0⟩
theorem ofQ1_err : errOf ofQ1 = 15 := by kernel_rfl
theorem ofQ2_err : errOf ofQ2 = 9 := by kernel_rfl
theorem ofQ3_err : errOf ofQ3 = 0 := by kernel_rfl
theorem ofQ3_needs : needsOf ofQ3 = [sz] := by kernel_rfl
theorem szT_zero : szT zTm := ⟨by decide, by decide, by decide⟩
theorem ofP_sz : ∀ x ∈ ofP, szP x := by
  intro x hx
  obtain rfl : x = ⟨⟨sy, zTm⟩, ⟨sz, zTm⟩, ⟨sz, zTm⟩⟩ := by simpa [ofP] using hx
  exact ⟨⟨by decide, szT_zero⟩, ⟨by decide, szT_zero⟩, ⟨by decide, szT_zero⟩⟩
theorem askF_x : ∀ x ∈ [askF], szX 1 x := by
  intro x hx
  obtain rfl : x = askF := by simpa using hx
  exact ⟨by decide, szT_zero, by decide, fun y hy => by cases hy⟩
theorem askF_e : ∀ x ∈ [askF], szE 1 x := by
  intro x hx
  obtain rfl : x = askF := by simpa using hx
  exact ⟨by decide, by decide, by decide, fun y hy => by cases hy⟩
theorem ofQ1_sz : szQ ofQ1 := ⟨by decide, by decide, by decide, by decide, (fun x hx => by
  obtain rfl : x = sx := by simpa [ofQ1] using hx
  decide), ofP_sz, (by intro x hx; cases hx), (by intro x hx; cases hx)⟩
theorem ofQ2_sz : szQ ofQ2 := ⟨by decide, by decide, by decide, by decide, (fun x hx => by
  obtain rfl : x = sy := by simpa [ofQ2] using hx
  decide), ofP_sz, (by intro x hx; cases hx), (by intro x hx; cases hx)⟩
theorem ofQ3_sz : szQ ofQ3 := ⟨by decide, by decide, by decide, by decide, (by intro x hx; cases hx), ofP_sz, askF_x, (by intro x hx; cases hx)⟩
theorem ofQ1_few : fewQ ofQ1 := ⟨by decide, by decide, by decide, by decide, (by intro x hx; cases hx), by decide⟩
theorem ofQ2_few : fewQ ofQ2 := ⟨by decide, by decide, by decide, by decide, (by intro x hx; cases hx), by decide⟩
theorem ofQ3_few : fewQ ofQ3 := ⟨by decide, by decide, by decide, by decide, askF_e, by decide⟩
set_option maxRecDepth 100000 in
set_option maxHeartbeats 4000000 in
theorem law24Awake (w : World) (hC : Ctx w) : Calls Tryz.prog 12 #[] w fun e w' => e = .returned (.bool true) ∧ Below w.heap.size w w' := by
  go_enter Tryz.func12, Tryz.ntmps12
  go_wp2_with fail
  refine (l24Of none 0 0 _).mono ?_
  rintro e w1 ⟨P1, rfl, hp1, b1⟩
  have hQi : (Tryz.prog.info? 40).map (·.size) = some 8 := by kernel_rfl
  obtain ⟨W2, hW2⟩ : ∃ W2 : World, (w1.alloc (.cells #[.bool false, .bool false, .slice none 0 0, .slice none 0 0, .slice none 0 0, .slice none 0 0, .int .i64 0, .int .i64 0] 40)).setRow w1.heap.size #[.bool false, .bool false, .slice none 0 0, .slice (some ⟨P1, 0, none⟩) 1 1, .slice none 0 0, .slice none 0 0, .int .i64 (-1), .int .i64 0] = W2 := ⟨_, rfl⟩
  have hrow2 : W2.heap[w1.heap.size]? = some (.cells #[.bool false, .bool false, .slice none 0 0, .slice (some ⟨P1, 0, none⟩) 1 1, .slice none 0 0, .slice none 0 0, .int .i64 (-1), .int .i64 0] 40 (0, 0)) := by rw [← hW2]; exact setRow_heap _ _ _ _ _ _ (heap_alloc_new w1 (.cells #[.bool false, .bool false, .slice none 0 0, .slice none 0 0, .slice none 0 0, .slice none 0 0, .int .i64 0, .int .i64 0] 40))
  have hB2 : Below w1.heap.size w1 W2 := by rw [← hW2]; exact below_setRow ((Below.refl _ _).alloc (Nat.le_refl _) _) (Nat.le_refl _) _
  have HW2 := Lib.hid hW2
  clear hW2
  have c0 : W2.cell? ⟨w1.heap.size, 0, none⟩ = some (.bool false) := by rw [World.cell?, hrow2]; rfl
  have c1 : W2.cell? ⟨w1.heap.size, 1, none⟩ = some (.bool false) := by rw [World.cell?, hrow2]; rfl
  have c2 : W2.cell? ⟨w1.heap.size, 2, none⟩ = some (.slice none 0 0) := by rw [World.cell?, hrow2]; rfl
  have c3 : W2.cell? ⟨w1.heap.size, 3, none⟩ = some (.slice (some ⟨P1, 0, none⟩) 1 1) := by rw [World.cell?, hrow2]; rfl
  have c4 : W2.cell? ⟨w1.heap.size, 4, none⟩ = some (.slice none 0 0) := by rw [World.cell?, hrow2]; rfl
  have c5 : W2.cell? ⟨w1.heap.size, 5, none⟩ = some (.slice none 0 0) := by rw [World.cell?, hrow2]; rfl
  have c6 : W2.cell? ⟨w1.heap.size, 6, none⟩ = some (.int .i64 (-1)) := by rw [World.cell?, hrow2]; rfl
  have c7 : W2.cell? ⟨w1.heap.size, 7, none⟩ = some (.int .i64 0) := by rw [World.cell?, hrow2]; rfl
  have f2 : ∀ k, W2.frozen? ⟨w1.heap.size, k, none⟩ = false := fun k => by simp [World.frozen?, hrow2]
  have f20 := f2 0
  have F2 := Lib.hid f2
  clear f2
  obtain ⟨W3, hW3⟩ : ∃ W3 : World, W2.setCell ⟨w1.heap.size, 0, none⟩ (.bool true) = W3 := ⟨_, rfl⟩
  have hB3 : Below w1.heap.size W2 W3 := by rw [← hW3]; exact (Below.refl _ _).setCell (p := ⟨w1.heap.size, 0, none⟩) (Nat.le_refl _) _
  have d0 : W3.cell? ⟨w1.heap.size, 0, none⟩ = some (.bool true) := by rw [← hW3]; exact World.cell?_setCell_same' _ _ _ (by rw [c0]; rfl)
  have d1 : W3.cell? ⟨w1.heap.size, 1, none⟩ = some (.bool false) := by rw [← hW3]; exact (World.cell?_setCell_other (h := (by simp)) ..).trans c1
  have d2 : W3.cell? ⟨w1.heap.size, 2, none⟩ = some (.slice none 0 0) := by rw [← hW3]; exact (World.cell?_setCell_other (h := (by simp)) ..).trans c2
  have d3 : W3.cell? ⟨w1.heap.size, 3, none⟩ = some (.slice (some ⟨P1, 0, none⟩) 1 1) := by rw [← hW3]; exact (World.cell?_setCell_other (h := (by simp)) ..).trans c3
  have d4 : W3.cell? ⟨w1.heap.size, 4, none⟩ = some (.slice none 0 0) := by rw [← hW3]; exact (World.cell?_setCell_other (h := (by simp)) ..).trans c4
  have d5 : W3.cell? ⟨w1.heap.size, 5, none⟩ = some (.slice none 0 0) := by rw [← hW3]; exact (World.cell?_setCell_other (h := (by simp)) ..).trans c5
  have d6 : W3.cell? ⟨w1.heap.size, 6, none⟩ = some (.int .i64 (-1)) := by rw [← hW3]; exact (World.cell?_setCell_other (h := (by simp)) ..).trans c6
  have d7 : W3.cell? ⟨w1.heap.size, 7, none⟩ = some (.int .i64 0) := by rw [← hW3]; exact (World.cell?_setCell_other (h := (by simp)) ..).trans c7
  have f3 : ∀ k, W3.frozen? ⟨w1.heap.size, k, none⟩ = false := fun k => by rw [← hW3, World.frozen?_setCell]; exact F2.out k
  have HW3 := Lib.hid hW3
  have F3 := Lib.hid f3
  clear hW3 f3
  go_wp2_with (refine wpList_store_row rfl 40 _ _ rfl rfl rfl hQi (heap_alloc_new _ _) rfl rfl ?_; rw [HW2.out])
  simp only [HW3.out]
  refine (l24Leaf _ _).mono ?_
  rintro e w4 ⟨rfl, b4⟩
  have e0 : w4.cell? ⟨w1.heap.size, 0, none⟩ = some (.bool true) := cell_on d0 b4
  have e1 : w4.cell? ⟨w1.heap.size, 1, none⟩ = some (.bool false) := cell_on d1 b4
  have e2 : w4.cell? ⟨w1.heap.size, 2, none⟩ = some (.slice none 0 0) := cell_on d2 b4
  have e3 : w4.cell? ⟨w1.heap.size, 3, none⟩ = some (.slice (some ⟨P1, 0, none⟩) 1 1) := cell_on d3 b4
  have e4 : w4.cell? ⟨w1.heap.size, 4, none⟩ = some (.slice none 0 0) := cell_on d4 b4
  have e5 : w4.cell? ⟨w1.heap.size, 5, none⟩ = some (.slice none 0 0) := cell_on d5 b4
  have e6 : w4.cell? ⟨w1.heap.size, 6, none⟩ = some (.int .i64 (-1)) := cell_on d6 b4
  have e7 : w4.cell? ⟨w1.heap.size, 7, none⟩ = some (.int .i64 0) := cell_on d7 b4
  have f4 : w4.frozen? ⟨w1.heap.size, 4, none⟩ = false := by rw [b4.frozen (cell_lt d4)]; exact F3.out 4
  have hz4 : w1.heap.size < w4.heap.size := cell_lt e0
  obtain ⟨W5, hW5⟩ : ∃ W5 : World, (w4.setCell ⟨w1.heap.size, 4, none⟩ (.slice (some ⟨w4.heap.size, 0, none⟩) 1 1)).alloc (.cells #[.int .i64 1, .string ⟨#[122]⟩, .int .i64 0, .string ⟨#[]⟩, .string ⟨#[]⟩, .string ⟨#[]⟩, .slice none 0 0] 31) = W5 := ⟨_, rfl⟩
  have hsc : (w4.setCell ⟨w1.heap.size, 4, none⟩ (.slice (some ⟨w4.heap.size, 0, none⟩) 1 1)).heap.size = w4.heap.size := by simp
  have hbs : Below w1.heap.size w4 (w4.setCell ⟨w1.heap.size, 4, none⟩ (.slice (some ⟨w4.heap.size, 0, none⟩) 1 1)) := (Below.refl _ _).setCell (p := ⟨w1.heap.size, 4, none⟩) (Nat.le_refl _) _
  have hba : Below w4.heap.size (w4.setCell ⟨w1.heap.size, 4, none⟩ (.slice (some ⟨w4.heap.size, 0, none⟩) 1 1)) W5 := by rw [← hW5]; exact (Below.refl _ _).alloc (by omega) _
  have hB5 : Below w1.heap.size w4 W5 := hbs.trans (hba.mono (Nat.le_of_lt hz4))
  have hx5 : W5.heap[w4.heap.size]? = some (.cells #[.int .i64 1, .string ⟨#[122]⟩, .int .i64 0, .string ⟨#[]⟩, .string ⟨#[]⟩, .string ⟨#[]⟩, .slice none 0 0] 31 (0, 0)) := by
    have := heap_alloc_new (w4.setCell ⟨w1.heap.size, 4, none⟩ (.slice (some ⟨w4.heap.size, 0, none⟩) 1 1)) (.cells #[.int .i64 1, .string ⟨#[122]⟩, .int .i64 0, .string ⟨#[]⟩, .string ⟨#[]⟩, .string ⟨#[]⟩, .slice none 0 0] 31)
    rw [hsc] at this
    rw [← hW5]; exact this
  have hs5 : W5.heap.size = w4.heap.size + 1 := by rw [← hW5]; simp
  have g0 : W5.cell? ⟨w1.heap.size, 0, none⟩ = some (.bool true) := (hba.cell (p := ⟨w1.heap.size, 0, none⟩) hz4).trans ((World.cell?_setCell_other (h := (by simp)) ..).trans e0)
  have g1 : W5.cell? ⟨w1.heap.size, 1, none⟩ = some (.bool false) := (hba.cell (p := ⟨w1.heap.size, 1, none⟩) hz4).trans ((World.cell?_setCell_other (h := (by simp)) ..).trans e1)
  have g2 : W5.cell? ⟨w1.heap.size, 2, none⟩ = some (.slice none 0 0) := (hba.cell (p := ⟨w1.heap.size, 2, none⟩) hz4).trans ((World.cell?_setCell_other (h := (by simp)) ..).trans e2)
  have g3 : W5.cell? ⟨w1.heap.size, 3, none⟩ = some (.slice (some ⟨P1, 0, none⟩) 1 1) := (hba.cell (p := ⟨w1.heap.size, 3, none⟩) hz4).trans ((World.cell?_setCell_other (h := (by simp)) ..).trans e3)
  have g4 : W5.cell? ⟨w1.heap.size, 4, none⟩ = some (.slice (some ⟨w4.heap.size, 0, none⟩) 1 1) := (hba.cell (p := ⟨w1.heap.size, 4, none⟩) hz4).trans (World.cell?_setCell_same' _ _ _ (by rw [e4]; rfl))
  have g5 : W5.cell? ⟨w1.heap.size, 5, none⟩ = some (.slice none 0 0) := (hba.cell (p := ⟨w1.heap.size, 5, none⟩) hz4).trans ((World.cell?_setCell_other (h := (by simp)) ..).trans e5)
  have g6 : W5.cell? ⟨w1.heap.size, 6, none⟩ = some (.int .i64 (-1)) := (hba.cell (p := ⟨w1.heap.size, 6, none⟩) hz4).trans ((World.cell?_setCell_other (h := (by simp)) ..).trans e6)
  have g7 : W5.cell? ⟨w1.heap.size, 7, none⟩ = some (.int .i64 0) := (hba.cell (p := ⟨w1.heap.size, 7, none⟩) hz4).trans ((World.cell?_setCell_other (h := (by simp)) ..).trans e7)
  have HW5 := Lib.hid hW5
  have hB15 : Below w1.heap.size w1 W5 := (hB2.trans hB3).trans ((b4.mono (by have := hB3.size; have := hB2.size; omega)).trans hB5)
  have hB05 : Below w.heap.size w W5 := below_tr b1 hB15
  have hP5 : RdPat W5 (some ⟨P1, 0, none⟩) ofP := RdL.mono hp1 hB15 (fun _ _ _ h => h)
  have hE5 : RdEs 1 W5 (some ⟨w4.heap.size, 0, none⟩) [askF] := ⟨_, Rd.of_block hx5 rfl, All.one rfl ⟨none, 0, rfl, Nat.le_refl _, RdL.nil _ _ _ _⟩⟩
  have HP5 := Lib.hid hP5
  have HE5 := Lib.hid hE5
  have HB05 := Lib.hid hB05
  have Hs5 := Lib.hid hs5
  have HC := Lib.hid hC
  have b6 : Below W5.heap.size W5 (W5.alloc (.cells #[.string ⟨#[120]⟩] 9)) := (by repeat (first | exact Below.refl _ _ | assumption | exact (Below.refl _ _).alloc (Nat.le_refl _) _ | refine below_tr ?_ (by assumption) | refine below_alloc ?_ | refine below_tr ?_ (below_regrown _ _ _)))
  have r6 : Rd (W5.alloc (.cells #[.string ⟨#[120]⟩] 9)) (some ⟨w4.heap.size + 1, 0, none⟩) [.string sx] := by
    have := Rd.of_block (heap_alloc_new W5 (.cells #[.string ⟨#[120]⟩] 9)) rfl
    rw [hs5] at this; exact this
  clear hW5 hba hbs hsc hx5 c0 c1 c2 c3 c4 c5 c6 c7 d0 d1 d2 d3 d4 d5 d6 d7 f20 hB2 hB3 hB5 b4 hrow2 hs5 hP5 hE5 hB15 hB05 hp1 b1 hC
  go_wp2_with fail
  clear e0 e1 e2 e3 e4 e5 e6 e7 f4 hz4
  simp only [HW5.out]
  have hO := l24Of (some ⟨w4.heap.size + 1, 0, none⟩) 1 1 (W5.alloc (.cells #[.string ⟨#[120]⟩] 9))
  refine hO.mono ?_
  rintro e w7 ⟨P7, rfl, hp7, b7⟩
  have B7 := b6.trans (b7.mono b6.size)
  have hQ1 := cQuery 0 ofQ1 (some ⟨w4.heap.size + 1, 0, none⟩) (some ⟨P7, 0, none⟩) none none 1 1 0 0 w7 (HC.out.step (below_tr HB05.out B7)) ofQ1_few ofQ1_sz
    ⟨_, _, _, _, _, _, _, _, rfl, ⟨by decide, by decide, by decide, by decide⟩, r6.later b7, hp7, RdL.nil _ _ _ _, RdL.nil _ _ _ _⟩ (r6.later b7) hp7 (RdL.nil _ _ _ _) (RdL.nil _ _ _ _)
  rw [ofQ1_err] at hQ1
  clear hO r6 b7 b6 hp7
  go_wp2_with fail
  refine hQ1.mono ?_
  rintro e w8 ⟨rfl, b8⟩
  have B8 := B7.trans (b8.mono B7.size)
  have b9 : Below w8.heap.size w8 (w8.alloc (.cells #[.string ⟨#[121]⟩, .string ⟨#[121]⟩] 9)) := (by repeat (first | exact Below.refl _ _ | assumption | exact (Below.refl _ _).alloc (Nat.le_refl _) _ | refine below_tr ?_ (by assumption) | refine below_alloc ?_ | refine below_tr ?_ (below_regrown _ _ _)))
  have r9 : Rd (w8.alloc (.cells #[.string ⟨#[121]⟩, .string ⟨#[121]⟩] 9)) (some ⟨w8.heap.size, 0, none⟩) [.string sy, .string sy] := Rd.of_block (heap_alloc_new w8 _) rfl
  have B9 := B8.trans (b9.mono B8.size)
  have hO := l24Of (some ⟨w8.heap.size, 0, none⟩) 2 2 (w8.alloc (.cells #[.string ⟨#[121]⟩, .string ⟨#[121]⟩] 9))
  clear hQ1 B7 b8
  go_wp2_with fail
  refine hO.mono ?_
  rintro e w10 ⟨P10, rfl, hp10, b10⟩
  have B10 := B9.trans (b10.mono B9.size)
  have hQ2 := cQuery 0 ofQ2 (some ⟨w8.heap.size, 0, none⟩) (some ⟨P10, 0, none⟩) none none 2 1 0 0 w10 (HC.out.step (below_tr HB05.out B10)) ofQ2_few ofQ2_sz
    ⟨_, _, _, _, _, _, _, _, rfl, ⟨by decide, by decide, by decide, by decide⟩, r9.later b10, hp10, RdL.nil _ _ _ _, RdL.nil _ _ _ _⟩ (r9.later b10) hp10 (RdL.nil _ _ _ _) (RdL.nil _ _ _ _)
  rw [ofQ2_err] at hQ2
  clear hO r9 b10 b9 hp10 B8 B9
  go_wp2_with fail
  refine hQ2.mono ?_
  rintro e w11 ⟨rfl, b11⟩
  have B11 := B10.trans (b11.mono B10.size)
  have x0 : w11.cell? ⟨w1.heap.size, 0, none⟩ = some (.bool true) := cell_on g0 B11
  have x1 : w11.cell? ⟨w1.heap.size, 1, none⟩ = some (.bool false) := cell_on g1 B11
  have x2 : w11.cell? ⟨w1.heap.size, 2, none⟩ = some (.slice none 0 0) := cell_on g2 B11
  have x3 : w11.cell? ⟨w1.heap.size, 3, none⟩ = some (.slice (some ⟨P1, 0, none⟩) 1 1) := cell_on g3 B11
  have x4 : w11.cell? ⟨w1.heap.size, 4, none⟩ = some (.slice (some ⟨w4.heap.size, 0, none⟩) 1 1) := cell_on g4 B11
  have x5 : w11.cell? ⟨w1.heap.size, 5, none⟩ = some (.slice none 0 0) := cell_on g5 B11
  have x6 : w11.cell? ⟨w1.heap.size, 6, none⟩ = some (.int .i64 (-1)) := cell_on g6 B11
  have x7 : w11.cell? ⟨w1.heap.size, 7, none⟩ = some (.int .i64 0) := cell_on g7 B11
  have p11 : RdPat w11 (some ⟨P1, 0, none⟩) ofP := RdL.mono HP5.out B11 (fun _ _ _ h => h)
  have q11 := RdEs.later HE5.out B11
  have hQ3 := cQuery 1 ofQ3 none (some ⟨P1, 0, none⟩) (some ⟨w4.heap.size, 0, none⟩) none 0 1 1 0 w11 (HC.out.step (below_tr HB05.out B11)) ofQ3_few ofQ3_sz
    ⟨_, _, _, _, _, _, _, _, rfl, ⟨by decide, by decide, by decide, by decide⟩, Rd.nil _ _, p11, q11, RdL.nil _ _ _ _⟩ (Rd.nil _ _) p11 q11 (RdL.nil _ _ _ _)
  rw [ofQ3_err] at hQ3
  have B11' := Lib.hid B11
  clear hQ2 b11 B10 B11
  go_wp2_with fail
  refine hQ3.mono ?_
  rintro e w12 ⟨rfl, b12⟩
  have y0 : w12.cell? ⟨w1.heap.size, 0, none⟩ = some (.bool true) := cell_on x0 b12
  have y1 : w12.cell? ⟨w1.heap.size, 1, none⟩ = some (.bool false) := cell_on x1 b12
  have y2 : w12.cell? ⟨w1.heap.size, 2, none⟩ = some (.slice none 0 0) := cell_on x2 b12
  have y3 : w12.cell? ⟨w1.heap.size, 3, none⟩ = some (.slice (some ⟨P1, 0, none⟩) 1 1) := cell_on x3 b12
  have y4 : w12.cell? ⟨w1.heap.size, 4, none⟩ = some (.slice (some ⟨w4.heap.size, 0, none⟩) 1 1) := cell_on x4 b12
  have y5 : w12.cell? ⟨w1.heap.size, 5, none⟩ = some (.slice none 0 0) := cell_on x5 b12
  have y6 : w12.cell? ⟨w1.heap.size, 6, none⟩ = some (.int .i64 (-1)) := cell_on x6 b12
  have y7 : w12.cell? ⟨w1.heap.size, 7, none⟩ = some (.int .i64 0) := cell_on x7 b12
  have p12 : RdPat w12 (some ⟨P1, 0, none⟩) ofP := RdL.mono p11 b12 (fun _ _ _ h => h)
  have q12 := RdEs.later q11 b12
  have hN := cNeeds 1 ofQ3 none (some ⟨P1, 0, none⟩) (some ⟨w4.heap.size, 0, none⟩) none 0 1 1 0 w12 ofQ3_few (Rd.nil _ _) p12 q12 (RdL.nil _ _ _ _)
  rw [ofQ3_needs] at hN
  have B12 := Lib.hid (B11'.out.trans (b12.mono B11'.out.size))
  clear hQ3 b12 p11 q11 p12 q12 x0 x1 x2 x3 x4 x5 x6 x7
  go_wp2_with fail
  refine hN.mono ?_
  rintro e w13 ⟨v13, rfl, own13, b13⟩
  obtain ⟨A13, d13, rfl, _, r13⟩ := own_slice own13
  have b14 : Below w13.heap.size w13 (w13.alloc (.cells #[.string ⟨#[122]⟩] 9)) := (by repeat (first | exact Below.refl _ _ | assumption | exact (Below.refl _ _).alloc (Nat.le_refl _) _ | refine below_tr ?_ (by assumption) | refine below_alloc ?_ | refine below_tr ?_ (below_regrown _ _ _)))
  have hs := sameTexts [sz] [sz] A13 (some ⟨w13.heap.size, 0, none⟩) d13 1 _ (r13.later b14) (Rd.of_block (heap_alloc_new w13 _) rfl) (by decide) (by decide)
  rw [show sameTs [sz] [sz] = true by simp [sameTs]] at hs
  have B13 := Lib.hid (below_tr HB05.out (B12.out.trans ((b13.trans (b14.mono b13.size)).mono B12.out.size)))
  clear hN own13 r13 b13 b14
  go_wp2_with fail
  refine hs.mono ?_
  rintro e w14 ⟨rfl, b15⟩
  clear hs
  go_wp2
  go_ret
  exact ⟨rfl, below_tr B13.out b15⟩
end Go.Proofs.YtefjhehgpkljcaaGreatDoor
