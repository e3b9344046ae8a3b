/- Layer 22's law, walked: awake. -/
import Derived.Test.YtafaanegkoolgaaGreatDoorJLaw22a
import Derived.Test.YtafaanegkoolgaaGreatDoorJQSameQ
namespace Go.Proofs.YtafaanegkoolgaaGreatDoor
open Go Go.RowKit Um Fm Mt

theorem goodQ_right : rightQ goodQ = true := by kernel_rfl
theorem goodQ_vars : varsN goodP = [sx, sy, sz] := by kernel_rfl
theorem goodQ_used : usedN 3 [goodF] = [sx] := by kernel_rfl
theorem goodQ_size : (preE 3 goodF).length = 4 := by kernel_rfl
theorem szT_small (k : Int) (x : ByteArray) (h : x.size ≤ 1000) : szT ⟨k, x, ⟨#[]⟩, ⟨#[]⟩⟩ := ⟨by show x.size ≤ _; omega, by show (⟨#[]⟩ : ByteArray).size ≤ _; decide, by show (⟨#[]⟩ : ByteArray).size ≤ _; decide⟩
theorem goodF_szX : szX 3 goodF := by
  refine ⟨by decide, szT_small _ _ (by decide), by decide, fun x hx => ?_⟩
  obtain rfl : x = goodF3 := by simpa using hx
  refine ⟨by decide, szT_small _ _ (by decide), by decide, fun x hx => ?_⟩
  have : x = goodF1 ∨ x = goodF2 := by simpa using hx
  rcases this with rfl | rfl
  · exact ⟨by decide, szT_small _ _ (by decide), by decide, fun x hx => by cases hx⟩
  · exact ⟨by decide, szT_small _ _ (by decide), by decide, fun x hx => by cases hx⟩
theorem goodF_szE : szE 3 goodF := by
  refine ⟨by decide, by decide, by decide, fun x hx => ?_⟩
  obtain rfl : x = goodF3 := by simpa using hx
  refine ⟨by decide, by decide, by decide, fun x hx => ?_⟩
  have : x = goodF1 ∨ x = goodF2 := by simpa using hx
  rcases this with rfl | rfl
  · exact ⟨by decide, by decide, by decide, fun x hx => by cases hx⟩
  · exact ⟨by decide, by decide, by decide, fun x hx => by cases hx⟩
theorem goodQ_sz : szQ goodQ := by
  refine ⟨by decide, by decide, by decide, by decide, ?_, ?_, ?_, ?_⟩
  · intro x hx
    obtain rfl : x = sx := by simpa [goodQ] using hx
    decide
  · intro x hx
    have : x = ⟨⟨sx, zTm⟩, ⟨⟨#[]⟩, tIri ⟨#[112]⟩⟩, ⟨sy, zTm⟩⟩ ∨ x = ⟨⟨sy, zTm⟩, ⟨sz, zTm⟩, ⟨sx, zTm⟩⟩ := by simpa [goodQ, goodP] using hx
    rcases this with rfl | rfl
    · exact ⟨⟨by decide, szT_small _ _ (by decide)⟩, ⟨by decide, szT_small _ _ (by decide)⟩, ⟨by decide, szT_small _ _ (by decide)⟩⟩
    · exact ⟨⟨by decide, szT_small _ _ (by decide)⟩, ⟨by decide, szT_small _ _ (by decide)⟩, ⟨by decide, szT_small _ _ (by decide)⟩⟩
  · intro x hx
    obtain rfl : x = goodF := by simpa [goodQ] using hx
    exact goodF_szX
  · intro x hx
    obtain rfl : x = ⟨sy, true⟩ := by simpa [goodQ] using hx
    decide
set_option maxRecDepth 100000 in
set_option maxHeartbeats 4000000 in
theorem l22Awake (w : World) (hC : Ctx w) : Calls Tryz.prog 9 #[] w fun e w' => e = .returned (.bool true) ∧ Below w.heap.size w w' := by
  go_enter Tryz.func9, Tryz.ntmps9
  go_wp2_with fail
  refine (l22Good _).mono ?_
  rintro e w1 ⟨a1, a2, a3, a4, rfl, h1, h2, h3, h4, b1⟩
  have B1 : Below w1.heap.size w1 (w1.alloc (.cells #[.bool false, .bool false, .slice a1 1 1, .slice a2 2 2, .slice a3 1 1, .slice a4 1 1, .int .i64 5, .int .i64 0] 27)) := (by repeat (first | exact Below.refl _ _ | assumption | exact (Below.refl _ _).alloc (Nat.le_refl _) _ | refine below_tr ?_ (by assumption) | refine below_alloc ?_ | refine below_tr ?_ (below_regrown _ _ _)))
  have B01 := below_tr b1 B1
  have hq := qRight 3 goodQ [.bool false, .bool false, .slice a1 1 1, .slice a2 2 2, .slice a3 1 1, .slice a4 1 1, .int .i64 5, .int .i64 0] _ (hC.step B01)
    ⟨a1, a2, a3, a4, 1, 2, 1, 1, rfl, ⟨Nat.le_refl _, Nat.le_refl _, Nat.le_refl _, Nat.le_refl _⟩, h1.later B1, RdL.mono h2 B1 (fun _ _ _ h => h), RdEs.later h3 B1, RdL.mono h4 B1 (fun _ _ _ h => h)⟩ goodQ_sz
  rw [goodQ_right] at hq
  have hz1 : w1.heap.size < (w1.alloc (.cells #[.bool false, .bool false, .slice a1 1 1, .slice a2 2 2, .slice a3 1 1, .slice a4 1 1, .int .i64 5, .int .i64 0] 27)).heap.size := by simp
  go_wp2_with fail
  refine hq.mono ?_
  rintro e w2 ⟨rfl, b2⟩
  have hc : ∀ (i : Nat) u, #[Value.bool false, .bool false, .slice a1 1 1, .slice a2 2 2, .slice a3 1 1, .slice a4 1 1, .int .i64 5, .int .i64 0][i]? = some u → w2.cell? ⟨w1.heap.size, i, none⟩ = some u := by
    intro i u hu
    rw [b2.cell (p := ⟨w1.heap.size, i, none⟩) hz1, World.cell?, heap_alloc_new]; exact hu
  have B12 := below_tr B1 b2
  have B02 := below_tr b1 B12
  have c3 := hc 3 _ rfl
  have c4 := hc 4 _ rfl
  have p2 : RdPat w2 a2 goodP := RdL.mono h2 B12 fun _ _ _ h => h
  have p3 := RdEs.later h3 B12
  have hv := qVars goodP a2 2 w2 p2 (by decide)
  rw [goodQ_vars] at hv
  clear hq hc B1 B01 hz1 h1 h2 h3 h4
  go_wp2_with fail
  refine hv.mono ?_
  rintro e w3 ⟨v, rfl, own3, b3⟩
  obtain ⟨A3, d3, rfl, _, r3⟩ := own_slice own3
  have x3 := cell_on c3 b3
  have x4 := cell_on c4 b3
  have B3 : Below w3.heap.size w3 (w3.alloc (.cells #[.string ⟨#[120]⟩, .string ⟨#[121]⟩, .string ⟨#[122]⟩] 9)) := (by repeat (first | exact Below.refl _ _ | assumption | exact (Below.refl _ _).alloc (Nat.le_refl _) _ | refine below_tr ?_ (by assumption) | refine below_alloc ?_ | refine below_tr ?_ (below_regrown _ _ _)))
  have hs := sameTexts [sx, sy, sz] [sx, sy, sz] A3 (some ⟨w3.heap.size, 0, none⟩) d3 3 _ (r3.later B3) (Rd.of_block (heap_alloc_new w3 _) rfl) (by decide) (by decide)
  rw [show sameTs [sx, sy, sz] [sx, sy, sz] = true by simp [sameTs]] at hs
  have y4 := cell_on x4 B3
  have q3 := RdEs.later p3 (below_tr b3 B3)
  have B03 := below_tr B02 (below_tr b3 B3)
  clear hv c3 c4 x3 own3 r3 p2 p3
  go_wp2_with fail
  refine hs.mono ?_
  rintro e w4 ⟨rfl, b4⟩
  have z4 := cell_on y4 b4
  have r4 := RdEs.later q3 b4
  have B04 := below_tr B03 b4
  have hu := qUsed 3 [goodF] a3 1 w4 r4 (by decide) (fun x hx => by
    obtain rfl : x = goodF := by simpa using hx
    exact goodF_szE) (by simp [goodQ_size])
  rw [goodQ_used] at hu
  clear hs y4 q3 B03 x4
  go_wp2_with fail
  refine hu.mono ?_
  rintro e w5 ⟨v, rfl, own5, b5⟩
  obtain ⟨A5, d5, rfl, _, r5⟩ := own_slice own5
  have x4 := cell_on z4 b5
  have B5 : Below w5.heap.size w5 (w5.alloc (.cells #[.string ⟨#[120]⟩] 9)) := (by repeat (first | exact Below.refl _ _ | assumption | exact (Below.refl _ _).alloc (Nat.le_refl _) _ | refine below_tr ?_ (by assumption) | refine below_alloc ?_ | refine below_tr ?_ (below_regrown _ _ _)))
  have hs := sameTexts [sx] [sx] A5 (some ⟨w5.heap.size, 0, none⟩) d5 1 _ (r5.later B5) (Rd.of_block (heap_alloc_new w5 _) rfl) (by decide) (by decide)
  rw [show sameTs [sx] [sx] = true by simp [sameTs]] at hs
  have y4 := cell_on x4 B5
  have q5 := RdEs.later r4 (below_tr b5 B5)
  have B05 := below_tr B04 (below_tr b5 B5)
  clear hu z4 r4 own5 r5
  go_wp2_with fail
  refine hs.mono ?_
  rintro e w6 ⟨rfl, b6⟩
  have z4 := cell_on y4 b6
  have r6 := RdEs.later q5 b6
  have B06 := below_tr B05 b6
  obtain ⟨g, o, u0, u1, u2, u3, u4, u5, u6, rfl, hR, k0, k1, k2, k3, k4, k5, k6⟩ := RdEs.at7 r6 (j := 0) (e := goodF) rfl
  simp only [Nat.zero_mul, Nat.add_zero] at k0 k1 k2 k3 k4 k5 k6
  have hz := qSize 3 goodF [u0, u1, u2, u3, u4, u5, u6] w6 hR goodF_szE (by rw [goodQ_size]; decide)
  rw [goodQ_size] at hz
  clear hs y4 q5 B05 x4 r6
  go_wp2_with fail
  refine hz.mono ?_
  rintro e w7 ⟨rfl, b7⟩
  clear hz
  go_wp2
  go_ret
  exact ⟨rfl, below_tr B06 b7⟩
end Go.Proofs.YtafaanegkoolgaaGreatDoor
