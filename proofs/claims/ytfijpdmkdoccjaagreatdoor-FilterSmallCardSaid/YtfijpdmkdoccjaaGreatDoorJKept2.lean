/- The kit's conditions, kept. -/
import Derived.Test.YtfijpdmkdoccjaaGreatDoorJCopy2
import Derived.Test.YtfijpdmkdoccjaaGreatDoorJLent4
namespace Go.Proofs.YtfijpdmkdoccjaaGreatDoor
open Go Go.RowKit Um Fm Mt
theorem RdLn.old {n B : Nat} {w w' : World} {cs : List Value} {x : ExT n} (h : RdLn n B w cs x) (hb : Below w.heap.size w w') : RdLn n B w' cs x := h.step (Stays.below hb)
theorem sameE_self (n : Nat) (x : ExT n) : sameE n x x = true := sameE_iff.2 rfl
def KpE (n : Nat) : Prop := ∀ (B : Nat) (x : ExT n) (cs ds : List Value) (W : World), RdLn n B W cs x → RdE n W ds x → szE n x → Calls Tryz.prog 64 #[.agg cs.toArray, .agg ds.toArray] W fun e w' => e = .returned (.bool true) ∧ Below W.heap.size W w'
/-- A mark, read as a condition. -/
def mkX (j : Int) : ExT 1 := (8000024 + j, ⟨#[]⟩, zTm, [])
theorem mkX_rd (j : Int) (w : World) : RdE 1 w (mkE j) (mkX j) := ⟨none, 0, rfl, Nat.le_refl _, RdL.nil _ _ _ _⟩
theorem mkX_sz (j : Int) : szE 1 (mkX j) := by
  refine ⟨Nat.zero_le _, Nat.zero_le _, Nat.zero_le _, fun _ h => nomatch h⟩
theorem marksE_all (w : World) : All 7 (RdE 1 w) marksE (marksOf mkX) := by
  unfold marksE marksOf
  generalize List.range 12 = r
  induction r with
  | nil => rfl
  | cons a r ih => exact All.append (All.one (e := mkX (a : Int)) (cs := mkE (a : Int)) rfl (mkX_rd _ _)) ih
theorem Rd.right {w : World} {g : Nat} {xs ys : List Value} (h : Rd w (some ⟨g, 0, none⟩) (xs ++ ys)) : ∀ (j : Nat) (u : Value), ys[j]? = some u → w.cell? ⟨g, xs.length + j, none⟩ = some u := by
  intro j u hu
  obtain ⟨g0, o0, he, hc⟩ := h.at_ (j := xs.length + j) (u := u) (by rw [List.getElem?_append_right (by omega)]; rw [show xs.length + j - xs.length = j by omega]; exact hu)
  injection he with he; injection he with h2 h3; subst h2; subst h3
  simpa using hc
theorem flat7_get (f : Nat → List Value) (hf : ∀ j, (f j).length = 7) : ∀ (a m j i : Nat), j < m → i < 7 → ((List.range' a m).flatMap f)[j * 7 + i]? = (f (a + j))[i]?
  | a, 0, j, i, h, _ => absurd h (Nat.not_lt_zero _)
  | a, m + 1, 0, i, _, hi => by
    rw [List.range'_succ, List.flatMap_cons, List.getElem?_append_left (by rw [hf]; omega)]
    simp
  | a, m + 1, j + 1, i, h, hi => by
    rw [List.range'_succ, List.flatMap_cons, List.getElem?_append_right (by rw [hf]; omega), hf, show (j + 1) * 7 + i - 7 = j * 7 + i by omega, flat7_get f hf (a + 1) m j i (by omega) hi]
    rw [show a + 1 + j = a + (j + 1) by omega]
theorem marksE_get (j i : Nat) (h : j < 12) (hi : i < 7) : ((List.range 12).flatMap fun (j : Nat) => mkE (j : Int))[j * 7 + i]? = (mkE (j : Int))[i]? := by
  rw [List.range_eq_range', flat7_get (fun (j : Nat) => mkE (j : Int)) (fun _ => rfl) 0 12 j i h hi, Nat.zero_add]
set_option maxRecDepth 10000 in
set_option maxHeartbeats 2000000 in
theorem keptExprs (n : Nat) (hE : KpE n) (B : Nat) (l : List (ExT n)) (g : Nat) (xs : List Value) (A : Option Addr) (c : Nat) (w : World) (hB0 : B ≤ g) (hg : LentB 31 w g (xs ++ marksE)) (hx0 : All 7 (RdLn n B w) xs l) (hr : RdEs n w A l) (hl : l.length ≤ 1353245080300) (hz : ∀ x ∈ l, szE n x) :
    Calls Tryz.prog 35 #[.slice (some ⟨g, 0, none⟩) l.length (l.length + 12), .slice A l.length c] w fun e w' => e = .returned (.bool true) ∧ Below w.heap.size w w' := by
  have hxl := hx0.len
  go_enter Tryz.func35, Tryz.ntmps35
  go_wp2
  go_loopw [6] (fun i wr => ∃ k : Nat, k ≤ l.length + 12 ∧ i = .int .i64 k ∧ Below w.heap.size w wr) (fun i _ => l.length + 12 - (intOf i).toNat)
  case atStart => exact ⟨0, by omega, rfl, Below.refl _ _⟩
  case round =>
    obtain ⟨k, hk, rfl, hB⟩ := hrel
    by_cases hlt : k < l.length + 12
    · have hrd := hg.stays (Stays.below hB) hB0
      have hrl := RdEs.later hr hB
      have hra : All 7 (RdLn n B wr) xs l := hx0.mono fun _ _ _ h => h.old hB
      clear hr hg hx0
      by_cases hkn : k < l.length
      · obtain ⟨x, hx⟩ : ∃ x, l[k]? = some x := ⟨_, List.getElem?_eq_getElem hkn⟩
        obtain ⟨g0, o0, csx, he0, -, hLx, hcx⟩ := RdL.at_ (⟨xs, hrd.rd1, hra⟩ : RdL 7 (RdLn n B wr) wr (some ⟨g, 0, none⟩) l) (by omega) hx
        injection he0 with he0; injection he0 with h2 h3; subst h2; subst h3
        simp only [Nat.zero_add] at hcx
        obtain ⟨k2, s2, t2, A2, m2, e2, rfl⟩ := rd_spell2 hLx.rdE
        have c0 : ∀ d os, (Sort.grow (redrawn wr d) os).cell? ⟨g, k * 7, none⟩ = some (.int .i64 k2) := fun d os => cell_on (hcx 0 _ rfl) (below_regrown wr d os)
        have c1 : ∀ d os, (Sort.grow (redrawn wr d) os).cell? ⟨g, k * 7 + 1, none⟩ = some (.string s2) := fun d os => cell_on (hcx 1 _ rfl) (below_regrown wr d os)
        have c2 : ∀ d os, (Sort.grow (redrawn wr d) os).cell? ⟨g, k * 7 + 2, none⟩ = some (.int .i64 t2.k) := fun d os => cell_on (hcx 2 _ rfl) (below_regrown wr d os)
        have c3 : ∀ d os, (Sort.grow (redrawn wr d) os).cell? ⟨g, k * 7 + 3, none⟩ = some (.string t2.x) := fun d os => cell_on (hcx 3 _ rfl) (below_regrown wr d os)
        have c4 : ∀ d os, (Sort.grow (redrawn wr d) os).cell? ⟨g, k * 7 + 4, none⟩ = some (.string t2.l) := fun d os => cell_on (hcx 4 _ rfl) (below_regrown wr d os)
        have c5 : ∀ d os, (Sort.grow (redrawn wr d) os).cell? ⟨g, k * 7 + 5, none⟩ = some (.string t2.y) := fun d os => cell_on (hcx 5 _ rfl) (below_regrown wr d os)
        have c6 : ∀ d os, (Sort.grow (redrawn wr d) os).cell? ⟨g, k * 7 + 6, none⟩ = some (.slice A2 m2 e2) := fun d os => cell_on (hcx 6 _ rfl) (below_regrown wr d os)
        obtain ⟨g1, o1, k1, s1, t1, A1, m1, e1, rfl, hR, d0, d1, d2, d3, d4, d5, d6⟩ := hrl.atv hx
        have y0 := fun d os => cell_on d0 (below_regrown wr d os)
        have y1 := fun d os => cell_on d1 (below_regrown wr d os)
        have y2 := fun d os => cell_on d2 (below_regrown wr d os)
        have y3 := fun d os => cell_on d3 (below_regrown wr d os)
        have y4 := fun d os => cell_on d4 (below_regrown wr d os)
        have y5 := fun d os => cell_on d5 (below_regrown wr d os)
        have y6 := fun d os => cell_on d6 (below_regrown wr d os)
        have hc := fun d os => hE B x _ _ (Sort.grow (redrawn wr d) os) (hLx.old (below_regrown wr d os)) (hR.later (below_regrown wr d os)) (hz x (List.mem_of_getElem? hx))
        have hd1 : decide ((k : Int) < (l.length : Int)) = true := by simp; omega
        have hd2 : decide (l.length ≤ k) = false := by simp; omega
        clear hx hrd hrl hra hLx hR hcx hE hz d0 d1 d2 d3 d4 d5 d6 hxl
        go_wp2
        refine wp_region_quiet_below (by kernel_rfl) (by kernel_rfl) ?_; (repeat (any_goals (go_big_quiet_step ((go_at_call 64; exact Calls.regrown_of (hc _ _)))))); all_goals (refine wpQuiet_nil ?_; intro _ hw9; obtain ⟨⟨d9, os9⟩, hw8⟩ := hw9; subst hw8)
        go_wp2
        go_roundw
        case rel => exact ⟨k+1, by omega, by go_num, (by repeat (first | exact Below.refl _ _ | assumption | exact (Below.refl _ _).alloc (Nat.le_refl _) _ | refine below_tr ?_ (by assumption) | refine below_alloc ?_ | refine below_tr ?_ (below_regrown _ _ _)))⟩
        case measure => simp [intOf]; omega
      · have hmk := fun W => markEx ((k : Int) - l.length) W (by omega) (by omega)
        have hj : (marksOf mkX)[k - l.length]? = some (mkX ((k : Int) - l.length)) := by
          rw [marksOf_get mkX _ (by omega), show ((k - l.length : Nat) : Int) = (k : Int) - l.length by omega]
        have hcm : ∀ i u, (mkE ((k : Int) - l.length))[i]? = some u → wr.cell? ⟨g, k * 7 + i, none⟩ = some u := by
          intro i u hu
          obtain ⟨cs, hcl, hcR, hci⟩ := (marksE_all wr).at_ hj
          obtain ⟨A', c', hcs, -, hnil⟩ := hcR
          have := Rd.right hrd.rd ((k - l.length) * 7 + i) u (by
            have h0 : marksE[(k - l.length) * 7 + i]? = (mkE ((k : Int) - l.length))[i]? := by
              unfold marksE
              rw [marksE_get _ i (by omega) (by rcases Nat.lt_or_ge i 7 with h | h; exact h; rw [List.getElem?_eq_none (by simpa [mkE] using h)] at hu; cases hu)]
              rw [show ((k - l.length : Nat) : Int) = (k : Int) - l.length by omega]
            rw [h0]; exact hu)
          rw [show k * 7 + i = xs.length + ((k - l.length) * 7 + i) by rw [hxl]; omega]
          exact this
        have hS := fun W => kitExpr 1 _ _ _ _ W (mkX_rd ((k : Int) - l.length) W) (mkX_rd ((k : Int) - l.length) W) (mkX_sz _) (mkX_sz _)
        simp only [sameE_self] at hS
        simp only [mkE] at hmk hcm hS
        generalize 8000024 + ((k : Int) - l.length) = s at *
        have c0 : ∀ d os, (Sort.grow (redrawn wr d) os).cell? ⟨g, k * 7, none⟩ = some (.int .i64 s) := fun d os => cell_on (hcm 0 _ rfl) (below_regrown wr d os)
        have c1 : ∀ d os, (Sort.grow (redrawn wr d) os).cell? ⟨g, k * 7 + 1, none⟩ = some (.string ⟨#[]⟩) := fun d os => cell_on (hcm 1 _ rfl) (below_regrown wr d os)
        have c2 : ∀ d os, (Sort.grow (redrawn wr d) os).cell? ⟨g, k * 7 + 2, none⟩ = some (.int .i64 0) := fun d os => cell_on (hcm 2 _ rfl) (below_regrown wr d os)
        have c3 : ∀ d os, (Sort.grow (redrawn wr d) os).cell? ⟨g, k * 7 + 3, none⟩ = some (.string ⟨#[]⟩) := fun d os => cell_on (hcm 3 _ rfl) (below_regrown wr d os)
        have c4 : ∀ d os, (Sort.grow (redrawn wr d) os).cell? ⟨g, k * 7 + 4, none⟩ = some (.string ⟨#[]⟩) := fun d os => cell_on (hcm 4 _ rfl) (below_regrown wr d os)
        have c5 : ∀ d os, (Sort.grow (redrawn wr d) os).cell? ⟨g, k * 7 + 5, none⟩ = some (.string ⟨#[]⟩) := fun d os => cell_on (hcm 5 _ rfl) (below_regrown wr d os)
        have c6 : ∀ d os, (Sort.grow (redrawn wr d) os).cell? ⟨g, k * 7 + 6, none⟩ = some (.slice none 0 0) := fun d os => cell_on (hcm 6 _ rfl) (below_regrown wr d os)
        have hd1 : decide ((k : Int) < (l.length : Int)) = false := by simp; omega
        have hd2 : decide (l.length ≤ k) = true := by simp; omega
        have e1 : IntKind.i64.wrap ((k : Int) - l.length) = (k : Int) - l.length := IntWalk.i64_in _ (by omega)
        clear hj hcm hrd hrl hra hE hz hxl
        go_wp2
        refine wp_region_quiet_below (by kernel_rfl) (by kernel_rfl) ?_; (repeat (any_goals (go_big_quiet_step ((first | (go_at_call 55; exact Calls.regrown_of (hmk _)) | (go_at_call 65; exact Calls.regrown_of (hS _))))))); all_goals (refine wpQuiet_nil ?_; intro _ hw9; obtain ⟨⟨d9, os9⟩, hw8⟩ := hw9; subst hw8)
        go_wp2
        go_roundw
        case rel => exact ⟨k+1, by omega, by go_num, (by repeat (first | exact Below.refl _ _ | assumption | exact (Below.refl _ _).alloc (Nat.le_refl _) _ | refine below_tr ?_ (by assumption) | refine below_alloc ?_ | refine below_tr ?_ (below_regrown _ _ _)))⟩
        case measure => simp [intOf]; omega
    · go_wp2
      go_ret
      exact ⟨rfl, hB⟩
set_option maxRecDepth 10000 in
set_option maxHeartbeats 2000000 in
theorem keptExpr : ∀ n : Nat, KpE n
  | 0 => fun _ _ _ _ _ h _ _ => h.elim
  | n + 1 => by
    intro B x cs ds W hL hR hz
    have hS0 : ∀ w', Below W.heap.size W w' → Calls Tryz.prog 65 #[.agg cs.toArray, .agg ds.toArray] w' fun e w2 => e = .returned (.bool true) ∧ Below w'.heap.size w' w2 := fun w' hb => by
      have h := kitExpr (n + 1) x x cs ds w' (hL.old hb).rdE (hR.later hb) hz hz
      rwa [sameE_self] at h
    obtain ⟨k, s, t, ks⟩ := x
    have hL0 := hL
    have hR0 := hR
    have hz0 := hz
    obtain ⟨g, xs, rfl, hg, hlb, hla⟩ := hL0
    obtain ⟨A, c, rfl, hc1, hr⟩ := hR0
    obtain ⟨z1, z2, z3, z4⟩ := hz0
    have hB2 : Below W.heap.size W ((W.alloc (.cells #[.int .i64 k, .string s, .int .i64 t.k, .string t.x, .string t.l, .string t.y, .slice (some ⟨g, 0, none⟩) ks.length (ks.length + 12)] 31)).alloc (.cells #[.int .i64 k, .string s, .int .i64 t.k, .string t.x, .string t.l, .string t.y, .slice A ks.length c] 31)) := (by repeat (first | exact Below.refl _ _ | assumption | exact (Below.refl _ _).alloc (Nat.le_refl _) _ | refine below_tr ?_ (by assumption) | refine below_alloc ?_ | refine below_tr ?_ (below_regrown _ _ _)))
    clear hL hR
    have hc := hS0 _ hB2
    go_enter Tryz.func64, Tryz.ntmps64
    go_wp2_with fail
    refine hc.mono ?_
    rintro e w2 ⟨rfl, hb2⟩
    have b02 := below_tr hB2 hb2
    have k6 : w2.cell? ⟨W.heap.size, 6, none⟩ = some (.slice (some ⟨g, 0, none⟩) ks.length (ks.length + 12)) := cell_on (by rw [World.cell?, heap_two_1]; rfl) hb2
    have l6 : w2.cell? ⟨W.heap.size + 1, 6, none⟩ = some (.slice A ks.length c) := cell_on (by rw [World.cell?, heap_two_2]; rfl) hb2
    have hK := keptExprs n (keptExpr n) B ks g xs A c w2 hg (hlb.stays (Stays.below b02) hg) (hla.mono fun _ _ _ h => h.old b02) (RdEs.later hr b02) z3 z4
    clear hS0 hc hz hlb hla hr hB2 hb2 z1 z2 z3 z4
    go_wp2_with (go_at_call 35; refine hK.mono ?_; rintro e w3 ⟨rfl, hb3⟩)
    go_ret
    exact ⟨rfl, below_tr b02 hb3⟩
end Go.Proofs.YtfijpdmkdoccjaaGreatDoor
