/- The kit's conditions, kept. The law on queries that are the same: the plain part; the contracts put together. -/
import Derived.Test.YtefjhehgpkljcaaGreatDoorJKept1
import Derived.Test.YtefjhehgpkljcaaGreatDoorJLent4
import Derived.Test.YtefjhehgpkljcaaGreatDoorJCopyQ
import Derived.Test.YtefjhehgpkljcaaGreatDoorJLaw22g
namespace Go.Proofs.YtefjhehgpkljcaaGreatDoor
open Go Go.RowKit Um Fm Mt
theorem RdLn.old {n B : Nat} {w w' : World} {cs : List Value} {x : ExT n} (h : RdLn n B w cs x) (hb : Below w.heap.size w w') : RdLn n B w' cs x := h.step (Stays.below hb)
theorem sameE_self (n : Nat) (x : ExT n) : sameE n x x = true := sameE_iff.2 rfl
def KpE (n : Nat) : Prop := ∀ (B : Nat) (x : ExT n) (cs ds : List Value) (W : World), RdLn n B W cs x → RdE n W ds x → szE n x → Calls Tryz.prog 103 #[.agg cs.toArray, .agg ds.toArray] W fun e w' => e = .returned (.bool true) ∧ Below W.heap.size W w'
/-- A mark, read as a condition. -/
def mkX (j : Int) : ExT 1 := (8000024 + j, ⟨#[]⟩, zTm, [])
theorem mkX_rd (j : Int) (w : World) : RdE 1 w (mkE j) (mkX j) := ⟨none, 0, rfl, Nat.le_refl _, RdL.nil _ _ _ _⟩
theorem mkX_sz (j : Int) : szE 1 (mkX j) := by
  refine ⟨Nat.zero_le _, Nat.zero_le _, Nat.zero_le _, fun _ h => nomatch h⟩
theorem marksE_all (w : World) : All 7 (RdE 1 w) marksE (marksOf mkX) := by
  unfold marksE marksOf
  generalize List.range 12 = r
  induction r with
  | nil => rfl
  | cons a r ih => exact All.append (All.one (e := mkX (a : Int)) (cs := mkE (a : Int)) rfl (mkX_rd _ _)) ih
theorem Rd.right {w : World} {g : Nat} {xs ys : List Value} (h : Rd w (some ⟨g, 0, none⟩) (xs ++ ys)) : ∀ (j : Nat) (u : Value), ys[j]? = some u → w.cell? ⟨g, xs.length + j, none⟩ = some u := by
  intro j u hu
  obtain ⟨g0, o0, he, hc⟩ := h.at_ (j := xs.length + j) (u := u) (by rw [List.getElem?_append_right (by omega)]; rw [show xs.length + j - xs.length = j by omega]; exact hu)
  injection he with he; injection he with h2 h3; subst h2; subst h3
  simpa using hc
theorem flat7_get (f : Nat → List Value) (hf : ∀ j, (f j).length = 7) : ∀ (a m j i : Nat), j < m → i < 7 → ((List.range' a m).flatMap f)[j * 7 + i]? = (f (a + j))[i]?
  | a, 0, j, i, h, _ => absurd h (Nat.not_lt_zero _)
  | a, m + 1, 0, i, _, hi => by
    rw [List.range'_succ, List.flatMap_cons, List.getElem?_append_left (by rw [hf]; omega)]
    simp
  | a, m + 1, j + 1, i, h, hi => by
    rw [List.range'_succ, List.flatMap_cons, List.getElem?_append_right (by rw [hf]; omega), hf, show (j + 1) * 7 + i - 7 = j * 7 + i by omega, flat7_get f hf (a + 1) m j i (by omega) hi]
    rw [show a + 1 + j = a + (j + 1) by omega]
theorem marksE_get (j i : Nat) (h : j < 12) (hi : i < 7) : ((List.range 12).flatMap fun (j : Nat) => mkE (j : Int))[j * 7 + i]? = (mkE (j : Int))[i]? := by
  rw [List.range_eq_range', flat7_get (fun (j : Nat) => mkE (j : Int)) (fun _ => rfl) 0 12 j i h hi, Nat.zero_add]
set_option maxRecDepth 10000 in
set_option maxHeartbeats 2000000 in
theorem keptExprs (n : Nat) (hE : KpE n) (B : Nat) (l : List (ExT n)) (g : Nat) (xs : List Value) (A : Option Addr) (c : Nat) (w : World) (hB0 : B ≤ g) (hg : LentB 31 w g (xs ++ marksE)) (hx0 : All 7 (RdLn n B w) xs l) (hr : RdEs n w A l) (hl : l.length ≤ 1353245080300) (hz : ∀ x ∈ l, szE n x) :
    Calls Tryz.prog 53 #[.slice (some ⟨g, 0, none⟩) l.length (l.length + 12), .slice A l.length c] w fun e w' => e = .returned (.bool true) ∧ Below w.heap.size w w' := by
  have hxl := hx0.len
  go_enter Tryz.func53, Tryz.ntmps53
  go_wp2
  go_loopw [6] (fun i wr => ∃ k : Nat, k ≤ l.length + 12 ∧ i = .int .i64 k ∧ Below w.heap.size w wr) (fun i _ => l.length + 12 - (intOf i).toNat)
  case atStart => exact ⟨0, by omega, rfl, Below.refl _ _⟩
  case round =>
    obtain ⟨k, hk, rfl, hB⟩ := hrel
    by_cases hlt : k < l.length + 12
    · have hrd := hg.stays (Stays.below hB) hB0
      have hrl := RdEs.later hr hB
      have hra : All 7 (RdLn n B wr) xs l := hx0.mono fun _ _ _ h => h.old hB
      clear hr hg hx0
      by_cases hkn : k < l.length
      · obtain ⟨x, hx⟩ : ∃ x, l[k]? = some x := ⟨_, List.getElem?_eq_getElem hkn⟩
        obtain ⟨g0, o0, csx, he0, -, hLx, hcx⟩ := RdL.at_ (⟨xs, hrd.rd1, hra⟩ : RdL 7 (RdLn n B wr) wr (some ⟨g, 0, none⟩) l) (by omega) hx
        injection he0 with he0; injection he0 with h2 h3; subst h2; subst h3
        simp only [Nat.zero_add] at hcx
        obtain ⟨k2, s2, t2, A2, m2, e2, rfl⟩ := rd_spell2 hLx.rdE
        have c0 : ∀ d os, (Sort.grow (redrawn wr d) os).cell? ⟨g, k * 7, none⟩ = some (.int .i64 k2) := fun d os => cell_on (hcx 0 _ rfl) (below_regrown wr d os)
        have c1 : ∀ d os, (Sort.grow (redrawn wr d) os).cell? ⟨g, k * 7 + 1, none⟩ = some (.string s2) := fun d os => cell_on (hcx 1 _ rfl) (below_regrown wr d os)
        have c2 : ∀ d os, (Sort.grow (redrawn wr d) os).cell? ⟨g, k * 7 + 2, none⟩ = some (.int .i64 t2.k) := fun d os => cell_on (hcx 2 _ rfl) (below_regrown wr d os)
        have c3 : ∀ d os, (Sort.grow (redrawn wr d) os).cell? ⟨g, k * 7 + 3, none⟩ = some (.string t2.x) := fun d os => cell_on (hcx 3 _ rfl) (below_regrown wr d os)
        have c4 : ∀ d os, (Sort.grow (redrawn wr d) os).cell? ⟨g, k * 7 + 4, none⟩ = some (.string t2.l) := fun d os => cell_on (hcx 4 _ rfl) (below_regrown wr d os)
        have c5 : ∀ d os, (Sort.grow (redrawn wr d) os).cell? ⟨g, k * 7 + 5, none⟩ = some (.string t2.y) := fun d os => cell_on (hcx 5 _ rfl) (below_regrown wr d os)
        have c6 : ∀ d os, (Sort.grow (redrawn wr d) os).cell? ⟨g, k * 7 + 6, none⟩ = some (.slice A2 m2 e2) := fun d os => cell_on (hcx 6 _ rfl) (below_regrown wr d os)
        obtain ⟨g1, o1, k1, s1, t1, A1, m1, e1, rfl, hR, d0, d1, d2, d3, d4, d5, d6⟩ := hrl.atv hx
        have y0 := fun d os => cell_on d0 (below_regrown wr d os)
        have y1 := fun d os => cell_on d1 (below_regrown wr d os)
        have y2 := fun d os => cell_on d2 (below_regrown wr d os)
        have y3 := fun d os => cell_on d3 (below_regrown wr d os)
        have y4 := fun d os => cell_on d4 (below_regrown wr d os)
        have y5 := fun d os => cell_on d5 (below_regrown wr d os)
        have y6 := fun d os => cell_on d6 (below_regrown wr d os)
        have hc := fun d os => hE B x _ _ (Sort.grow (redrawn wr d) os) (hLx.old (below_regrown wr d os)) (hR.later (below_regrown wr d os)) (hz x (List.mem_of_getElem? hx))
        have hd1 : decide ((k : Int) < (l.length : Int)) = true := by simp; omega
        have hd2 : decide (l.length ≤ k) = false := by simp; omega
        clear hx hrd hrl hra hLx hR hcx hE hz d0 d1 d2 d3 d4 d5 d6 hxl
        go_wp2
        refine wp_region_quiet_below (by kernel_rfl) (by kernel_rfl) ?_; (repeat (any_goals (go_big_quiet_step ((go_at_call 103; exact Calls.regrown_of (hc _ _)))))); all_goals (refine wpQuiet_nil ?_; intro _ hw9; obtain ⟨⟨d9, os9⟩, hw8⟩ := hw9; subst hw8)
        go_wp2
        go_roundw
        case rel => exact ⟨k+1, by omega, by go_num, (by repeat (first | exact Below.refl _ _ | assumption | exact (Below.refl _ _).alloc (Nat.le_refl _) _ | refine below_tr ?_ (by assumption) | refine below_alloc ?_ | refine below_tr ?_ (below_regrown _ _ _)))⟩
        case measure => simp [intOf]; omega
      · have hmk := fun W => markEx ((k : Int) - l.length) W (by omega) (by omega)
        have hj : (marksOf mkX)[k - l.length]? = some (mkX ((k : Int) - l.length)) := by
          rw [marksOf_get mkX _ (by omega), show ((k - l.length : Nat) : Int) = (k : Int) - l.length by omega]
        have hcm : ∀ i u, (mkE ((k : Int) - l.length))[i]? = some u → wr.cell? ⟨g, k * 7 + i, none⟩ = some u := by
          intro i u hu
          obtain ⟨cs, hcl, hcR, hci⟩ := (marksE_all wr).at_ hj
          obtain ⟨A', c', hcs, -, hnil⟩ := hcR
          have := Rd.right hrd.rd ((k - l.length) * 7 + i) u (by
            have h0 : marksE[(k - l.length) * 7 + i]? = (mkE ((k : Int) - l.length))[i]? := by
              unfold marksE
              rw [marksE_get _ i (by omega) (by rcases Nat.lt_or_ge i 7 with h | h; exact h; rw [List.getElem?_eq_none (by simpa [mkE] using h)] at hu; cases hu)]
              rw [show ((k - l.length : Nat) : Int) = (k : Int) - l.length by omega]
            rw [h0]; exact hu)
          rw [show k * 7 + i = xs.length + ((k - l.length) * 7 + i) by rw [hxl]; omega]
          exact this
        have hS := fun W => kitExpr 1 _ _ _ _ W (mkX_rd ((k : Int) - l.length) W) (mkX_rd ((k : Int) - l.length) W) (mkX_sz _) (mkX_sz _)
        simp only [sameE_self] at hS
        simp only [mkE] at hmk hcm hS
        generalize 8000024 + ((k : Int) - l.length) = s at *
        have c0 : ∀ d os, (Sort.grow (redrawn wr d) os).cell? ⟨g, k * 7, none⟩ = some (.int .i64 s) := fun d os => cell_on (hcm 0 _ rfl) (below_regrown wr d os)
        have c1 : ∀ d os, (Sort.grow (redrawn wr d) os).cell? ⟨g, k * 7 + 1, none⟩ = some (.string ⟨#[]⟩) := fun d os => cell_on (hcm 1 _ rfl) (below_regrown wr d os)
        have c2 : ∀ d os, (Sort.grow (redrawn wr d) os).cell? ⟨g, k * 7 + 2, none⟩ = some (.int .i64 0) := fun d os => cell_on (hcm 2 _ rfl) (below_regrown wr d os)
        have c3 : ∀ d os, (Sort.grow (redrawn wr d) os).cell? ⟨g, k * 7 + 3, none⟩ = some (.string ⟨#[]⟩) := fun d os => cell_on (hcm 3 _ rfl) (below_regrown wr d os)
        have c4 : ∀ d os, (Sort.grow (redrawn wr d) os).cell? ⟨g, k * 7 + 4, none⟩ = some (.string ⟨#[]⟩) := fun d os => cell_on (hcm 4 _ rfl) (below_regrown wr d os)
        have c5 : ∀ d os, (Sort.grow (redrawn wr d) os).cell? ⟨g, k * 7 + 5, none⟩ = some (.string ⟨#[]⟩) := fun d os => cell_on (hcm 5 _ rfl) (below_regrown wr d os)
        have c6 : ∀ d os, (Sort.grow (redrawn wr d) os).cell? ⟨g, k * 7 + 6, none⟩ = some (.slice none 0 0) := fun d os => cell_on (hcm 6 _ rfl) (below_regrown wr d os)
        have hd1 : decide ((k : Int) < (l.length : Int)) = false := by simp; omega
        have hd2 : decide (l.length ≤ k) = true := by simp; omega
        have e1 : IntKind.i64.wrap ((k : Int) - l.length) = (k : Int) - l.length := IntWalk.i64_in _ (by omega)
        clear hj hcm hrd hrl hra hE hz hxl
        go_wp2
        refine wp_region_quiet_below (by kernel_rfl) (by kernel_rfl) ?_; (repeat (any_goals (go_big_quiet_step ((first | (go_at_call 95; exact Calls.regrown_of (hmk _)) | (go_at_call 104; exact Calls.regrown_of (hS _))))))); all_goals (refine wpQuiet_nil ?_; intro _ hw9; obtain ⟨⟨d9, os9⟩, hw8⟩ := hw9; subst hw8)
        go_wp2
        go_roundw
        case rel => exact ⟨k+1, by omega, by go_num, (by repeat (first | exact Below.refl _ _ | assumption | exact (Below.refl _ _).alloc (Nat.le_refl _) _ | refine below_tr ?_ (by assumption) | refine below_alloc ?_ | refine below_tr ?_ (below_regrown _ _ _)))⟩
        case measure => simp [intOf]; omega
    · go_wp2
      go_ret
      exact ⟨rfl, hB⟩
set_option maxRecDepth 10000 in
set_option maxHeartbeats 2000000 in
theorem keptExpr : ∀ n : Nat, KpE n
  | 0 => fun _ _ _ _ _ h _ _ => h.elim
  | n + 1 => by
    intro B x cs ds W hL hR hz
    have hS0 : ∀ w', Below W.heap.size W w' → Calls Tryz.prog 104 #[.agg cs.toArray, .agg ds.toArray] w' fun e w2 => e = .returned (.bool true) ∧ Below w'.heap.size w' w2 := fun w' hb => by
      have h := kitExpr (n + 1) x x cs ds w' (hL.old hb).rdE (hR.later hb) hz hz
      rwa [sameE_self] at h
    obtain ⟨k, s, t, ks⟩ := x
    have hL0 := hL
    have hR0 := hR
    have hz0 := hz
    obtain ⟨g, xs, rfl, hg, hlb, hla⟩ := hL0
    obtain ⟨A, c, rfl, hc1, hr⟩ := hR0
    obtain ⟨z1, z2, z3, z4⟩ := hz0
    have hB2 : Below W.heap.size W ((W.alloc (.cells #[.int .i64 k, .string s, .int .i64 t.k, .string t.x, .string t.l, .string t.y, .slice (some ⟨g, 0, none⟩) ks.length (ks.length + 12)] 31)).alloc (.cells #[.int .i64 k, .string s, .int .i64 t.k, .string t.x, .string t.l, .string t.y, .slice A ks.length c] 31)) := (by repeat (first | exact Below.refl _ _ | assumption | exact (Below.refl _ _).alloc (Nat.le_refl _) _ | refine below_tr ?_ (by assumption) | refine below_alloc ?_ | refine below_tr ?_ (below_regrown _ _ _)))
    clear hL hR
    have hc := hS0 _ hB2
    go_enter Tryz.func103, Tryz.ntmps103
    go_wp2_with fail
    refine hc.mono ?_
    rintro e w2 ⟨rfl, hb2⟩
    have b02 := below_tr hB2 hb2
    have k6 : w2.cell? ⟨W.heap.size, 6, none⟩ = some (.slice (some ⟨g, 0, none⟩) ks.length (ks.length + 12)) := cell_on (by rw [World.cell?, heap_two_1]; rfl) hb2
    have l6 : w2.cell? ⟨W.heap.size + 1, 6, none⟩ = some (.slice A ks.length c) := cell_on (by rw [World.cell?, heap_two_2]; rfl) hb2
    have hK := keptExprs n (keptExpr n) B ks g xs A c w2 hg (hlb.stays (Stays.below b02) hg) (hla.mono fun _ _ _ h => h.old b02) (RdEs.later hr b02) z3 z4
    clear hS0 hc hz hlb hla hr hB2 hb2 z1 z2 z3 z4
    go_wp2_with (go_at_call 53; refine hK.mono ?_; rintro e w3 ⟨rfl, hb3⟩)
    go_ret
    exact ⟨rfl, below_tr b02 hb3⟩
end Go.Proofs.YtefjhehgpkljcaaGreatDoor
namespace Go.Proofs.YtefjhehgpkljcaaGreatDoor
open Go Go.RowKit Um Fm Mt
theorem right_parts {n : Nat} {q : Qy n} : rightQ q = true ↔ (fitQ q.pats.length q.fils.length q.vars.length q.ord.length = true ∧ numsQ q.lim q.off = true ∧ askQ q.ask q.dist q.vars.length q.ord.length q.lim q.off = true ∧ q.pats.all patB = true ∧ q.fils.all (exprB n) = true ∧ q.vars.all nameB = true ∧ (q.ord.all fun y => nameB y.v) = true) := by
  unfold rightQ
  simp only [Bool.and_eq_true, and_assoc]
theorem all_tail {α : Type} {p : α → Bool} {l : List α} (h : l.all p = true) : l.tail.all p = true := by
  rw [List.all_eq_true] at h ⊢
  exact fun x hx => h x (List.mem_of_mem_tail hx)
theorem fit_le {a b c d a' b' c' d' : Nat} (h : fitQ a b c d = true) (h1 : a' ≤ a) (h2 : b' ≤ b) (h3 : c' ≤ c) (h4 : d' ≤ d) : fitQ a' b' c' d' = true := by
  simp [fitQ] at h ⊢; omega
theorem ask_le {p d : Bool} {a b a' b' : Nat} {l f : Int} (h : askQ p d a b l f = true) (h1 : a' ≤ a) (h2 : b' ≤ b) : askQ p d a' b' l f = true := by
  cases p
  · simp [askQ]
  · simp [askQ] at h ⊢
    obtain ⟨⟨h3, h4⟩, h5⟩ := h
    exact ⟨⟨h3, by omega⟩, h5⟩
/-- The four ways to leave out the first. -/
inductive Less {n : Nat} (q : Qy n) : Qy n → Prop
  | none : Less q q
  | pats : Less q { q with pats := q.pats.tail }
  | fils : Less q { q with fils := q.fils.tail }
  | ord : Less q { q with ord := q.ord.tail }
  | vars : Less q { q with vars := q.vars.tail }
theorem right_less {n : Nat} {q r : Qy n} (h : rightQ q = true) (hl : Less q r) : rightQ r = true := by
  obtain ⟨h1, h2, h3, h4, h5, h6, h7⟩ := right_parts.1 h
  refine right_parts.2 ?_
  cases hl
  · exact ⟨h1, h2, h3, h4, h5, h6, h7⟩
  · exact ⟨fit_le h1 (by simp) (Nat.le_refl _) (Nat.le_refl _) (Nat.le_refl _), h2, h3, all_tail h4, h5, h6, h7⟩
  · exact ⟨fit_le h1 (Nat.le_refl _) (by simp) (Nat.le_refl _) (Nat.le_refl _), h2, h3, h4, all_tail h5, h6, h7⟩
  · exact ⟨fit_le h1 (Nat.le_refl _) (Nat.le_refl _) (Nat.le_refl _) (by simp), h2, ask_le h3 (Nat.le_refl _) (by simp), h4, h5, h6, all_tail h7⟩
  · exact ⟨fit_le h1 (Nat.le_refl _) (Nat.le_refl _) (by simp) (Nat.le_refl _), h2, ask_le h3 (by simp) (Nat.le_refl _), h4, h5, all_tail h6, h7⟩
theorem sz_less {n : Nat} {q r : Qy n} (h : szQ q) (hl : Less q r) : szQ r := by
  obtain ⟨h1, h2, h3, h4, h5, h6, h7, h8⟩ := h
  cases hl
  · exact ⟨h1, h2, h3, h4, h5, h6, h7, h8⟩
  · exact ⟨h1, by show q.pats.tail.length ≤ _; rw [List.length_tail]; omega, h3, h4, h5, fun x hx => h6 x (List.mem_of_mem_tail hx), h7, h8⟩
  · exact ⟨h1, h2, by show q.fils.tail.length ≤ _; rw [List.length_tail]; omega, h4, h5, h6, fun x hx => h7 x (List.mem_of_mem_tail hx), h8⟩
  · exact ⟨h1, h2, h3, by show q.ord.tail.length ≤ _; rw [List.length_tail]; omega, h5, h6, h7, fun x hx => h8 x (List.mem_of_mem_tail hx)⟩
  · exact ⟨by show q.vars.tail.length ≤ _; rw [List.length_tail]; omega, h2, h3, h4, fun x hx => h5 x (List.mem_of_mem_tail hx), h6, h7, h8⟩
theorem right_expr {n : Nat} {q : Qy n} {x : ExT n} (h : rightQ q = true) (hx : x ∈ q.fils) : exprB n x = true :=
  List.all_eq_true.1 (right_parts.1 h).2.2.2.2.1 x hx
theorem expr_le {n : Nat} {x : ExT n} (h : exprB n x = true) : (preE n x).length ≤ 40 := by
  unfold exprB at h; simp only [Bool.and_eq_true, decide_eq_true_eq] at h; exact h.1
theorem pre_pos : ∀ {n : Nat} (x : ExT n), 1 ≤ (preE n x).length
  | 0, x => nomatch (show Empty from x)
  | n + 1, (k, s, t, kids) => by rw [preE]; simp
theorem pre_mem {n : Nat} {y : ExT n} {l : List (ExT n)} (h : y ∈ l) : (preE n y).length ≤ (l.flatMap (preE n)).length ∧ ∀ p ∈ preE n y, p ∈ l.flatMap (preE n) := by
  obtain ⟨a, b, rfl⟩ := List.append_of_mem h
  rw [List.flatMap_append, List.flatMap_cons]
  refine ⟨by simp; omega, fun p hp => by simp [hp]⟩
theorem expr_kid {n : Nat} {k : Int} {s : ByteArray} {t : Tm} {kids : List (ExT n)} {y : ExT n} (h : exprB (n + 1) ((k, s, t, kids) : ExT (n + 1)) = true) (hy : y ∈ kids) : exprB n y = true := by
  have hl := expr_le h
  unfold exprB at h ⊢
  simp only [Bool.and_eq_true, decide_eq_true_eq] at h ⊢
  obtain ⟨h1, h2⟩ := pre_mem hy
  rw [preE, List.length_cons] at hl
  refine ⟨by omega, ?_⟩
  unfold partsB at h ⊢
  rw [List.all_eq_true] at h ⊢
  exact fun p hp => h.2 p (by rw [preE]; exact List.mem_cons_of_mem _ (h2 p hp))
theorem kitSame (n : Nat) (a b : Qy n) (cs ds : List Value) (w : World) (ha : RdQ n w cs a) (hb : RdQ n w ds b) (sa : szL a) (sb : szL b) :
    Calls Tryz.prog 75 #[.agg cs.toArray, .agg ds.toArray] w fun e w' => e = .returned (.bool (sameQ a b)) ∧ Below w.heap.size w w' := by
  obtain ⟨a1, a2, a3, a4, c1, c2, c3, c4, rfl, -, h1, h2, h3, h4⟩ := ha
  obtain ⟨b1, b2, b3, b4, d1, d2, d3, d4, rfl, -, k1, k2, k3, k4⟩ := hb
  obtain ⟨s1, s2, s3, s4, s5⟩ := sa
  obtain ⟨t1, t2, t3, t4, t5⟩ := sb
  have e : sameQ a b = (a.ask == b.ask && a.dist == b.dist && eqL beqS a.vars b.vars && eqL samePat a.pats b.pats && eqL (sameE n) a.fils b.fils && eqL sameKy a.ord b.ord && a.lim == b.lim && a.off == b.off) := by
    unfold sameQ
    generalize (a.ask == b.ask) = x1
    generalize (a.dist == b.dist) = x2
    generalize (a.lim == b.lim) = x3
    generalize (a.off == b.off) = x4
    generalize (eqL beqS a.vars b.vars) = x5
    generalize (eqL samePat a.pats b.pats) = x6
    generalize (eqL (sameE n) a.fils b.fils) = x7
    generalize (eqL sameKy a.ord b.ord) = x8
    revert x1 x2 x3 x4 x5 x6 x7 x8
    decide
  have et : eqL beqS a.vars b.vars = sameTs a.vars b.vars := by
    unfold sameTs; rw [Bool.eq_iff_iff, eqL_iff (fun a _ b => beqS_iff)]; simp
  rw [e]
  exact kitSameRun a.ask b.ask a.dist b.dist a.lim b.lim a.off b.off a1 a2 a3 a4 b1 b2 b3 b4 a.vars.length a.pats.length a.fils.length a.ord.length b.vars.length b.pats.length b.fils.length b.ord.length c1 c2 c3 c4 d1 d2 d3 d4 _ _ _ _ w
    (fun W hW => by rw [et]; exact sameTexts a.vars b.vars a1 b1 c1 d1 W (h1.later hW) (k1.later hW) s1 t1)
    (fun W hW => kitPats a.pats b.pats a2 b2 c2 d2 W (RdL.mono h2 hW fun _ _ _ h => h) (RdL.mono k2 hW fun _ _ _ h => h) s2 t2)
    (fun W hW => kitExprs n (kitExpr n) a.fils b.fils a3 b3 c3 d3 W (RdEs.later h3 hW) (RdEs.later k3 hW) s3 t3 s5 t5)
    (fun W hW => kitKeys a.ord b.ord a4 b4 c4 d4 W (RdL.mono h4 hW fun _ _ _ h => h) (RdL.mono k4 hW fun _ _ _ h => h) s4 t4)
theorem RdQ.spell {n : Nat} {w : World} {p d : Bool} {l o : Int} {s1 s2 s3 s4 : Option Addr} {m1 m2 m3 m4 f1 f2 f3 f4 : Nat} {q : Qy n} (h : RdQ n w [.bool p, .bool d, .slice s1 m1 f1, .slice s2 m2 f2, .slice s3 m3 f3, .slice s4 m4 f4, .int .i64 l, .int .i64 o] q) :
    q.vars.length ≤ f1 ∧ q.pats.length ≤ f2 ∧ q.fils.length ≤ f3 ∧ q.ord.length ≤ f4 ∧ Rd w s1 (q.vars.map Value.string) ∧ RdPat w s2 q.pats ∧ RdEs n w s3 q.fils ∧ RdKey w s4 q.ord := by
  obtain ⟨a1, a2, a3, a4, c1, c2, c3, c4, h0, ⟨o1, o2, o3, o4⟩, r1, r2, r3, r4⟩ := h
  simp only [List.cons.injEq, Value.bool.injEq, Value.slice.injEq, Value.int.injEq, and_true, true_and] at h0
  obtain ⟨-, -, ⟨rfl, -, rfl⟩, ⟨rfl, -, rfl⟩, ⟨rfl, -, rfl⟩, ⟨rfl, -, rfl⟩, -, -⟩ := h0
  exact ⟨o1, o2, o3, o4, r1, r2, r3, r4⟩
/-- A slice from its second on. -/
def subA (sz c : Nat) (s : Option Addr) : Option Addr := if c = 1 then s else s.map fun x => { block := x.block, off := x.off + sz }
theorem Rd.sub {w : World} {s : Option Addr} {xs : List Value} (h : Rd w s xs) (sz : Nat) : Rd w (s.map fun x => { block := x.block, off := x.off + sz }) (xs.drop sz) := by
  rcases h with rfl | ⟨g, o, rfl, hx⟩
  · exact .inl (by simp)
  · refine .inr ⟨g, o + sz, rfl, fun j u hu => ?_⟩
    rw [Nat.add_assoc]
    exact hx (sz + j) u (by simpa using hu)
theorem RdL.sub {α : Type} {sz : Nat} {R : List Value → α → Prop} {w : World} {s : Option Addr} {l : List α} {c : Nat} (h : RdL sz R w s l) (hl : l.length ≤ c) : RdL sz R w (subA sz c s) l.tail ∧ l.tail.length ≤ c - 1 := by
  refine ⟨?_, by rw [List.length_tail]; omega⟩
  unfold subA
  split
  · have : l.tail = [] := List.eq_nil_of_length_eq_zero (by rw [List.length_tail]; omega)
    rw [this]; exact RdL.nil _ _ _ _
  · obtain ⟨xs, hr, ha⟩ := h
    have h2 := ha.drop 1
    rw [Nat.one_mul] at h2
    exact ⟨_, hr.sub sz, by rw [← List.drop_one]; exact h2⟩
theorem Rd.subS {w : World} {s : Option Addr} {l : List ByteArray} {c : Nat} (h : Rd w s (l.map Value.string)) (hl : l.length ≤ c) : Rd w (subA 1 c s) (l.tail.map Value.string) ∧ l.tail.length ≤ c - 1 := by
  refine ⟨?_, by rw [List.length_tail]; omega⟩
  unfold subA
  split
  · have : l.tail = [] := List.eq_nil_of_length_eq_zero (by rw [List.length_tail]; omega)
    rw [this]; exact Rd.nil _ _
  · have := h.sub 1
    rw [← List.map_drop, List.drop_one] at this
    exact this
theorem take_flat_le {α β : Type} {f : α → List β} (l : List α) (j : Nat) : ((l.take j).flatMap f).length ≤ (l.flatMap f).length := by
  conv => rhs; rw [← List.take_append_drop j l]
  rw [List.flatMap_append, List.length_append]; omega
theorem kids_of : ∀ {n : Nat} {w : World} {k1 : Int} {s1 : ByteArray} {t1 : Tm} {A1 : Option Addr} {m1 e1 : Nat} {x : ExT n}, RdE n w [.int .i64 k1, .string s1, .int .i64 t1.k, .string t1.x, .string t1.l, .string t1.y, .slice A1 m1 e1] x → exprB n x = true → szX n x → szE n x →
    ∃ (m : Nat) (kids : List (ExT m)), m1 = kids.length ∧ RdEs m w A1 kids ∧ (preE n x).length = 1 + (kids.flatMap (preE m)).length ∧ kids.length ≤ 1353245080300 ∧ ∀ y ∈ kids, exprB m y = true ∧ szX m y ∧ szE m y
  | 0, _, _, _, _, _, _, _, _, h, _, _, _ => h.elim
  | n + 1, w, k1, s1, t1, A1, m1, e1, (k, s, t, kids), ⟨A, c, h0, hc, hr⟩, hx, hz, he => by
    simp only [List.cons.injEq, Value.slice.injEq, and_true] at h0
    obtain ⟨-, -, -, -, -, -, rfl, rfl, -⟩ := h0
    exact ⟨n, kids, rfl, hr, by rw [preE, List.length_cons]; omega, he.2.2.1, fun y hy => ⟨expr_kid hx hy, hz.2.2.2 y hy, he.2.2.2 y hy⟩⟩
/-- Leaving out the first pattern, filter, key, name. -/
theorem RdQ.lessP {n : Nat} {w : World} {p d : Bool} {l o : Int} {s1 s2 s3 s4 : Option Addr} {m1 m2 m3 m4 f1 f2 f3 f4 : Nat} {q : Qy n} (h : RdQ n w [.bool p, .bool d, .slice s1 m1 f1, .slice s2 m2 f2, .slice s3 m3 f3, .slice s4 m4 f4, .int .i64 l, .int .i64 o] q) :
    RdQ n w [.bool q.ask, .bool q.dist, .slice s1 q.vars.length f1, .slice (subA 15 f2 s2) (q.pats.length - 1) (f2 - 1), .slice s3 q.fils.length f3, .slice s4 q.ord.length f4, .int .i64 q.lim, .int .i64 q.off] { q with pats := q.pats.tail } := by
  obtain ⟨o1, o2, o3, o4, r1, r2, r3, r4⟩ := h.spell
  exact ⟨s1, subA 15 f2 s2, s3, s4, f1, f2 - 1, f3, f4, by simp [List.length_tail], ⟨o1, (RdL.sub r2 o2).2, o3, o4⟩, r1, (RdL.sub r2 o2).1, r3, r4⟩
theorem RdQ.lessF {n : Nat} {w : World} {p d : Bool} {l o : Int} {s1 s2 s3 s4 : Option Addr} {m1 m2 m3 m4 f1 f2 f3 f4 : Nat} {q : Qy n} (h : RdQ n w [.bool p, .bool d, .slice s1 m1 f1, .slice s2 m2 f2, .slice s3 m3 f3, .slice s4 m4 f4, .int .i64 l, .int .i64 o] q) :
    RdQ n w [.bool q.ask, .bool q.dist, .slice s1 q.vars.length f1, .slice s2 q.pats.length f2, .slice (subA 7 f3 s3) (q.fils.length - 1) (f3 - 1), .slice s4 q.ord.length f4, .int .i64 q.lim, .int .i64 q.off] { q with fils := q.fils.tail } := by
  obtain ⟨o1, o2, o3, o4, r1, r2, r3, r4⟩ := h.spell
  exact ⟨s1, s2, subA 7 f3 s3, s4, f1, f2, f3 - 1, f4, by simp [List.length_tail], ⟨o1, o2, (RdL.sub r3 o3).2, o4⟩, r1, r2, (RdL.sub r3 o3).1, r4⟩
theorem RdQ.lessO {n : Nat} {w : World} {p d : Bool} {l o : Int} {s1 s2 s3 s4 : Option Addr} {m1 m2 m3 m4 f1 f2 f3 f4 : Nat} {q : Qy n} (h : RdQ n w [.bool p, .bool d, .slice s1 m1 f1, .slice s2 m2 f2, .slice s3 m3 f3, .slice s4 m4 f4, .int .i64 l, .int .i64 o] q) :
    RdQ n w [.bool q.ask, .bool q.dist, .slice s1 q.vars.length f1, .slice s2 q.pats.length f2, .slice s3 q.fils.length f3, .slice (subA 2 f4 s4) (q.ord.length - 1) (f4 - 1), .int .i64 q.lim, .int .i64 q.off] { q with ord := q.ord.tail } := by
  obtain ⟨o1, o2, o3, o4, r1, r2, r3, r4⟩ := h.spell
  exact ⟨s1, s2, s3, subA 2 f4 s4, f1, f2, f3, f4 - 1, by simp [List.length_tail], ⟨o1, o2, o3, (RdL.sub r4 o4).2⟩, r1, r2, r3, (RdL.sub r4 o4).1⟩
theorem RdQ.lessV {n : Nat} {w : World} {p d : Bool} {l o : Int} {s1 s2 s3 s4 : Option Addr} {m1 m2 m3 m4 f1 f2 f3 f4 : Nat} {q : Qy n} (h : RdQ n w [.bool p, .bool d, .slice s1 m1 f1, .slice s2 m2 f2, .slice s3 m3 f3, .slice s4 m4 f4, .int .i64 l, .int .i64 o] q) :
    RdQ n w [.bool q.ask, .bool q.dist, .slice (subA 1 f1 s1) (q.vars.length - 1) (f1 - 1), .slice s2 q.pats.length f2, .slice s3 q.fils.length f3, .slice s4 q.ord.length f4, .int .i64 q.lim, .int .i64 q.off] { q with vars := q.vars.tail } := by
  obtain ⟨o1, o2, o3, o4, r1, r2, r3, r4⟩ := h.spell
  exact ⟨subA 1 f1 s1, s2, s3, s4, f1 - 1, f2, f3, f4, by simp [List.length_tail], ⟨(Rd.subS r1 o1).2, o2, o3, o4⟩, (Rd.subS r1 o1).1, r2, r3, r4⟩
end Go.Proofs.YtefjhehgpkljcaaGreatDoor
