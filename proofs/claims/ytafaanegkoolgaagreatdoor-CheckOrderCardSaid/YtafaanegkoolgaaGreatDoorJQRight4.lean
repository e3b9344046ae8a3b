/- The program's package query, walked: Right, behind its guards; whole. The program's package query, walked: Right, whole. -/
import Derived.Test.YtafaanegkoolgaaGreatDoorJQRight2
namespace Go.Proofs.YtafaanegkoolgaaGreatDoor
open Go Go.RowKit Go.Shelf Um Fm
attribute [local go_sem] Oper.semAt_some
/-- Four tests in turn. -/
def and4 (a b c d : Bool) : Bool := a && b && c && d
set_option maxRecDepth 100000 in
set_option maxHeartbeats 4000000 in
theorem qRightAll (ask dist : Bool) (np nf nv nk : Nat) (lim off : Int) (a1 a2 a3 a4 : Option Addr) (c1 c2 c3 c4 : Nat) (q1 q2 q3 q4 : Bool) (w : World) (h : fitQ np nf nv nk = true) (hn : numsQ lim off = true) (ha : askQ ask dist nv nk lim off = true)
    (hP : ∀ W, Below w.heap.size w W → Calls Tryz.prog 56 #[.func (.func 57) #[] #[], .slice a2 np c2] W fun e w' => e = .returned (.bool q1) ∧ Below W.heap.size W w')
    (hE : ∀ W, Below w.heap.size w W → Calls Tryz.prog 58 #[.func (.func 15) #[] #[], .slice a3 nf c3] W fun e w' => e = .returned (.bool q2) ∧ Below W.heap.size W w')
    (hV : ∀ W, Below w.heap.size w W → Calls Tryz.prog 59 #[.func (.func 54) #[] #[], .slice a1 nv c1] W fun e w' => e = .returned (.bool q3) ∧ Below W.heap.size W w')
    (hK : ∀ W, Below w.heap.size w W → Calls Tryz.prog 60 #[.func (.func 53) #[] #[], .slice a4 nk c4] W fun e w' => e = .returned (.bool q4) ∧ Below W.heap.size W w') :
    Calls Tryz.prog 13 #[.agg #[.bool ask, .bool dist, .slice a1 nv c1, .slice a2 np c2, .slice a3 nf c3, .slice a4 nk c4, .int .i64 lim, .int .i64 off]] w fun e w' => e = .returned (.bool (and4 q1 q2 q3 q4)) ∧ Below w.heap.size w w' := by
  have hB0 : Below w.heap.size w (w.alloc (.cells #[.bool ask, .bool dist, .slice a1 nv c1, .slice a2 np c2, .slice a3 nf c3, .slice a4 nk c4, .int .i64 lim, .int .i64 off] 27)) := (by repeat (first | exact Below.refl _ _ | assumption | exact (Below.refl _ _).alloc (Nat.le_refl _) _ | refine below_tr ?_ (by assumption) | refine below_alloc ?_ | refine below_tr ?_ (below_regrown _ _ _)))
  obtain ⟨h1, h2, h3, h4⟩ : (np : Int) ≤ 6 ∧ (nf : Int) ≤ 6 ∧ (nv : Int) ≤ 12 ∧ (nk : Int) ≤ 4 := by
    simp [fitQ] at h
    omega
  clear h
  have hN := fun W => qNum off W
  have hM := fun W => qNum lim W
  unfold numsQ at hn
  obtain ⟨h5, h6⟩ : 0 ≤ off ∧ off ≤ 1099511627776 := by
    simp [numB] at hn
    omega
  have hn1 : numB off = true := by simp [numB, h5, h6]
  have hn2 : lim = -1 ∨ (lim ≠ -1 ∧ numB lim = true) := by
    rw [hn1] at hn
    by_cases e : lim = -1
    · exact .inl e
    · exact .inr ⟨e, by simpa [e] using hn⟩
  rw [hn1] at hN
  clear hn hn1
  have hd : ask = false ∨ (ask = true ∧ dist = false ∧ (nv : Int) + nk + off ≤ 0 ∧ lim = -1) := by
    cases ask
    · exact .inl rfl
    · right
      simp [askQ] at ha
      exact ⟨rfl, ha.1.1, by omega, ha.2⟩
  clear ha
  obtain ⟨res, hres⟩ : ∃ r, and4 q1 q2 q3 q4 = r := ⟨_, rfl⟩
  rw [hres]
  have Hres := Lib.hid hres
  clear hres
  have hP0 := hP _ hB0
  clear hP
  have hway : (ask = false ∧ lim = -1) ∨ (ask = false ∧ lim ≠ -1 ∧ numB lim = true) ∨ (ask = true ∧ dist = false ∧ (nv : Int) + nk + off ≤ 0 ∧ lim = -1) := by
    rcases hd with rfl | ⟨rfl, rfl, hs, rfl⟩
    · rcases hn2 with rfl | ⟨hl, hl2⟩
      · exact .inl ⟨rfl, rfl⟩
      · exact .inr (.inl ⟨rfl, hl, hl2⟩)
    · exact .inr (.inr ⟨rfl, rfl, hs, rfl⟩)
  clear hd hn2
  rcases hway with ⟨rfl, rfl⟩ | ⟨rfl, hl, hl2⟩ | ⟨rfl, rfl, hs, rfl⟩
  · clear hM
    go_enter Tryz.func13, Tryz.ntmps13
    go_wp2_with (go_at_call 55; first | (refine (hN _).mono ?_; rintro e w' ⟨rfl, rfl⟩))
    go_wp2_with fail
    refine hP0.mono ?_
    rintro e w2 ⟨rfl, hb2⟩
    have hb02 := below_tr hB0 hb2
    obtain ⟨hc, hf⟩ := bcell hb2
    have hE0 := hE _ hb02
    clear hP0 hE
    cases q1
    · go_wp2
      go_ret
      exact ⟨by rw [← Hres.out]; rfl, hb02⟩
    go_wp2_with fail
    refine hE0.mono ?_
    rintro e w3 ⟨rfl, hb3⟩
    have hb03 := below_tr hb02 hb3
    have hb23 := below_tr hb2 hb3
    clear hc hf
    obtain ⟨hc, hf⟩ := bcell hb23
    have hV0 := hV _ hb03
    clear hE0 hV hb2 hb3 hb02
    cases q2
    · go_wp2
      go_ret
      exact ⟨by rw [← Hres.out]; rfl, hb03⟩
    go_wp2_with fail
    refine hV0.mono ?_
    rintro e w4 ⟨rfl, hb4⟩
    have hb04 := below_tr hb03 hb4
    have hb24 := below_tr hb23 hb4
    clear hc hf
    obtain ⟨hc, hf⟩ := bcell hb24
    have hK0 := hK _ hb04
    clear hV0 hK hb4 hb03 hb23
    cases q3
    · go_wp2
      go_ret
      exact ⟨by rw [← Hres.out]; rfl, hb04⟩
    go_wp2_with fail
    refine hK0.mono ?_
    rintro e w5 ⟨rfl, hb5⟩
    have hb05 := below_tr hb04 hb5
    clear hK0 hc hf hb24 hb04
    go_wp2
    go_ret
    exact ⟨by rw [← Hres.out]; cases q4 <;> rfl, hb05⟩
  · rw [hl2] at hM
    clear hl2
    go_enter Tryz.func13, Tryz.ntmps13
    go_wp2_with (go_at_call 55; first | (refine (hN _).mono ?_; rintro e w' ⟨rfl, rfl⟩) | (refine (hM _).mono ?_; rintro e w' ⟨rfl, rfl⟩))
    go_wp2_with fail
    refine hP0.mono ?_
    rintro e w2 ⟨rfl, hb2⟩
    have hb02 := below_tr hB0 hb2
    obtain ⟨hc, hf⟩ := bcell hb2
    have hE0 := hE _ hb02
    clear hP0 hE
    cases q1
    · go_wp2
      go_ret
      exact ⟨by rw [← Hres.out]; rfl, hb02⟩
    go_wp2_with fail
    refine hE0.mono ?_
    rintro e w3 ⟨rfl, hb3⟩
    have hb03 := below_tr hb02 hb3
    have hb23 := below_tr hb2 hb3
    clear hc hf
    obtain ⟨hc, hf⟩ := bcell hb23
    have hV0 := hV _ hb03
    clear hE0 hV hb2 hb3 hb02
    cases q2
    · go_wp2
      go_ret
      exact ⟨by rw [← Hres.out]; rfl, hb03⟩
    go_wp2_with fail
    refine hV0.mono ?_
    rintro e w4 ⟨rfl, hb4⟩
    have hb04 := below_tr hb03 hb4
    have hb24 := below_tr hb23 hb4
    clear hc hf
    obtain ⟨hc, hf⟩ := bcell hb24
    have hK0 := hK _ hb04
    clear hV0 hK hb4 hb03 hb23
    cases q3
    · go_wp2
      go_ret
      exact ⟨by rw [← Hres.out]; rfl, hb04⟩
    go_wp2_with fail
    refine hK0.mono ?_
    rintro e w5 ⟨rfl, hb5⟩
    have hb05 := below_tr hb04 hb5
    clear hK0 hc hf hb24 hb04
    go_wp2
    go_ret
    exact ⟨by rw [← Hres.out]; cases q4 <;> rfl, hb05⟩
  · clear hM
    go_enter Tryz.func13, Tryz.ntmps13
    go_wp2_with (go_at_call 55; first | (refine (hN _).mono ?_; rintro e w' ⟨rfl, rfl⟩))
    go_wp2_with fail
    refine hP0.mono ?_
    rintro e w2 ⟨rfl, hb2⟩
    have hb02 := below_tr hB0 hb2
    obtain ⟨hc, hf⟩ := bcell hb2
    have hE0 := hE _ hb02
    clear hP0 hE
    cases q1
    · go_wp2
      go_ret
      exact ⟨by rw [← Hres.out]; rfl, hb02⟩
    go_wp2_with fail
    refine hE0.mono ?_
    rintro e w3 ⟨rfl, hb3⟩
    have hb03 := below_tr hb02 hb3
    have hb23 := below_tr hb2 hb3
    clear hc hf
    obtain ⟨hc, hf⟩ := bcell hb23
    have hV0 := hV _ hb03
    clear hE0 hV hb2 hb3 hb02
    cases q2
    · go_wp2
      go_ret
      exact ⟨by rw [← Hres.out]; rfl, hb03⟩
    go_wp2_with fail
    refine hV0.mono ?_
    rintro e w4 ⟨rfl, hb4⟩
    have hb04 := below_tr hb03 hb4
    have hb24 := below_tr hb23 hb4
    clear hc hf
    obtain ⟨hc, hf⟩ := bcell hb24
    have hK0 := hK _ hb04
    clear hV0 hK hb4 hb03 hb23
    cases q3
    · go_wp2
      go_ret
      exact ⟨by rw [← Hres.out]; rfl, hb04⟩
    go_wp2_with fail
    refine hK0.mono ?_
    rintro e w5 ⟨rfl, hb5⟩
    have hb05 := below_tr hb04 hb5
    clear hK0 hc hf hb24 hb04
    go_wp2
    go_ret
    exact ⟨by rw [← Hres.out]; cases q4 <;> rfl, hb05⟩
end Go.Proofs.YtafaanegkoolgaaGreatDoor
namespace Go.Proofs.YtafaanegkoolgaaGreatDoor
open Go Go.RowKit Go.Shelf Um Fm
/-- A query, as it lies. -/
def RdQ (n : Nat) (w : World) (cs : List Value) (q : Qy n) : Prop := ∃ (a1 a2 a3 a4 : Option Addr) (c1 c2 c3 c4 : Nat),
  cs = [.bool q.ask, .bool q.dist, .slice a1 q.vars.length c1, .slice a2 q.pats.length c2, .slice a3 q.fils.length c3, .slice a4 q.ord.length c4, .int .i64 q.lim, .int .i64 q.off] ∧
  (q.vars.length ≤ c1 ∧ q.pats.length ≤ c2 ∧ q.fils.length ≤ c3 ∧ q.ord.length ≤ c4) ∧ Rd w a1 (q.vars.map Value.string) ∧ RdPat w a2 q.pats ∧ RdEs n w a3 q.fils ∧ RdKey w a4 q.ord
/-- A query's lists and texts are no longer than memory may hold. -/
def szQ {n : Nat} (q : Qy n) : Prop := q.vars.length ≤ 281474976710656 ∧ q.pats.length ≤ 281474976710656 ∧ q.fils.length ≤ 1353245080300 ∧ q.ord.length ≤ 281474976710656 ∧ (∀ x ∈ q.vars, x.size ≤ 281474976710656) ∧ (∀ x ∈ q.pats, szP x) ∧ (∀ x ∈ q.fils, szX n x) ∧ ∀ x ∈ q.ord, x.v.size ≤ 281474976710656
theorem RdStr_of {w : World} {A : Option Addr} {l : List ByteArray} (h : Rd w A (l.map Value.string)) : RdStr w A l := by
  refine ⟨_, h, ?_⟩
  clear h
  induction l with
  | nil => rfl
  | cons a r ih => exact ⟨[.string a], _, rfl, rfl, rfl, ih⟩
theorem qRight (n : Nat) (q : Qy n) (cs : List Value) (w : World) (hC : Ctx w) (hr : RdQ n w cs q) (hz : szQ q) :
    Calls Tryz.prog 13 #[.agg cs.toArray] w fun e w' => e = .returned (.bool (rightQ q)) ∧ Below w.heap.size w w' := by
  obtain ⟨a1, a2, a3, a4, c1, c2, c3, c4, rfl, _, h1, h2, h3, h4⟩ := hr
  obtain ⟨z1, z2, z3, z4, y1, y2, y3, y4⟩ := hz
  unfold rightQ
  cases hf : fitQ q.pats.length q.fils.length q.vars.length q.ord.length
  · exact qRightFit q.ask q.dist q.pats.length q.fils.length q.vars.length q.ord.length q.lim q.off a1 a2 a3 a4 c1 c2 c3 c4 w hf (by omega)
  cases hn : numsQ q.lim q.off
  · exact qRightNum q.ask q.dist q.pats.length q.fils.length q.vars.length q.ord.length q.lim q.off a1 a2 a3 a4 c1 c2 c3 c4 w hf hn
  cases ha : askQ q.ask q.dist q.vars.length q.ord.length q.lim q.off
  · exact qRightAsk q.ask q.dist q.pats.length q.fils.length q.vars.length q.ord.length q.lim q.off a1 a2 a3 a4 c1 c2 c3 c4 w hf hn ha
  obtain ⟨f1, f2, f3, f4⟩ : q.pats.length ≤ 6 ∧ q.fils.length ≤ 6 ∧ q.vars.length ≤ 12 ∧ q.ord.length ≤ 4 := by
    simpa [fitQ] using hf
  exact qRightAll q.ask q.dist q.pats.length q.fils.length q.vars.length q.ord.length q.lim q.off a1 a2 a3 a4 c1 c2 c3 c4 (q.pats.all patB) (q.fils.all (exprB n)) (q.vars.all nameB) (q.ord.all fun y => nameB y.v) w hf hn ha
    (fun W hb => everyPats q.pats a2 c2 W (hC.step hb) (by omega) (RdL.mono h2 hb fun _ _ _ h => h) y2)
    (fun W hb => everyExprs n q.fils a3 c3 W (hC.step hb) (by omega) (RdEs.later h3 hb) y3)
    (fun W hb => everyNames q.vars a1 c1 W (by omega) (RdL.mono (RdStr_of h1) hb fun _ _ _ h => h) y1)
    (fun W hb => everyKeys q.ord a4 c4 W (by omega) (RdL.mono h4 hb fun _ _ _ h => h) y4)
end Go.Proofs.YtafaanegkoolgaaGreatDoor
