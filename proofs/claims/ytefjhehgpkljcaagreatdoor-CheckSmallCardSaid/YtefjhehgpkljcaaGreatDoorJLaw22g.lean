/- The program's package query, walked: Right, behind its guards; whole. The program's package query, walked: Right, whole. The program's package check, walked: used, Query. Layer 22's law, walked: how great queries are. -/
import Derived.Test.YtefjhehgpkljcaaGreatDoorJQRight2
import Derived.Test.YtefjhehgpkljcaaGreatDoorJMapStr
import Derived.Test.YtefjhehgpkljcaaGreatDoorJChk1
import Derived.Test.YtefjhehgpkljcaaGreatDoorJMet
namespace Go.Proofs.YtefjhehgpkljcaaGreatDoor
open Go Go.RowKit Go.Shelf Um Fm
attribute [local go_sem] Oper.semAt_some
/-- Four tests in turn. -/
def and4 (a b c d : Bool) : Bool := a && b && c && d
set_option maxRecDepth 100000 in
set_option maxHeartbeats 4000000 in
theorem qRightAll (ask dist : Bool) (np nf nv nk : Nat) (lim off : Int) (a1 a2 a3 a4 : Option Addr) (c1 c2 c3 c4 : Nat) (q1 q2 q3 q4 : Bool) (w : World) (h : fitQ np nf nv nk = true) (hn : numsQ lim off = true) (ha : askQ ask dist nv nk lim off = true)
    (hP : ∀ W, Below w.heap.size w W → Calls Tryz.prog 115 #[.func (.func 116) #[] #[], .slice a2 np c2] W fun e w' => e = .returned (.bool q1) ∧ Below W.heap.size W w')
    (hE : ∀ W, Below w.heap.size w W → Calls Tryz.prog 117 #[.func (.func 118) #[] #[], .slice a3 nf c3] W fun e w' => e = .returned (.bool q2) ∧ Below W.heap.size W w')
    (hV : ∀ W, Below w.heap.size w W → Calls Tryz.prog 119 #[.func (.func 113) #[] #[], .slice a1 nv c1] W fun e w' => e = .returned (.bool q3) ∧ Below W.heap.size W w')
    (hK : ∀ W, Below w.heap.size w W → Calls Tryz.prog 120 #[.func (.func 112) #[] #[], .slice a4 nk c4] W fun e w' => e = .returned (.bool q4) ∧ Below W.heap.size W w') :
    Calls Tryz.prog 67 #[.agg #[.bool ask, .bool dist, .slice a1 nv c1, .slice a2 np c2, .slice a3 nf c3, .slice a4 nk c4, .int .i64 lim, .int .i64 off]] w fun e w' => e = .returned (.bool (and4 q1 q2 q3 q4)) ∧ Below w.heap.size w w' := by
  have hB0 : Below w.heap.size w (w.alloc (.cells #[.bool ask, .bool dist, .slice a1 nv c1, .slice a2 np c2, .slice a3 nf c3, .slice a4 nk c4, .int .i64 lim, .int .i64 off] 40)) := (by repeat (first | exact Below.refl _ _ | assumption | exact (Below.refl _ _).alloc (Nat.le_refl _) _ | refine below_tr ?_ (by assumption) | refine below_alloc ?_ | refine below_tr ?_ (below_regrown _ _ _)))
  obtain ⟨h1, h2, h3, h4⟩ : (np : Int) ≤ 6 ∧ (nf : Int) ≤ 6 ∧ (nv : Int) ≤ 12 ∧ (nk : Int) ≤ 4 := by
    simp [fitQ] at h
    omega
  clear h
  have hN := fun W => qNum off W
  have hM := fun W => qNum lim W
  unfold numsQ at hn
  obtain ⟨h5, h6⟩ : 0 ≤ off ∧ off ≤ 1099511627776 := by
    simp [numB] at hn
    omega
  have hn1 : numB off = true := by simp [numB, h5, h6]
  have hn2 : lim = -1 ∨ (lim ≠ -1 ∧ numB lim = true) := by
    rw [hn1] at hn
    by_cases e : lim = -1
    · exact .inl e
    · exact .inr ⟨e, by simpa [e] using hn⟩
  rw [hn1] at hN
  clear hn hn1
  have hd : ask = false ∨ (ask = true ∧ dist = false ∧ (nv : Int) + nk + off ≤ 0 ∧ lim = -1) := by
    cases ask
    · exact .inl rfl
    · right
      simp [askQ] at ha
      exact ⟨rfl, ha.1.1, by omega, ha.2⟩
  clear ha
  obtain ⟨res, hres⟩ : ∃ r, and4 q1 q2 q3 q4 = r := ⟨_, rfl⟩
  rw [hres]
  have Hres := Lib.hid hres
  clear hres
  have hP0 := hP _ hB0
  clear hP
  have hway : (ask = false ∧ lim = -1) ∨ (ask = false ∧ lim ≠ -1 ∧ numB lim = true) ∨ (ask = true ∧ dist = false ∧ (nv : Int) + nk + off ≤ 0 ∧ lim = -1) := by
    rcases hd with rfl | ⟨rfl, rfl, hs, rfl⟩
    · rcases hn2 with rfl | ⟨hl, hl2⟩
      · exact .inl ⟨rfl, rfl⟩
      · exact .inr (.inl ⟨rfl, hl, hl2⟩)
    · exact .inr (.inr ⟨rfl, rfl, hs, rfl⟩)
  clear hd hn2
  rcases hway with ⟨rfl, rfl⟩ | ⟨rfl, hl, hl2⟩ | ⟨rfl, rfl, hs, rfl⟩
  · clear hM
    go_enter Tryz.func67, Tryz.ntmps67
    go_wp2_with (go_at_call 114; first | (refine (hN _).mono ?_; rintro e w' ⟨rfl, rfl⟩))
    go_wp2_with fail
    refine hP0.mono ?_
    rintro e w2 ⟨rfl, hb2⟩
    have hb02 := below_tr hB0 hb2
    obtain ⟨hc, hf⟩ := bcell hb2
    have hE0 := hE _ hb02
    clear hP0 hE
    cases q1
    · go_wp2
      go_ret
      exact ⟨by rw [← Hres.out]; rfl, hb02⟩
    go_wp2_with fail
    refine hE0.mono ?_
    rintro e w3 ⟨rfl, hb3⟩
    have hb03 := below_tr hb02 hb3
    have hb23 := below_tr hb2 hb3
    clear hc hf
    obtain ⟨hc, hf⟩ := bcell hb23
    have hV0 := hV _ hb03
    clear hE0 hV hb2 hb3 hb02
    cases q2
    · go_wp2
      go_ret
      exact ⟨by rw [← Hres.out]; rfl, hb03⟩
    go_wp2_with fail
    refine hV0.mono ?_
    rintro e w4 ⟨rfl, hb4⟩
    have hb04 := below_tr hb03 hb4
    have hb24 := below_tr hb23 hb4
    clear hc hf
    obtain ⟨hc, hf⟩ := bcell hb24
    have hK0 := hK _ hb04
    clear hV0 hK hb4 hb03 hb23
    cases q3
    · go_wp2
      go_ret
      exact ⟨by rw [← Hres.out]; rfl, hb04⟩
    go_wp2_with fail
    refine hK0.mono ?_
    rintro e w5 ⟨rfl, hb5⟩
    have hb05 := below_tr hb04 hb5
    clear hK0 hc hf hb24 hb04
    go_wp2
    go_ret
    exact ⟨by rw [← Hres.out]; cases q4 <;> rfl, hb05⟩
  · rw [hl2] at hM
    clear hl2
    go_enter Tryz.func67, Tryz.ntmps67
    go_wp2_with (go_at_call 114; first | (refine (hN _).mono ?_; rintro e w' ⟨rfl, rfl⟩) | (refine (hM _).mono ?_; rintro e w' ⟨rfl, rfl⟩))
    go_wp2_with fail
    refine hP0.mono ?_
    rintro e w2 ⟨rfl, hb2⟩
    have hb02 := below_tr hB0 hb2
    obtain ⟨hc, hf⟩ := bcell hb2
    have hE0 := hE _ hb02
    clear hP0 hE
    cases q1
    · go_wp2
      go_ret
      exact ⟨by rw [← Hres.out]; rfl, hb02⟩
    go_wp2_with fail
    refine hE0.mono ?_
    rintro e w3 ⟨rfl, hb3⟩
    have hb03 := below_tr hb02 hb3
    have hb23 := below_tr hb2 hb3
    clear hc hf
    obtain ⟨hc, hf⟩ := bcell hb23
    have hV0 := hV _ hb03
    clear hE0 hV hb2 hb3 hb02
    cases q2
    · go_wp2
      go_ret
      exact ⟨by rw [← Hres.out]; rfl, hb03⟩
    go_wp2_with fail
    refine hV0.mono ?_
    rintro e w4 ⟨rfl, hb4⟩
    have hb04 := below_tr hb03 hb4
    have hb24 := below_tr hb23 hb4
    clear hc hf
    obtain ⟨hc, hf⟩ := bcell hb24
    have hK0 := hK _ hb04
    clear hV0 hK hb4 hb03 hb23
    cases q3
    · go_wp2
      go_ret
      exact ⟨by rw [← Hres.out]; rfl, hb04⟩
    go_wp2_with fail
    refine hK0.mono ?_
    rintro e w5 ⟨rfl, hb5⟩
    have hb05 := below_tr hb04 hb5
    clear hK0 hc hf hb24 hb04
    go_wp2
    go_ret
    exact ⟨by rw [← Hres.out]; cases q4 <;> rfl, hb05⟩
  · clear hM
    go_enter Tryz.func67, Tryz.ntmps67
    go_wp2_with (go_at_call 114; first | (refine (hN _).mono ?_; rintro e w' ⟨rfl, rfl⟩))
    go_wp2_with fail
    refine hP0.mono ?_
    rintro e w2 ⟨rfl, hb2⟩
    have hb02 := below_tr hB0 hb2
    obtain ⟨hc, hf⟩ := bcell hb2
    have hE0 := hE _ hb02
    clear hP0 hE
    cases q1
    · go_wp2
      go_ret
      exact ⟨by rw [← Hres.out]; rfl, hb02⟩
    go_wp2_with fail
    refine hE0.mono ?_
    rintro e w3 ⟨rfl, hb3⟩
    have hb03 := below_tr hb02 hb3
    have hb23 := below_tr hb2 hb3
    clear hc hf
    obtain ⟨hc, hf⟩ := bcell hb23
    have hV0 := hV _ hb03
    clear hE0 hV hb2 hb3 hb02
    cases q2
    · go_wp2
      go_ret
      exact ⟨by rw [← Hres.out]; rfl, hb03⟩
    go_wp2_with fail
    refine hV0.mono ?_
    rintro e w4 ⟨rfl, hb4⟩
    have hb04 := below_tr hb03 hb4
    have hb24 := below_tr hb23 hb4
    clear hc hf
    obtain ⟨hc, hf⟩ := bcell hb24
    have hK0 := hK _ hb04
    clear hV0 hK hb4 hb03 hb23
    cases q3
    · go_wp2
      go_ret
      exact ⟨by rw [← Hres.out]; rfl, hb04⟩
    go_wp2_with fail
    refine hK0.mono ?_
    rintro e w5 ⟨rfl, hb5⟩
    have hb05 := below_tr hb04 hb5
    clear hK0 hc hf hb24 hb04
    go_wp2
    go_ret
    exact ⟨by rw [← Hres.out]; cases q4 <;> rfl, hb05⟩
end Go.Proofs.YtefjhehgpkljcaaGreatDoor
namespace Go.Proofs.YtefjhehgpkljcaaGreatDoor
open Go Go.RowKit Go.Shelf Um Fm
/-- A query, as it lies. -/
def RdQ (n : Nat) (w : World) (cs : List Value) (q : Qy n) : Prop := ∃ (a1 a2 a3 a4 : Option Addr) (c1 c2 c3 c4 : Nat),
  cs = [.bool q.ask, .bool q.dist, .slice a1 q.vars.length c1, .slice a2 q.pats.length c2, .slice a3 q.fils.length c3, .slice a4 q.ord.length c4, .int .i64 q.lim, .int .i64 q.off] ∧
  (q.vars.length ≤ c1 ∧ q.pats.length ≤ c2 ∧ q.fils.length ≤ c3 ∧ q.ord.length ≤ c4) ∧ Rd w a1 (q.vars.map Value.string) ∧ RdPat w a2 q.pats ∧ RdEs n w a3 q.fils ∧ RdKey w a4 q.ord
/-- A query's lists and texts are no longer than memory may hold. -/
def szQ {n : Nat} (q : Qy n) : Prop := q.vars.length ≤ 281474976710656 ∧ q.pats.length ≤ 281474976710656 ∧ q.fils.length ≤ 1353245080300 ∧ q.ord.length ≤ 281474976710656 ∧ (∀ x ∈ q.vars, x.size ≤ 281474976710656) ∧ (∀ x ∈ q.pats, szP x) ∧ (∀ x ∈ q.fils, szX n x) ∧ ∀ x ∈ q.ord, x.v.size ≤ 281474976710656
theorem RdStr_of {w : World} {A : Option Addr} {l : List ByteArray} (h : Rd w A (l.map Value.string)) : RdStr w A l := by
  refine ⟨_, h, ?_⟩
  clear h
  induction l with
  | nil => rfl
  | cons a r ih => exact ⟨[.string a], _, rfl, rfl, rfl, ih⟩
theorem qRight (n : Nat) (q : Qy n) (cs : List Value) (w : World) (hC : Ctx w) (hr : RdQ n w cs q) (hz : szQ q) :
    Calls Tryz.prog 67 #[.agg cs.toArray] w fun e w' => e = .returned (.bool (rightQ q)) ∧ Below w.heap.size w w' := by
  obtain ⟨a1, a2, a3, a4, c1, c2, c3, c4, rfl, _, h1, h2, h3, h4⟩ := hr
  obtain ⟨z1, z2, z3, z4, y1, y2, y3, y4⟩ := hz
  unfold rightQ
  cases hf : fitQ q.pats.length q.fils.length q.vars.length q.ord.length
  · exact qRightFit q.ask q.dist q.pats.length q.fils.length q.vars.length q.ord.length q.lim q.off a1 a2 a3 a4 c1 c2 c3 c4 w hf (by omega)
  cases hn : numsQ q.lim q.off
  · exact qRightNum q.ask q.dist q.pats.length q.fils.length q.vars.length q.ord.length q.lim q.off a1 a2 a3 a4 c1 c2 c3 c4 w hf hn
  cases ha : askQ q.ask q.dist q.vars.length q.ord.length q.lim q.off
  · exact qRightAsk q.ask q.dist q.pats.length q.fils.length q.vars.length q.ord.length q.lim q.off a1 a2 a3 a4 c1 c2 c3 c4 w hf hn ha
  obtain ⟨f1, f2, f3, f4⟩ : q.pats.length ≤ 6 ∧ q.fils.length ≤ 6 ∧ q.vars.length ≤ 12 ∧ q.ord.length ≤ 4 := by
    simpa [fitQ] using hf
  exact qRightAll q.ask q.dist q.pats.length q.fils.length q.vars.length q.ord.length q.lim q.off a1 a2 a3 a4 c1 c2 c3 c4 (q.pats.all patB) (q.fils.all (exprB n)) (q.vars.all nameB) (q.ord.all fun y => nameB y.v) w hf hn ha
    (fun W hb => everyPats q.pats a2 c2 W (hC.step hb) (by omega) (RdL.mono h2 hb fun _ _ _ h => h) y2)
    (fun W hb => everyExprs n q.fils a3 c3 W (hC.step hb) (by omega) (RdEs.later h3 hb) y3)
    (fun W hb => everyNames q.vars a1 c1 W (by omega) (RdL.mono (RdStr_of h1) hb fun _ _ _ h => h) y1)
    (fun W hb => everyKeys q.ord a4 c4 W (by omega) (RdL.mono h4 hb fun _ _ _ h => h) y4)
end Go.Proofs.YtefjhehgpkljcaaGreatDoor
namespace Go.Proofs.YtefjhehgpkljcaaGreatDoor
open Go Go.RowKit Go.Maps Go.ChangeMaps Go.Shelf Um Fm Mt Mp
attribute [local go_sem] Oper.semAt_some

theorem own_block {w : World} {base : Nat} {e : TypeId} {size n : Nat} {A : Option Addr} {m c : Nat} {xs : List Value} (h : w.ownsRow base e size (.slice A m c) n xs) : ∀ a, A = some a → base ≤ a.block ∧ a.block < w.heap.size := by
  intro a ha
  exact h.lt a.block (by rw [ha]; rfl)
/-- A query's things are few. -/
def fewQ {n : Nat} (q : Qy n) : Prop := q.vars.length ≤ 100000 ∧ q.pats.length ≤ 300000 ∧ q.ord.length ≤ 100000 ∧ q.fils.length ≤ 1353245080300 ∧ (∀ x ∈ q.fils, szE n x) ∧ (q.fils.flatMap (preE n)).length ≤ 500000
/-- The names that a query tells, sorts by, filters by. -/
def saidQ {n : Nat} (q : Qy n) : List ByteArray := q.vars ++ (keysN q.ord ++ usedN n q.fils)
theorem keysN_len (l : List Ky) : (keysN l).length = l.length := List.length_map _
theorem saidQ_len {n : Nat} {q : Qy n} (h : fewQ q) : (saidQ q).length ≤ 700000 := by
  have := usedN_len n q.fils
  obtain ⟨h1, h2, h3, h4, h5, h6⟩ := h
  unfold saidQ
  rw [List.length_append, List.length_append, keysN_len]
  omega
theorem rdLs3 {w : World} {A B C : Option Addr} {a b c : List ByteArray} {ca cb cc : Nat} {D : Nat} (hd : w.heap[D]? = some (.cells #[.slice A a.length ca, .slice B b.length cb, .slice C c.length cc] 24 (0, 0))) (h1 : Rd w A (a.map Value.string)) (h2 : Rd w B (b.map Value.string)) (h3 : Rd w C (c.map Value.string)) :
    RdLs w (some ⟨D, 0, none⟩) [a, b, c] :=
  ⟨[.slice A a.length ca] ++ ([.slice B b.length cb] ++ [.slice C c.length cc]), Rd.of_block hd rfl, All.append (l := [a]) (All.one rfl ⟨_, _, rfl, h1⟩) (All.append (l := [b]) (All.one rfl ⟨_, _, rfl, h2⟩) (All.one rfl ⟨_, _, rfl, h3⟩))⟩

/-- The texts that an iterator of slices.Values goes through, from block S on. -/
def SeqFrom (S : Nat) (w : World) (Bp : Nat) (l : List ByteArray) : Prop := ∃ A c, w.cell? ⟨Bp, 0, none⟩ = some (.slice A l.length c) ∧ Rd w A (l.map Value.string) ∧ S ≤ Bp ∧ ∀ a, A = some a → S ≤ a.block
theorem SeqFrom.at_ {S : Nat} {w : World} {Bp : Nat} {l : List ByteArray} (h : SeqFrom S w Bp l) : SeqAt w Bp l := by
  obtain ⟨A, c, h1, h2, _⟩ := h
  exact ⟨A, c, h1, h2⟩
def UsedR {n : Nat} (q : Qy n) (w : World) (e : Ending) (w' : World) : Prop := ∃ Bp, e = .returned (.func (.func 154) #[] #[.pointer (some ⟨Bp, 0, none⟩)]) ∧ SeqFrom w.heap.size w' Bp (saidQ q) ∧ Below w.heap.size w w'
set_option maxRecDepth 100000 in
set_option maxHeartbeats 4000000 in
theorem cUsed (M : Option Nat) (n : Nat) (q : Qy n) (a1 a2 a3 a4 : Option Addr) (c1 c2 c3 c4 : Nat) (w : World) (hf : fewQ q) (h1 : Rd w a1 (q.vars.map Value.string)) (h3 : RdEs n w a3 q.fils) (h4 : RdKey w a4 q.ord) :
    Calls Tryz.prog 63 #[.agg #[.map M, .bool q.ask, .bool q.dist, .slice a1 q.vars.length c1, .slice a2 q.pats.length c2, .slice a3 q.fils.length c3, .slice a4 q.ord.length c4, .int .i64 q.lim, .int .i64 q.off]] w (UsedR q w) := by
  obtain ⟨f1, f2, f3, f4, f5, f6⟩ := hf
  go_enter Tryz.func63, Tryz.ntmps63
  go_wp2
  obtain ⟨W, hW⟩ : ∃ W : World, w.alloc (.cells #[.map M, .bool q.ask, .bool q.dist, .slice a1 q.vars.length c1, .slice a2 q.pats.length c2, .slice a3 q.fils.length c3, .slice a4 q.ord.length c4, .int .i64 q.lim, .int .i64 q.off] 91) = W := ⟨_, rfl⟩
  have hB0 : Below w.heap.size w W := by rw [← hW]; exact (by repeat (first | exact Below.refl _ _ | assumption | exact (Below.refl _ _).alloc (Nat.le_refl _) _ | refine below_tr ?_ (by assumption) | refine below_alloc ?_ | refine below_tr ?_ (below_regrown _ _ _)))
  have hbx : ∀ (i : Nat) v, #[Value.map M, .bool q.ask, .bool q.dist, .slice a1 q.vars.length c1, .slice a2 q.pats.length c2, .slice a3 q.fils.length c3, .slice a4 q.ord.length c4, .int .i64 q.lim, .int .i64 q.off][i]? = some v → W.cell? ⟨w.heap.size, i, none⟩ = some v := by
    intro i v hv; rw [← hW, World.cell?, heap_alloc_new]; exact hv
  simp only [hW]
  have HW := Lib.hid hW
  clear hW
  have k1 := h1.later hB0
  have k3 := RdEs.later h3 hB0
  have k4 := RdL.mono h4 hB0 (fun _ _ _ h => h)
  clear h1 h3 h4
  refine Rf.wp_region_pl W.heap.size ?R (Rf.Pl.quiet [0, 1, 2, 3, 5, 6, 7] (Rf.Pl.one 4 (Rf.Pl.one 8 (Rf.Pl.one 9 (Rf.Pl.one 10 (Rf.Pl.one 11 (Rf.Pl.quiet [12] (Rf.Pl.done)))))))) _ (by kernel_rfl) (by kernel_rfl) (by simp only [Rf.Pl.pick, Rf.pickO, List.map_cons, List.map_nil, Rg.pickOps, List.getElem?_toArray, List.getElem?_cons_zero, List.getElem?_cons_succ, Option.getD_some]; rfl) ?_ ?_
  case R => exact fun a W' => ∃ (u3 u4 u5 u6 u7 u8 u9 u10 u11 u12 u13 u14 : Value) (Bp : Nat), a = { tmps := #[.agg #[.map M, .bool q.ask, .bool q.dist, .slice a1 q.vars.length c1, .slice a2 q.pats.length c2, .slice a3 q.fils.length c3, .slice a4 q.ord.length c4, .int .i64 q.lim, .int .i64 q.off], .pointer (some ⟨w.heap.size, 0, none⟩), .func (.func 154) #[] #[.pointer (some ⟨Bp, 0, none⟩)], u3, u4, u5, u6, u7, u8, u9, u10, u11, u12, u13, u14], defers := [] } ∧ SeqFrom w.heap.size W' Bp (saidQ q) ∧ Below W.heap.size W W'
  · intro wd hbd hwz
    have b0 := cellL (hbx 0 (.map M) rfl) hbd
    have b1 := cellL (hbx 1 (.bool q.ask) rfl) hbd
    have b2 := cellL (hbx 2 (.bool q.dist) rfl) hbd
    have b3 := cellL (hbx 3 (.slice a1 q.vars.length c1) rfl) hbd
    have b4 := cellL (hbx 4 (.slice a2 q.pats.length c2) rfl) hbd
    have b5 := cellL (hbx 5 (.slice a3 q.fils.length c3) rfl) hbd
    have b6 := cellL (hbx 6 (.slice a4 q.ord.length c4) rfl) hbd
    have b7 := cellL (hbx 7 (.int .i64 q.lim) rfl) hbd
    have b8 := cellL (hbx 8 (.int .i64 q.off) rfl) hbd
    have e1 := k1.later hbd
    have e3 := RdEs.later k3 hbd
    have e4 := RdL.mono k4 hbd (fun _ _ _ h => h)
    have Hz := Lib.hid hwz
    clear k1 k3 k4 hbx hwz
    refine Rf.pl_quiet ?_
    iterate 7 go_big_quiet_step (fail)
    refine wpQuiet_nil (Rf.pl_one ?_)
    have hK := cKeys M q.ask q.dist q.vars.length q.pats.length q.fils.length a1 a2 a3 a4 c1 c2 c3 c4 q.lim q.off q.ord wd e4 (by omega)
    go_wp2_with (refine hK.mono ?_; rintro e w1 ⟨v1, rfl, own1, hb1⟩)
    obtain ⟨A1, d1, rfl, _, r1⟩ := own_slice own1
    have hB1 : Below W.heap.size wd w1 := hb1.mono (by rw [Hz.out]; exact Nat.le_refl _)
    refine ⟨hB1, Rf.pl_one ?_⟩
    have hU := qUsed n q.fils a3 c3 w1 (RdEs.later e3 hb1) f4 f5 f6
    have ev := e1.later hb1
    clear hK e3 e4 own1
    go_wp2_with (refine hU.mono ?_; rintro e w2 ⟨v2, rfl, own2, hb2⟩)
    obtain ⟨A2, d2, rfl, _, r2⟩ := own_slice own2
    have hB2 : Below W.heap.size w1 w2 := hb2.mono (by have := hB1.size; rw [Hz.out] at this; exact this)
    refine ⟨hB2, Rf.pl_one ?_⟩
    have ev2 := ev.later hb2
    have r12 := r1.later hb2
    clear ev r1 hU own2
    go_wp2_with fail
    have hz2 : W.heap.size ≤ w2.heap.size := by have := hB1.size; have := hB2.size; have := Hz.out; omega
    have hb3 : Below w2.heap.size w2 (w2.alloc (.cells #[.slice a1 q.vars.length c1, .slice A1 (keysN q.ord).length d1, .slice A2 (usedN n q.fils).length d2] 24)) := (by repeat (first | exact Below.refl _ _ | assumption | exact (Below.refl _ _).alloc (Nat.le_refl _) _ | refine below_tr ?_ (by assumption) | refine below_alloc ?_ | refine below_tr ?_ (below_regrown _ _ _)))
    refine ⟨hb3.mono hz2, Rf.pl_one ?_⟩
    have hR := rdLs3 (heap_alloc_new w2 _) (ev2.later hb3) (r12.later hb3) (r2.later hb3)
    have hul := usedN_len n q.fils
    have hcc := cConcat [q.vars, keysN q.ord, usedN n q.fils] (some ⟨w2.heap.size, 0, none⟩) 3 _ hR (by simp) (by simp [sumL, keysN_len]; omega)
    have hfl : [q.vars, keysN q.ord, usedN n q.fils].flatMap id = saidQ q := by simp [saidQ, List.flatMap_cons]
    rw [hfl] at hcc
    clear hR ev2 r12 r2 hfl
    go_wp2_with (refine hcc.mono ?_; rintro e w4 ⟨v4, rfl, own4, hb4⟩)
    obtain ⟨A4, d4, rfl, _, r4⟩ := own_slice own4
    have hA4 := own_block own4
    have hB4 : Below W.heap.size (w2.alloc (.cells #[.slice a1 q.vars.length c1, .slice A1 (keysN q.ord).length d1, .slice A2 (usedN n q.fils).length d2] 24)) w4 := hb4.mono (by simp; omega)
    refine ⟨hB4, Rf.pl_one ?_⟩
    have hV := cValues A4 (saidQ q).length d4 w4
    clear own4 hcc
    go_wp2_with (refine hV.mono ?_; rintro e w5 ⟨rfl, rfl⟩)
    have hb5 : Below w4.heap.size w4 (w4.alloc (.cells #[.slice A4 (saidQ q).length d4] 24)) := (by repeat (first | exact Below.refl _ _ | assumption | exact (Below.refl _ _).alloc (Nat.le_refl _) _ | refine below_tr ?_ (by assumption) | refine below_alloc ?_ | refine below_tr ?_ (below_regrown _ _ _)))
    have hz4 : W.heap.size ≤ w4.heap.size := by have := hB4.size; simp at this; omega
    refine ⟨hb5.mono hz4, Rf.pl_quiet ?_⟩
    have hwW := hB0.size
    have hq : SeqFrom w.heap.size (w4.alloc (.cells #[.slice A4 (saidQ q).length d4] 24)) w4.heap.size (saidQ q) := ⟨A4, d4, by rw [World.cell?, heap_alloc_new]; rfl, r4.later hb5, by omega, fun a ha => by have := (hA4 a ha).1; simp at this; omega⟩
    have hBB : Below W.heap.size W (w4.alloc (.cells #[.slice A4 (saidQ q).length d4] 24)) := ((((hbd.trans hB1).trans hB2).trans (hb3.mono hz2)).trans hB4).trans (hb5.mono hz4)
    iterate 1 go_big_quiet_step (fail)
    exact wpQuiet_nil (Rf.pl_done ⟨_, _, _, _, _, _, _, _, _, _, _, _, _, rfl, hq, hBB⟩)
  · rintro a W1 ⟨u3, u4, u5, u6, u7, u8, u9, u10, u11, u12, u13, u14, Bp, rfl, hq, hb1⟩
    clear k1 k3 k4 hbx
    go_wp2
    go_ret
    exact ⟨_, rfl, hq, below_tr hB0 hb1⟩
end Go.Proofs.YtefjhehgpkljcaaGreatDoor
namespace Go.Proofs.YtefjhehgpkljcaaGreatDoor
open Go Go.RowKit Fm

def SomeZ (P : Bool → Prop) (w : World) (e : Ending) (w' : World) : Prop := ∃ b, e = .returned (.bool b) ∧ P b ∧ Below w.heap.size w w'
def Part22 (n : Nat) (x : ExT n) (deep : Int) (w : World) (e : Ending) (w' : World) : Prop := ∃ r : Int, e = .returned (.int .i64 r) ∧ 1 ≤ r ∧ r ≤ (62 - deep) * 401 ∧ (r ≤ 400 → ((preE n x).length : Int) ≤ r) ∧ Below w.heap.size w w'
def PartL (n : Nat) (kids : List (ExT n)) (deep : Int) (W : World) (nv i : Value) (wr : World) : Prop :=
  ∃ (j : Nat) (r : Int), j ≤ kids.length ∧ i = .int .i64 j ∧ nv = .int .i64 r ∧ 1 ≤ r ∧ r ≤ (62 - deep) * 401 ∧ (r ≤ 400 → 1 + (((kids.take j).flatMap (preE n)).length : Int) ≤ r) ∧ Below W.heap.size W wr
/-- How many things a query has, its conditions' parts besides. -/
def cntQ {n : Nat} (q : Qy n) : Nat := q.vars.length + q.pats.length + q.ord.length + q.fils.length
def allQ {n : Nat} (q : Qy n) : Nat := cntQ q + (q.fils.flatMap (preE n)).length
abbrev RdQs (n : Nat) (w : World) (A : Option Addr) (l : List (Qy n)) : Prop := RdL 8 (RdQ n w) w A l
theorem RdQ.later {n : Nat} {w w' : World} {cs : List Value} {q : Qy n} (h : RdQ n w cs q) (hb : Below w.heap.size w w') : RdQ n w' cs q := by
  obtain ⟨a1, a2, a3, a4, c1, c2, c3, c4, h0, hc, h1, h2, h3, h4⟩ := h
  exact ⟨a1, a2, a3, a4, c1, c2, c3, c4, h0, hc, h1.later hb, RdL.mono h2 hb (fun _ _ _ h => h), RdEs.later h3 hb, RdL.mono h4 hb (fun _ _ _ h => h)⟩
theorem RdQs.later {n : Nat} {w w' : World} {A : Option Addr} {l : List (Qy n)} (h : RdQs n w A l) (hb : Below w.heap.size w w') : RdQs n w' A l := RdL.mono h hb fun _ _ _ h => h.later hb
/-- A query's lists are no longer than memory may hold. -/
def szL {n : Nat} (q : Qy n) : Prop := q.vars.length ≤ 281474976710656 ∧ q.pats.length ≤ 281474976710656 ∧ q.fils.length ≤ 1353245080300 ∧ q.ord.length ≤ 281474976710656 ∧ ∀ x ∈ q.fils, szE n x
def Great0 {n : Nat} (qs : List (Qy n)) (w : World) (nv i : Value) (wr : World) : Prop :=
  ∃ (j : Nat) (r : Int), j ≤ qs.length ∧ i = .int .i64 j ∧ nv = .int .i64 r ∧ 0 ≤ r ∧ r ≤ 3000000000000000 * ((j : Int) + 1) ∧ (r ≤ 400 → (((qs.take j).map allQ).sum : Int) ≤ r) ∧ Below w.heap.size w wr
def Great1 {n : Nat} (qs : List (Qy n)) (q : Qy n) (j : Nat) (W : World) (nv i : Value) (wr : World) : Prop :=
  ∃ (k : Nat) (r : Int), k ≤ q.fils.length ∧ i = .int .i64 k ∧ nv = .int .i64 r ∧ 0 ≤ r ∧ r ≤ 3000000000000000 * ((j : Int) + 1) + 2900000000000000 ∧ (r ≤ 400 → (((qs.take j).map allQ).sum : Int) + cntQ q + ((q.fils.take k).flatMap (preE n)).length ≤ r) ∧ Below W.heap.size W wr
theorem sum_take {n : Nat} {qs : List (Qy n)} {j : Nat} {q : Qy n} (h : qs[j]? = some q) : ((qs.take (j + 1)).map allQ).sum = ((qs.take j).map allQ).sum + allQ q := by
  rw [take_snoc_of h, List.map_append, List.sum_append]; simp
def GreatP {n : Nat} (qs : List (Qy n)) (b : Bool) : Prop := b = false → (qs.map allQ).sum ≤ 400
end Go.Proofs.YtefjhehgpkljcaaGreatDoor
