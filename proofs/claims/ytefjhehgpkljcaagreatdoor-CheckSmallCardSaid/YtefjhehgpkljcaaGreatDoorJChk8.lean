/- The program's package check, walked: Needs, Told. -/
import Derived.Test.YtefjhehgpkljcaaGreatDoorJChk7
namespace Go.Proofs.YtefjhehgpkljcaaGreatDoor
open Go Go.RowKit Go.Maps Go.ChangeMaps Go.Shelf Um Fm Mt Mp

/-- What a query needs. -/
def needsOf {n : Nat} (q : Qy n) : List ByteArray := needN (varsN q.pats) (saidQ q)
theorem needN_take (known l : List ByteArray) {k : Nat} {s : ByteArray} (h : known[k]? = some s) : needN (known.take (k + 1)) l = needN (known.take k) l ++ if hasS l s then [s] else [] := by
  rw [take_snoc_of h, needN_snoc]
def NeedL (w : World) (known said : List ByteArray) (v i : Value) (wr : World) : Prop := ∃ (k : Nat) (v' : Value), k ≤ known.length ∧ i = .int .i64 k ∧ v = v' ∧ wr.ownsRow w.heap.size 9 1 v' (needN (known.take k) said).length ((needN (known.take k) said).map Value.string) ∧ Below w.heap.size w wr
theorem own_mono {w : World} {B B' : Nat} {e : TypeId} {size n : Nat} {v : Value} {xs : List Value} (h : w.ownsRow B e size v n xs) (hb : B' ≤ B) : w.ownsRow B' e size v n xs := by
  obtain ⟨h1, h2⟩ := h
  refine ⟨h1, ?_⟩
  rcases h2 with h2 | ⟨g, cap, cur, e1, e2, e3⟩
  · exact .inl h2
  · exact .inr ⟨g, cap, cur, e1, Nat.le_trans hb e2, e3⟩
set_option maxRecDepth 100000 in
set_option maxHeartbeats 8000000 in
theorem cNeeds (n : Nat) (q : Qy n) (a1 a2 a3 a4 : Option Addr) (c1 c2 c3 c4 : Nat) (w : World) (hf : fewQ q)
    (h1 : Rd w a1 (q.vars.map Value.string)) (h2 : RdPat w a2 q.pats) (h3 : RdEs n w a3 q.fils) (h4 : RdKey w a4 q.ord) :
    Calls Tryz.prog 15 #[.agg #[.bool q.ask, .bool q.dist, .slice a1 q.vars.length c1, .slice a2 q.pats.length c2, .slice a3 q.fils.length c3, .slice a4 q.ord.length c4, .int .i64 q.lim, .int .i64 q.off]] w (NamesR (needsOf q) w) := by
  have hsl := saidQ_len hf
  have hf' := hf
  obtain ⟨f1, f2, f3, f4, f5, f6⟩ := hf'
  obtain ⟨W, hW⟩ : ∃ W : World, w.alloc (.cells #[.bool q.ask, .bool q.dist, .slice a1 q.vars.length c1, .slice a2 q.pats.length c2, .slice a3 q.fils.length c3, .slice a4 q.ord.length c4, .int .i64 q.lim, .int .i64 q.off] 40) = W := ⟨_, rfl⟩
  have hB0 : Below w.heap.size w W := by rw [← hW]; exact (by repeat (first | exact Below.refl _ _ | assumption | exact (Below.refl _ _).alloc (Nat.le_refl _) _ | refine below_tr ?_ (by assumption) | refine below_alloc ?_ | refine below_tr ?_ (below_regrown _ _ _)))
  have hbx : W.heap[w.heap.size]? = some (.cells #[.bool q.ask, .bool q.dist, .slice a1 q.vars.length c1, .slice a2 q.pats.length c2, .slice a3 q.fils.length c3, .slice a4 q.ord.length c4, .int .i64 q.lim, .int .i64 q.off] 40 (0, 0)) := by rw [← hW]; exact heap_alloc_new _ _
  have b0 : W.cell? ⟨w.heap.size, 0, none⟩ = some (.bool q.ask) := by rw [World.cell?, hbx]; rfl
  have b1 : W.cell? ⟨w.heap.size, 1, none⟩ = some (.bool q.dist) := by rw [World.cell?, hbx]; rfl
  have b2 : W.cell? ⟨w.heap.size, 2, none⟩ = some (.slice a1 q.vars.length c1) := by rw [World.cell?, hbx]; rfl
  have b3 : W.cell? ⟨w.heap.size, 3, none⟩ = some (.slice a2 q.pats.length c2) := by rw [World.cell?, hbx]; rfl
  have b4 : W.cell? ⟨w.heap.size, 4, none⟩ = some (.slice a3 q.fils.length c3) := by rw [World.cell?, hbx]; rfl
  have b5 : W.cell? ⟨w.heap.size, 5, none⟩ = some (.slice a4 q.ord.length c4) := by rw [World.cell?, hbx]; rfl
  have b6 : W.cell? ⟨w.heap.size, 6, none⟩ = some (.int .i64 q.lim) := by rw [World.cell?, hbx]; rfl
  have b7 : W.cell? ⟨w.heap.size, 7, none⟩ = some (.int .i64 q.off) := by rw [World.cell?, hbx]; rfl
  have hO := cOver [] none 0 q.ask q.dist q.vars.length q.pats.length q.fils.length q.ord.length a1 a2 a3 a4 c1 c2 c3 c4 q.lim q.off W (Rd.nil _ _) (by simp)
  have k1 := h1.later hB0
  have k2 := RdL.mono h2 hB0 (fun _ _ _ h => h)
  have k3 := RdEs.later h3 hB0
  have k4 := RdL.mono h4 hB0 (fun _ _ _ h => h)
  have hCi : (Tryz.prog.info? 91).map (·.size) = some 9 := by kernel_rfl
  have HW := Lib.hid hW
  have H2 := Lib.hid h2
  clear hW h1 h2 h3 h4
  go_enter Tryz.func15, Tryz.ntmps15
  go_wp2_with fail
  simp only [HW.out]
  refine hO.mono ?_
  rintro e w1 ⟨r, rfl, hM1, hr1, hb1⟩
  have g3 : Below w1.heap.size w1 (w1.alloc (.cells #[.map none, .bool false, .bool false, .slice none 0 0, .slice none 0 0, .slice none 0 0, .slice none 0 0, .int .i64 0, .int .i64 0] 91)) := (by repeat (first | exact Below.refl _ _ | assumption | exact (Below.refl _ _).alloc (Nat.le_refl _) _ | refine below_tr ?_ (by assumption) | refine below_alloc ?_ | refine below_tr ?_ (below_regrown _ _ _)))
  obtain ⟨q1, q2, q3⟩ := chk_stored (B := w1.heap.size) (vs := #[.map (some r), .bool q.ask, .bool q.dist, .slice a1 q.vars.length c1, .slice a2 q.pats.length c2, .slice a3 q.fils.length c3, .slice a4 q.ord.length c4, .int .i64 q.lim, .int .i64 q.off]) (heap_alloc_new w1 (.cells #[.map none, .bool false, .bool false, .slice none 0 0, .slice none 0 0, .slice none 0 0, .slice none 0 0, .int .i64 0, .int .i64 0] 91)) (hM1.on g3) (Nat.le_refl _)
  obtain ⟨W2, hW2⟩ : ∃ W2 : World, (w1.alloc (.cells #[.map none, .bool false, .bool false, .slice none 0 0, .slice none 0 0, .slice none 0 0, .slice none 0 0, .int .i64 0, .int .i64 0] 91)).setRow w1.heap.size #[.map (some r), .bool q.ask, .bool q.dist, .slice a1 q.vars.length c1, .slice a2 q.pats.length c2, .slice a3 q.fils.length c3, .slice a4 q.ord.length c4, .int .i64 q.lim, .int .i64 q.off] = W2 := ⟨_, rfl⟩
  rw [hW2] at q1 q2 q3
  have HW2 := Lib.hid hW2
  have hB2 : Below W.heap.size W W2 := hb1.trans ((g3.trans q3).mono hb1.size)
  have hsz2 : w1.heap.size < W2.heap.size := (Array.getElem?_eq_some_iff.1 q1).1
  have HB2 := Lib.hid hB2
  have hM0 := Lib.hid hM1
  clear hW2 hO hM1 hb1 g3 q3
  have z0 : W2.cell? ⟨w1.heap.size, 0, none⟩ = some (.map (some r)) := by rw [World.cell?, q1]; rfl
  have z1 : W2.cell? ⟨w1.heap.size, 1, none⟩ = some (.bool q.ask) := by rw [World.cell?, q1]; rfl
  have z2 : W2.cell? ⟨w1.heap.size, 2, none⟩ = some (.bool q.dist) := by rw [World.cell?, q1]; rfl
  have z3 : W2.cell? ⟨w1.heap.size, 3, none⟩ = some (.slice a1 q.vars.length c1) := by rw [World.cell?, q1]; rfl
  have z4 : W2.cell? ⟨w1.heap.size, 4, none⟩ = some (.slice a2 q.pats.length c2) := by rw [World.cell?, q1]; rfl
  have z5 : W2.cell? ⟨w1.heap.size, 5, none⟩ = some (.slice a3 q.fils.length c3) := by rw [World.cell?, q1]; rfl
  have z6 : W2.cell? ⟨w1.heap.size, 6, none⟩ = some (.slice a4 q.ord.length c4) := by rw [World.cell?, q1]; rfl
  have z7 : W2.cell? ⟨w1.heap.size, 7, none⟩ = some (.int .i64 q.lim) := by rw [World.cell?, q1]; rfl
  have z8 : W2.cell? ⟨w1.heap.size, 8, none⟩ = some (.int .i64 q.off) := by rw [World.cell?, q1]; rfl
  go_wp2_with (refine wpList_store_row rfl 91 _ _ rfl rfl rfl hCi (heap_alloc_new _ _) rfl rfl ?_)
  simp only [HW2.out]
  go_wp2
  rename_i K hK
  have hrw1 : r < w1.heap.size := (Array.getElem?_eq_some_iff.1 (show w1.heap[r]? = _ from hM0.out)).1
  have hwW : w.heap.size < W.heap.size := (Array.getElem?_eq_some_iff.1 hbx).1
  have B3 : W2.cell? ⟨w.heap.size, 3, none⟩ = some (.slice a2 q.pats.length c2) := cell_on b3 HB2.out
  have fin : ∀ (u8 u9 u10 u11 u12 u13 : Value) (W3 : World), (∀ k, k < W2.heap.size → k ≠ r → W3.heap[k]? = W2.heap[k]?) → Below w.heap.size w W3 → CntOf W3 r (meetM [] (saidQ q)) →
      K { tmps := #[.agg #[.bool q.ask, .bool q.dist, .slice a1 q.vars.length c1, .slice a2 q.pats.length c2, .slice a3 q.fils.length c3, .slice a4 q.ord.length c4, .int .i64 q.lim, .int .i64 q.off], .pointer (some ⟨w.heap.size, 0, none⟩), .slice none 0 0, .pointer (some ⟨w1.heap.size, 0, none⟩), undef, undef, .agg #[.bool q.ask, .bool q.dist, .slice a1 q.vars.length c1, .slice a2 q.pats.length c2, .slice a3 q.fils.length c3, .slice a4 q.ord.length c4, .int .i64 q.lim, .int .i64 q.off], .agg #[.map (some r), .bool q.ask, .bool q.dist, .slice a1 q.vars.length c1, .slice a2 q.pats.length c2, .slice a3 q.fils.length c3, .slice a4 q.ord.length c4, .int .i64 q.lim, .int .i64 q.off], u8, u9, u10, u11, u12, u13, undef, undef, undef, undef, undef, undef, undef, undef, undef, undef, undef, undef, undef, undef, undef, undef, undef, undef], defers := [] } W3 := by
    intro u8 u9 u10 u11 u12 u13 W3 hkeep hB3 hcnt
    have c3 : W3.cell? ⟨w.heap.size, 3, none⟩ = some (.slice a2 q.pats.length c2) := by rw [World.cell?, hkeep _ (by have := cell_lt B3; simpa using this) (by simp; omega)]; exact B3
    have c0 : W3.cell? ⟨w1.heap.size, 0, none⟩ = some (.map (some r)) := by rw [World.cell?, hkeep _ hsz2 (by simp; omega)]; exact z0
    have e2 : RdPat W3 a2 q.pats := RdL.mono H2.out hB3 (fun _ _ _ h => h)
    have hV := qVars q.pats a2 c2 W3 e2 f2
    have hvl := varsN_len q.pats
    have HB3 := Lib.hid hB3
    clear b0 b1 b2 b3 b4 b5 b6 b7 z0 z1 z2 z3 z4 z5 z6 z7 z8 hkeep e2 k1 k2 k3 k4 B3 hB3 hbx q1 q2 hB2
    refine hK _ _ ?_
    go_wp2_with (refine hV.mono ?_; rintro e v1 ⟨x1, rfl, own1, g1⟩; obtain ⟨A1, m1, rfl, _, r1⟩ := own_slice own1)
    have hcnt1 := hcnt.on g1
    have d0 := cell_on c0 g1
    have hB4 := below_tr HB3.out g1
    have hlt1 : w1.heap.size < v1.heap.size := cell_lt d0
    have HB4 := Lib.hid hB4
    obtain ⟨known, hkn⟩ : ∃ known, varsN q.pats = known := ⟨_, rfl⟩
    have Hkn := Lib.hid hkn
    rw [hkn] at r1 hvl
    have hnl : (known.length : Int) ≤ 900000 := by omega
    simp only [hkn]
    clear hV own1 g1 c0 c3 hcnt hB4 hkn
    go_loopw [2, 18] (NeedL v1 known (saidQ q)) (fun _ i _ => known.length - (intOf i).toNat)
    case atStart => exact ⟨0, _, by omega, rfl, rfl, World.ownsRow_nil _ _ _ _, Below.refl _ _⟩
    case round =>
      obtain ⟨k, v', hk, rfl, rfl, own, hB⟩ := hrel
      by_cases hlt : k < known.length
      · obtain ⟨s, hs⟩ : ∃ x, known[k]? = some x := ⟨_, List.getElem?_eq_getElem hlt⟩
        obtain ⟨g, o, rfl, cx⟩ := (r1.later hB).at_ (j := k) (u := .string s) (by simp [hs])
        have hH := cHas r (meetM [] (saidQ q)) s wr (hcnt1.on hB)
        rw [look_has] at hH
        have x0 := cell_on d0 hB
        have hbs : v1.heap.size ≤ wr.heap.size := hB.size
        have hnt := needN_take known (saidQ q) hs
        have hnl2 := needN_len (known.take k) (saidQ q)
        rw [List.length_take] at hnl2
        generalize needN (known.take k) (saidQ q) = so at *
        have Hnt := Lib.hid hnt
        have HB := Lib.hid hB
        clear hs hnt r1 d0
        cases hq : hasS (saidQ q) s
        · rw [hq] at hH
          clear hB
          go_wp2_with (refine hH.mono ?_; rintro e w5 ⟨rfl, hb5⟩)
          go_roundw
          case rel => exact ⟨k + 1, _, by omega, by go_num, rfl, by rw [Hnt.out, hq]; simpa using own_below own hb5 (Nat.le_refl _), below_tr HB.out hb5⟩
          case measure => simp [intOf]; omega
        · rw [hq] at hH
          obtain ⟨A2, m2, rfl, _, _⟩ := own_slice own
          clear hB
          go_wp2_with (first
            | (go_at_call 65; refine hH.mono ?_; rintro e w5 ⟨rfl, hb5⟩; have own2 := own_below own (hb5.trans ((Below.refl w5.heap.size w5).alloc (Nat.le_refl _) (.cells #[.string s] 9) |>.mono hb5.size)) (Nat.le_refl _); have R2 : Rd (w5.alloc (.cells #[.string s] 9)) (some ⟨w5.heap.size, 0, none⟩) [.string s] := Rd.of_block (heap_alloc_new _ _) rfl; have hbs5 : v1.heap.size ≤ w5.heap.size := Nat.le_trans hbs hb5.size)
            | (at_builtin; refine wpList_appG rfl rfl Tryz.underlying24 stringInfo' rfl (by omega) rfl own2 rfl R2 rfl (by intro u hu; simp at hu; subst hu; rfl) (by omega) (by omega) (by simp; omega) ?_; intro v5 w6 own5 hb6 _))
          go_roundw
          case rel => exact ⟨k + 1, v5, by omega, by go_num, rfl, by rw [Hnt.out, hq]; simpa using own5, (HB.out.trans (hb5.mono hbs)).trans (((Below.refl w5.heap.size w5).alloc (Nat.le_refl _) _ |>.mono hbs5).trans hb6)⟩
          case measure => simp [intOf]; omega
      · have hk2 : known.take k = known := List.take_of_length_le (by omega)
        rw [hk2] at own
        obtain ⟨A2, m2, rfl, _, _⟩ := own_slice own
        clear hcnt1 r1
        go_wp2
        go_ret
        refine ⟨_, rfl, ?_, HB4.out.trans (hB.mono HB4.out.size)⟩
        unfold needsOf
        rw [Hkn.out]
        exact own_mono own HB4.out.size
  have hU : ∀ V, Below W2.heap.size W2 V → Calls Tryz.prog 63 #[.agg #[.map (some r), .bool q.ask, .bool q.dist, .slice a1 q.vars.length c1, .slice a2 q.pats.length c2, .slice a3 q.fils.length c3, .slice a4 q.ord.length c4, .int .i64 q.lim, .int .i64 q.off]] V (UsedR q V) := fun V hb =>
    cUsed (some r) n q a1 a2 a3 a4 c1 c2 c3 c4 V hf ((k1.later HB2.out).later hb) (RdEs.later (RdEs.later k3 HB2.out) hb) (RdL.mono (RdL.mono k4 HB2.out (fun _ _ _ h => h)) hb (fun _ _ _ h => h))
  have HB20 := Lib.hid (below_tr hB0 HB2.out)
  have hdr : Below W2.heap.size W2 W2.drew := (Below.refl _ _).drew
  have hM0' := Lib.hid q2
  clear hB0 hB2 hbx q1 q2 k1 k2 k3 k4 b0 b1 b2 b3 b4 b5 b6 b7 B3 hf hCi
  go_region_with (first
    | (go_at_call 63; refine (hU _ hdr).mono ?_; rintro e v1 ⟨Bp, rfl, hsq, g1⟩; have y0 := cell_on (cell_on z0 hdr) g1)
    | (go_at_call 62; refine (cCollect (saidQ q) Bp v1 hsq.at_ (by omega)).mono ?_; rintro e v2 ⟨x2, rfl, own2, g2⟩; obtain ⟨A2, m2, rfl, _, r2⟩ := own_slice own2; have x0 := cell_on y0 g2)
    | (go_at_call 61; refine (cMeet r (meetM [] []) (saidQ q) A2 m2 v2 ((hM0'.out.on hdr).on (g1.trans (g2.mono g1.size))) r2 (by omega) (fun s => by simp [meetM, lookI])).mono ?_; rintro e v3 ⟨he, hM3, g3⟩; subst he))
  all_goals
    refine fin _ _ _ _ _ _ v3 ?_ ?_ hM3
    · intro k hk hkr
      have hs1 := g1.size
      have hs2 := g2.size
      have hs0 : W2.heap.size ≤ W2.drew.heap.size := hdr.size
      rw [g3.block k (by omega) (fun e => hkr (by injection e)), g2.block k (by omega), g1.block k (by omega), hdr.block k hk]
    · have h12 := HB20.out.trans ((hdr.trans ((g1.trans (g2.mono g1.size)).mono hdr.size)).mono HB20.out.size)
      exact h12.grown g3 h12.size fun q e => by cases e; omega
end Go.Proofs.YtefjhehgpkljcaaGreatDoor
