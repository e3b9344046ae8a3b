/- What arguments that can be read as data are: lists, terms, conditions, in memory. Terms, triples by value, opened, with their sizes (name space Ot); lists of triples. The law TermTriples. Printed by gen/law08d.py. -/
import Derived.Test.YtheeklkcaapkbaaGreatDoorJTms
import Derived.OpenShut
import Derived.SizedLaws
import Derived.Carry
import Derived.Lib.SmallJoins
import Derived.Test.YtheeklkcaapkbaaGreatDoorJLaw08s
import Derived.Test.YtheeklkcaapkbaaGreatDoorJR8h
namespace Go.Proofs.YtheeklkcaapkbaaGreatDoor
open Go Go.ChangeShapes Go.WideShapes Go.ChangeAt Go.RowKit Go.Lib Go.Joins Go.Deep Fm

section
variable {H : Type} {enc : TypeId × Value → H} {P : Program}

/-- No string, no slice of a datum is longer than the reach. -/
def Sized (P : Program) (t : TypeId) (d : DataW H) : Prop := ∀ m ∈ d.weights P t, m ≤ reachBytes
/-- Cells that can be read, with this fuel, as a type's datum, are what R says. -/
def Opens (enc : TypeId × Value → H) (P : Program) (w : World) (f : Nat) (t : TypeId) (sz : Nat) {α : Type} (R : List Value → α → Prop) (Z : α → Prop) : Prop :=
  ∀ (cs : List Value) (d : DataW H) (ps : List MemPlace), DataW.trod enc P w 0 (fun _ => true) true f t cs = some (d, ps) → Sized P t d → ∃ a, R cs a ∧ cs.length = sz ∧ Z a

theorem weightsAll_mem {e : TypeId} : ∀ {l : List (DataW H)} {d : DataW H}, d ∈ l → ∀ m ∈ d.weights P e, m ∈ DataW.weightsAll P e l
  | x :: r, d, hd, m, hm => by
    rw [DataW.weightsAll, List.mem_append]
    rcases List.mem_cons.1 hd with h | h
    · left; rw [← h]; exact hm
    · right; exact weightsAll_mem h m hm
theorem weightsEach_mem : ∀ {ts : List TypeId} {ds : List (DataW H)} {i : Nat} {t : TypeId} {d : DataW H}, ts[i]? = some t → ds[i]? = some d → ∀ m ∈ d.weights P t, m ∈ DataW.weightsEach P ts ds := fun ht hd m hm => DataW.weights_mem_each ht hd m hm
theorem Sized.field {t u : TypeId} {fs : Array Field} {parts : List (DataW H)} (h : Sized P t (.agg parts)) (hu : P.underlying t = some (.struct fs)) {i : Nat} {d : DataW H} (ht : (fs.toList.map (·.type))[i]? = some u) (hd : parts[i]? = some d) : Sized P u d := by
  intro m hm
  refine h m ?_
  simp only [DataW.weights, hu]
  exact weightsEach_mem ht hd m hm
theorem sized_str {t : TypeId} {s : ByteArray} (h : Sized P t (.lit (.string s.data.toList) : DataW H)) : s.size ≤ 140737488351232 := by
  have := h s.data.toList.length (by simp [DataW.weights])
  rw [size_toList] at this
  exact Nat.le_trans this (by decide)

/-- A slice, opened: a list. -/
theorem open_list {w : World} {f F : Nat} {t e : TypeId} {sz : Nat} {α : Type} {R : List Value → α → Prop} {Z : α → Prop} (ht : P.underlying t = some (.slice e)) (hc : P.cellsOf e = sz) (hsz : 0 < sz) (hf : f ≤ F + 1)
    (he : Opens enc P w F e sz R Z) {cs : List Value} {d : DataW H} {ps : List MemPlace} (h : DataW.trod enc P w 0 (fun _ => true) true f t cs = some (d, ps)) (hs : Sized P t d) :
    ∃ (l : List α) (A : Option Addr) (c : Nat), cs = [.slice A l.length c] ∧ l.length ≤ c ∧ RdL sz R w A l ∧ (∀ a ∈ l, Z a) ∧ c * P.bytesOf e ≤ reachBytes := by
  rcases DataW.trod_slice ht h with ⟨hv, hx⟩ | ⟨a, len, cap, elems, rest, n, rfl, rfl, hx, hb, hl, hm, hlen, hel, hsp, hns⟩
  · exact ⟨[], none, 0, hv, Nat.le_refl _, RdL.nil _ _ _ _, (by intro a ha; simp at ha), (by simp)⟩
  · have hd : d = .slice (elems.map (·.1)) (rest.map (·.1)) := congrArg Prod.fst hx
    subst hd
    have hcap : cap * P.bytesOf e ≤ reachBytes := by
      have := hs (((elems.map (·.1)).length + (rest.map (·.1)).length) * P.bytesOf e) (by simp [DataW.weights, ht])
      rw [List.length_map, List.length_map, hlen, (hsp rfl).1] at this
      rwa [show len + (cap - len) = cap by omega] at this
    by_cases h0 : len = 0
    · subst h0
      exact ⟨[], some a, cap, rfl, hl, RdL.nil _ _ _ _, (by intro a ha; simp at ha), hcap⟩
    have hspot : ∃ b o, a = ⟨b, o, none⟩ := by
      obtain ⟨y, hy⟩ : ∃ y, elems[0]? = some y := ⟨_, List.getElem?_eq_getElem (by omega)⟩
      have hk2 := hel 0 (by omega)
      rw [hy, Option.bind_eq_some_iff] at hk2
      obtain ⟨ds, hcs, htr⟩ := hk2
      obtain ⟨_, hdl, hcell⟩ := World.cells?_some hcs
      have h1 := hcell 0 (by omega)
      rw [List.getElem?_eq_getElem (by omega)] at h1
      have h2 := World.cell?_spot h1
      obtain ⟨b, o, s⟩ := a
      have h3 : s = none := by simpa [Addr.add] using h2
      exact ⟨b, o, by rw [h3]⟩
    obtain ⟨b, o, rfl⟩ := hspot
    have step : ∀ k, k ≤ len → ∃ (l : List α) (xs : List Value), l.length = k ∧ All sz R xs l ∧ (∀ a ∈ l, Z a) ∧ ∀ j u, xs[j]? = some u → w.cell? ⟨b, o + j, none⟩ = some u := by
      intro k
      induction k with
      | zero => exact fun _ => ⟨[], [], rfl, rfl, (by intro a ha; simp at ha), fun j u hu => by simp at hu⟩
      | succ k ih =>
        intro hk
        obtain ⟨l, xs, h1, h2, h3, h4⟩ := ih (by omega)
        obtain ⟨y, hy⟩ : ∃ y, elems[k]? = some y := ⟨_, List.getElem?_eq_getElem (by omega)⟩
        have hk2 := hel k (by omega)
        rw [hy, Option.bind_eq_some_iff] at hk2
        obtain ⟨ds, hcs, htr⟩ := hk2
        obtain ⟨_, hdl, hcell⟩ := World.cells?_some hcs
        have hsy : Sized P e y.1 := fun m hm => hs m (by
          simp only [DataW.weights, ht, List.mem_cons, List.mem_append]
          exact .inr (.inl (weightsAll_mem (List.mem_map_of_mem (List.mem_of_getElem? hy)) m hm)))
        obtain ⟨x, hx1, hx2, hx3⟩ := he ds y.1 y.2 (DataW.trod_le (by omega) htr) hsy
        rw [hc] at hdl hcell
        refine ⟨l ++ [x], xs ++ ds, by simp [h1], h2.append (All.one hx2 hx1), ?_, ?_⟩
        · intro z hz
          rcases List.mem_append.1 hz with hz | hz
          · exact h3 z hz
          · simp only [List.mem_singleton] at hz; rw [hz]; exact hx3
        · intro j u hu
          have hxl : xs.length = k * sz := by rw [h2.len, h1]
          by_cases hj : j < k * sz
          · rw [List.getElem?_append_left (by omega)] at hu
            exact h4 j u hu
          · rw [List.getElem?_append_right (by omega), hxl] at hu
            have hj2 : j - k * sz < sz := by
              have := (List.getElem?_eq_some_iff.1 hu).1
              omega
            have h5 := hcell (j - k * sz) hj2
            rw [hu, add_zero_spot, add_zero_spot] at h5
            rw [show o + j = o + k * sz + (j - k * sz) by omega]
            exact h5
    obtain ⟨l, xs, h1, h2, h3, h4⟩ := step len (Nat.le_refl _)
    subst h1
    exact ⟨l, some ⟨b, o, none⟩, cap, rfl, hl, ⟨xs, .inr ⟨b, o, rfl, h4⟩, h2⟩, h3, hcap⟩
end
end Go.Proofs.YtheeklkcaapkbaaGreatDoor
namespace Go.Proofs.YtheeklkcaapkbaaGreatDoor
open Go Go.ChangeShapes Go.WideShapes Go.ChangeAt Go.RowKit Go.Lib Go.Joins Go.Deep Fm Tx

section
variable {H : Type} {enc : TypeId × Value → H}
theorem Ot.sized_arg {P : Program} {ts : List TypeId} {ds : List (DataW H)} {j : Nat} {t : TypeId} {d : DataW H} (hreach : (DataW.weightsEach P ts ds).all (· ≤ reachBytes) = true) (htj : ts[j]? = some t) (hdj : ds[j]? = some d) : Sized P t d := by
  intro m hm
  have := List.all_eq_true.1 hreach m (DataW.weights_mem_each htj hdj m hm)
  simpa using this
/-- Sizes that any argument has. -/
def hugeTp (t : Tp) : Prop := hugeT t.s ∧ hugeT t.p ∧ hugeT t.o
set_option maxRecDepth 100000 in
theorem Ot.opens_term (w : World) (f : Nat) : Opens enc Tryz.prog w f 24 4 (fun cs (t : Tm) => cs = (tC t).toList) (fun t => hugeT t) := by
  intro cs d ps h hs
  obtain ⟨xs, n, _, hx, hl, hlen, hf⟩ := DataW.trod_struct Tryz.underlying24 h
  have hd : d = .agg (xs.map (·.1)) := congrArg Prod.fst hx
  subst hd
  have hc : Tryz.prog.cellsOf 24 = 4 := by kernel_rfl
  have c1 : Tryz.prog.cellsOf 9 = 1 := by kernel_rfl
  have c0 : Tryz.prog.cellsOf 22 = 1 := by kernel_rfl
  rw [hc] at hl
  match cs, hl, xs, hlen with
  | [v0, v1, v2, v3], _, [y0, y1, y2, y3], _ =>
    have g0 := hf 0 _ rfl
    have g1 := hf 1 _ rfl
    have g2 := hf 2 _ rfl
    have g3 := hf 3 _ rfl
    simp [c0, c1] at g0 g1 g2 g3
    obtain ⟨k, e0, _, _⟩ := DataW.trod_int Tryz.underlying22 g0
    obtain ⟨x, e1, q1, _⟩ := DataW.trod_string Tryz.underlying9 g1
    obtain ⟨l, e2, q2, _⟩ := DataW.trod_string Tryz.underlying9 g2
    obtain ⟨y, e3, q3, _⟩ := DataW.trod_string Tryz.underlying9 g3
    simp at e0 e1 e2 e3
    refine ⟨⟨k, x, l, y⟩, by simp [e0, e1, e2, e3], rfl, ?_⟩
    have hs1 : Sized Tryz.prog 9 y1.1 := hs.field Tryz.underlying24 (i := 1) rfl rfl
    have hs2 : Sized Tryz.prog 9 y2.1 := hs.field Tryz.underlying24 (i := 2) rfl rfl
    have hs3 : Sized Tryz.prog 9 y3.1 := hs.field Tryz.underlying24 (i := 3) rfl rfl
    rw [q1] at hs1
    rw [q2] at hs2
    rw [q3] at hs3
    exact ⟨Nat.le_trans (sized_str hs1) (by decide), Nat.le_trans (sized_str hs2) (by decide), Nat.le_trans (sized_str hs3) (by decide)⟩
set_option maxRecDepth 100000 in
theorem Ot.opens_trip (w : World) (f : Nat) : Opens enc Tryz.prog w f 31 12 (fun cs (t : Tp) => cs = (tpC t).toList) (fun t => hugeTp t) := by
  intro cs d ps h hs
  obtain ⟨xs, n, _, hx, hl, hlen, hf⟩ := DataW.trod_struct Tryz.underlying31 h
  have hd : d = .agg (xs.map (·.1)) := congrArg Prod.fst hx
  subst hd
  have hc : Tryz.prog.cellsOf 31 = 12 := by kernel_rfl
  have c1 : Tryz.prog.cellsOf 24 = 4 := by kernel_rfl
  rw [hc] at hl
  match cs, hl, xs, hlen with
  | [v0, v1, v2, v3, v4, v5, v6, v7, v8, v9, v10, v11], _, [y0, y1, y2], _ =>
    have g0 := hf 0 _ rfl
    have g1 := hf 1 _ rfl
    have g2 := hf 2 _ rfl
    simp [c1] at g0 g1 g2
    obtain ⟨s, e0, _, z0⟩ := Ot.opens_term w _ _ y0.1 y0.2 g0 (hs.field Tryz.underlying31 (i := 0) rfl rfl)
    obtain ⟨p, e1, _, z1⟩ := Ot.opens_term w _ _ y1.1 y1.2 g1 (hs.field Tryz.underlying31 (i := 1) rfl rfl)
    obtain ⟨o, e2, _, z2⟩ := Ot.opens_term w _ _ y2.1 y2.2 g2 (hs.field Tryz.underlying31 (i := 2) rfl rfl)
    simp at e0 e1 e2
    refine ⟨⟨s, p, o⟩, ?_, rfl, ⟨z0, z1, z2⟩⟩
    simp [e0, e1, e2]
set_option maxRecDepth 100000 in
theorem Ot.arg_trip {r : Reach} {b0 : Nat} {w : World} {v : Value} {d : DataW H} {ps : List MemPlace} (hv : Value.okWide Tryz.prog w r b0 31 v) (hd : DataW.Trod enc Tryz.prog w 0 (fun _ => true) true 31 v d ps) (hs : Sized Tryz.prog 31 d) :
    ∃ (t : Tp), v = tpA t ∧ hugeTp t := by
  obtain ⟨cs, rfl, hsz⟩ := okWide_struct Tryz.underlying31 hv
  obtain ⟨fuel, hf⟩ := hd
  obtain ⟨t, e, _, z⟩ := Ot.opens_trip w fuel cs.toList d ps hf hs
  refine ⟨t, ?_, z⟩
  have : cs = tpC t := by rw [← Array.toList_inj]; exact e
  rw [this]
end
end Go.Proofs.YtheeklkcaapkbaaGreatDoor
namespace Go.Proofs.YtheeklkcaapkbaaGreatDoor
open Go Go.RowKit Um Fm Lx Tx

abbrev hugeP (t : Tp) : Prop := hugeTp t
theorem smallP_of {t : Tp} (h : szL [t.s, t.p, t.o] ≤ 6000) : smallP t := by
  simp only [szL, szT, List.map_cons, List.map_nil, List.sum_cons, List.sum_nil] at h
  exact ⟨smallT_of (by omega), smallT_of (by omega), smallT_of (by omega)⟩
set_option maxHeartbeats 8000000 in
set_option maxRecDepth 100000 in
theorem triples_walk (a b : Tp) (w : World) (hC : CtxT w) (hs1 : hugeP a) (hs2 : hugeP b) :
    Calls Tryz.prog 4 #[tpA a, tpA b] w fun e w' => e = .returned (.bool true) ∧ Below w.heap.size w w' := by
  have hba : Below w.heap.size w (w.alloc (.cells (tpC a) 31)) := (Below.refl _ w).alloc (Nat.le_refl _) _
  have hga := heap_alloc_new w (.cells (tpC a) 31)
  have hza : (w.alloc (.cells (tpC a) 31)).heap.size = w.heap.size + 1 := by simp
  go_enter Tryz.func4, Tryz.ntmps4
  go_upto_region 1 with fail
  change Code.wp _ _ _ _ ((w.alloc (.cells (tpC a) 31)).alloc (.cells (tpC b) 31))
  generalize w.alloc (.cells (tpC a) 31) = wa at *
  have hbb : Below wa.heap.size wa (wa.alloc (.cells (tpC b) 31)) := (Below.refl _ wa).alloc (Nat.le_refl _) _
  have hgb := heap_alloc_new wa (.cells (tpC b) 31)
  have hga2 := below_blk hbb hga
  rw [hza] at hgb
  generalize wa.alloc (.cells (tpC b) 31) = w0 at *
  have hb0 : Below w.heap.size w w0 := below_tr hba hbb
  have hsz : w.heap.size ≤ w0.heap.size := hb0.size
  have HB0 := Lib.hid hb0
  have a0 := cells_at hga2 0 rfl
  have a1 := cells_at hga2 1 rfl
  have a2 := cells_at hga2 2 rfl
  have a3 := cells_at hga2 3 rfl
  have a4 := cells_at hga2 4 rfl
  have a5 := cells_at hga2 5 rfl
  have a6 := cells_at hga2 6 rfl
  have a7 := cells_at hga2 7 rfl
  have a8 := cells_at hga2 8 rfl
  have a9 := cells_at hga2 9 rfl
  have a10 := cells_at hga2 10 rfl
  have a11 := cells_at hga2 11 rfl
  have b0 := cells_at hgb 0 rfl
  have b1 := cells_at hgb 1 rfl
  have b2 := cells_at hgb 2 rfl
  have b3 := cells_at hgb 3 rfl
  have b4 := cells_at hgb 4 rfl
  have b5 := cells_at hgb 5 rfl
  have b6 := cells_at hgb 6 rfl
  have b7 := cells_at hgb 7 rfl
  have b8 := cells_at hgb 8 rfl
  have b9 := cells_at hgb 9 rfl
  have b10 := cells_at hgb 10 rfl
  have b11 := cells_at hgb 11 rfl
  have HC0 := Lib.hid (hC.step hb0)
  clear hga hgb hga2 hza hba hbb hb0 hC
  have hA := fun W (hb : Below w0.heap.size w0 W) => lawAwake W (HC0.out.step hb)
  have hSz := lawSize [a.s, a.p, a.o] w0.heap.size 3 3 (w0.alloc (.cells (tpC a) 24)) rfl (heap_alloc_new w0 _) (by intro t ht; simp at ht; (rcases ht with rfl | rfl | rfl) <;> first | exact hs1.1 | exact hs1.2.1 | exact hs1.2.2) rfl (by simp)
  have hBS : Below w0.heap.size w0 (w0.alloc (.cells (tpC a) 24)) := (Below.refl _ _).alloc (Nat.le_refl _) _
  have hSz2 := fun W => lawSize [b.s, b.p, b.o] W.heap.size 3 3 (W.alloc (.cells (tpC b) 24)) rfl (heap_alloc_new W _) (by intro t ht; simp at ht; (rcases ht with rfl | rfl | rfl) <;> first | exact hs2.1 | exact hs2.2.1 | exact hs2.2.2) rfl (by simp)
  have hBS2 : ∀ W : World, Below W.heap.size W (W.alloc (.cells (tpC b) 24)) := fun W => (Below.refl _ _).alloc (Nat.le_refl _) _
  have Hs1 := @smallP_of a
  have Hs2 := @smallP_of b
  generalize szL [a.s, a.p, a.o] = n1 at *
  generalize szL [b.s, b.p, b.o] = n2 at *
  by_cases hbig : 6000 < n1
  · clear hSz2 hBS2
    go_wp2_with (first
      | (go_at_call 10; with_reducible refine hSz.mono ?_; rintro e W2 ⟨rfl, B3⟩; have B4 := below_tr hBS B3)
      | (go_at_call 9; with_reducible refine (hA _ B4).mono ?_; rintro e W3 ⟨rfl, B5⟩))
    go_ret
    exact ⟨rfl, HB0.out.trans ((below_tr B4 B5).mono hsz)⟩
  have ha : smallP a := Hs1 (by omega)
  have SZ2 := Lib.hid (And.intro hSz2 hBS2)
  clear hSz2 hBS2 Hs1 hs1 hs2
  by_cases hbig2 : 6000 < n2
  · go_wp2_with (first
      | (go_at_call 10; (first | (with_reducible refine hSz.mono ?_; rintro e W2 ⟨rfl, B3⟩; have B4 := below_tr hBS B3; replace b0 := cell_on b0 B4; replace b1 := cell_on b1 B4; replace b2 := cell_on b2 B4; replace b3 := cell_on b3 B4; replace b4 := cell_on b4 B4; replace b5 := cell_on b5 B4; replace b6 := cell_on b6 B4; replace b7 := cell_on b7 B4; replace b8 := cell_on b8 B4; replace b9 := cell_on b9 B4; replace b10 := cell_on b10 B4; replace b11 := cell_on b11 B4; clear hSz B3) | (with_reducible refine (SZ2.out.1 W2).mono ?_; rintro e W4 ⟨rfl, B6⟩; have B7 := below_tr B4 (below_tr (SZ2.out.2 W2) B6))))
      | (go_at_call 9; with_reducible refine (hA _ B7).mono ?_; rintro e W3 ⟨rfl, B5⟩))
    go_ret
    exact ⟨rfl, HB0.out.trans ((below_tr B7 B5).mono hsz)⟩
  have hb : smallP b := Hs2 (by omega)
  go_wp2_with (first
      | (go_at_call 10; (first | (with_reducible refine hSz.mono ?_; rintro e W2 ⟨rfl, B3⟩; have B4 := below_tr hBS B3; replace a0 := cell_on a0 B4; replace b0 := cell_on b0 B4; replace a1 := cell_on a1 B4; replace b1 := cell_on b1 B4; replace a2 := cell_on a2 B4; replace b2 := cell_on b2 B4; replace a3 := cell_on a3 B4; replace b3 := cell_on b3 B4; replace a4 := cell_on a4 B4; replace b4 := cell_on b4 B4; replace a5 := cell_on a5 B4; replace b5 := cell_on b5 B4; replace a6 := cell_on a6 B4; replace b6 := cell_on b6 B4; replace a7 := cell_on a7 B4; replace b7 := cell_on b7 B4; replace a8 := cell_on a8 B4; replace b8 := cell_on b8 B4; replace a9 := cell_on a9 B4; replace b9 := cell_on b9 B4; replace a10 := cell_on a10 B4; replace b10 := cell_on b10 B4; replace a11 := cell_on a11 B4; replace b11 := cell_on b11 B4; clear hSz B3) | (with_reducible refine (SZ2.out.1 W2).mono ?_; rintro e W4 ⟨rfl, B6⟩; have B6' := below_tr (SZ2.out.2 W2) B6; have B7 := Lib.hid (below_tr B4 B6'); replace a0 := cell_on a0 B6'; replace b0 := cell_on b0 B6'; replace a1 := cell_on a1 B6'; replace b1 := cell_on b1 B6'; replace a2 := cell_on a2 B6'; replace b2 := cell_on b2 B6'; replace a3 := cell_on a3 B6'; replace b3 := cell_on b3 B6'; replace a4 := cell_on a4 B6'; replace b4 := cell_on b4 B6'; replace a5 := cell_on a5 B6'; replace b5 := cell_on b5 B6'; replace a6 := cell_on a6 B6'; replace b6 := cell_on b6 B6'; replace a7 := cell_on a7 B6'; replace b7 := cell_on b7 B6'; replace a8 := cell_on a8 B6'; replace b8 := cell_on b8 B6'; replace a9 := cell_on a9 B6'; replace b9 := cell_on b9 B6'; replace a10 := cell_on a10 B6'; replace b10 := cell_on b10 B6'; replace a11 := cell_on a11 B6'; replace b11 := cell_on b11 B6'; clear B6 B6' B4))))
  have t1 := fun W hB => termTriple a W (HC0.out.step hB) ha
  have t2 := fun W => r08Triple a W ha
  have t3 := fun W hB => termTriples a b W (HC0.out.step hB) ha hb
  have t4 := fun W => r08Triples a b W ha hb
  generalize tripB a = tb at *
  generalize cmpTp a b = cm at *
  go_upto_region 3 with fail
  have Ra0 := fun d os => cell_on a0 (below_regrown W4 d os)
  have Ra1 := fun d os => cell_on a1 (below_regrown W4 d os)
  have Ra2 := fun d os => cell_on a2 (below_regrown W4 d os)
  have Ra3 := fun d os => cell_on a3 (below_regrown W4 d os)
  have Ra4 := fun d os => cell_on a4 (below_regrown W4 d os)
  have Ra5 := fun d os => cell_on a5 (below_regrown W4 d os)
  have Ra6 := fun d os => cell_on a6 (below_regrown W4 d os)
  have Ra7 := fun d os => cell_on a7 (below_regrown W4 d os)
  have Ra8 := fun d os => cell_on a8 (below_regrown W4 d os)
  have Ra9 := fun d os => cell_on a9 (below_regrown W4 d os)
  have Ra10 := fun d os => cell_on a10 (below_regrown W4 d os)
  have Ra11 := fun d os => cell_on a11 (below_regrown W4 d os)
  have Rb0 := fun d os => cell_on b0 (below_regrown W4 d os)
  have Rb1 := fun d os => cell_on b1 (below_regrown W4 d os)
  have Rb2 := fun d os => cell_on b2 (below_regrown W4 d os)
  have Rb3 := fun d os => cell_on b3 (below_regrown W4 d os)
  have Rb4 := fun d os => cell_on b4 (below_regrown W4 d os)
  have Rb5 := fun d os => cell_on b5 (below_regrown W4 d os)
  have Rb6 := fun d os => cell_on b6 (below_regrown W4 d os)
  have Rb7 := fun d os => cell_on b7 (below_regrown W4 d os)
  have Rb8 := fun d os => cell_on b8 (below_regrown W4 d os)
  have Rb9 := fun d os => cell_on b9 (below_regrown W4 d os)
  have Rb10 := fun d os => cell_on b10 (below_regrown W4 d os)
  have Rb11 := fun d os => cell_on b11 (below_regrown W4 d os)
  have hW := B7.out
  refine wp_region_quiet_below (by kernel_rfl) (by kernel_rfl) ?_; (repeat (any_goals (go_big_quiet_step ((first | (go_at_call 16; with_reducible exact Calls.regrown_of (t1 _ (below_tr hW (below_regrown _ _ _)))) | (go_at_call 17; with_reducible exact Calls.regrown_of (t2 _)) | (go_at_call 14; with_reducible exact Calls.regrown_of (t3 _ (below_tr hW (below_regrown _ _ _)))) | (go_at_call 18; with_reducible exact Calls.regrown_of (t4 _)) | (go_at_call 9; with_reducible exact Calls.regrown_of (hA _ (below_tr hW (below_regrown _ _ _))))))))); all_goals (refine wpQuiet_nil ?_; intro _ hw9; obtain ⟨⟨d9, os9⟩, hw8⟩ := hw9; subst hw8)
  go_wp2
  go_ret
  exact ⟨rfl, HB0.out.trans ((below_tr B7.out (below_regrown _ _ _)).mono hsz)⟩
theorem lawTermTriples (a b : Tp) (w : World) (hC : CtxT w) (hs1 : hugeTp a) (hs2 : hugeTp b) :
    Calls Tryz.prog 4 #[tpA a, tpA b] w fun e w' => e = .returned (.bool true) ∧ Below w.heap.size w w' := triples_walk a b w hC hs1 hs2
end Go.Proofs.YtheeklkcaapkbaaGreatDoor
