/- Small conditions, known by what they are no longer than: for the closed laws. -/
import Derived.Test.YtfijpdmkdoccjaaGreatDoorJFilProg
import Derived.Test.YtfijpdmkdoccjaaGreatDoorJR25d
import Derived.Test.YtfijpdmkdoccjaaGreatDoorJLaw25r
namespace Go.Proofs.YtfijpdmkdoccjaaGreatDoor
open Go Go.RowKit Fm Um Mt
/-- A condition, one deeper. -/
def upE : (n : Nat) → ExT n → ExT (n + 1)
  | 0, e => nomatch (show Empty from e)
  | n + 1, (k, s, t, kids) => (k, s, t, kids.map (upE n))
theorem All.map {α β : Type} {sz : Nat} {R : List Value → α → Prop} {R' : List Value → β → Prop} {f : α → β} : ∀ {l : List α} {xs : List Value}, All sz R xs l → (∀ cs e, R cs e → R' cs (f e)) → All sz R' xs (l.map f)
  | [], _, h, _ => h
  | _ :: _, _, ⟨cs, ys, hx, hc, hr, h⟩, hm => ⟨cs, ys, hx, hc, hm _ _ hr, h.map hm⟩
theorem RdE.up : ∀ {n : Nat} {w : World} {cs : List Value} {e : ExT n}, RdE n w cs e → RdE (n + 1) w cs (upE n e)
  | 0, _, _, _, h => h.elim
  | n + 1, w, cs, (k, s, t, kids), ⟨A, c, h1, h2, xs, hr, ha⟩ => ⟨A, c, by rw [h1, List.length_map], by rw [List.length_map]; exact h2, xs, hr, ha.map fun _ _ h => h.up⟩
theorem szU.up : ∀ {n : Nat} {e : ExT n}, szU n e → szU (n + 1) (upE n e)
  | 0, e, _ => nomatch (show Empty from e)
  | n + 1, (k, s, t, kids), ⟨h1, h2, h3, h4⟩ => ⟨h1, h2, by rw [List.length_map]; exact h3, fun y hy => by
      obtain ⟨x, hx, rfl⟩ := List.mem_map.1 hy
      exact (h4 x hx).up⟩
theorem szU.n : ∀ {n : Nat} {e : ExT n}, szU n e → szN n e
  | 0, _, _ => trivial
  | _ + 1, (_, _, _, _), ⟨_, _, h3, h4⟩ => ⟨Nat.le_trans h3 (by decide), fun y hy => (h4 y hy).n⟩
/-- These cells read as a small condition. -/
def SmE (n : Nat) (w : World) (cs : List Value) : Prop := ∃ e : ExT n, RdE n w cs e ∧ szU n e
/-- These cells read as m small conditions. -/
def SmX (n : Nat) (w : World) (xs : List Value) (m : Nat) : Prop := ∃ l : List (ExT n), l.length = m ∧ All 7 (RdE n w) xs l ∧ ∀ x ∈ l, szU n x
/-- A slice of m small conditions. -/
def SmL (n : Nat) (w : World) (A : Option Addr) (m : Nat) : Prop := ∃ l : List (ExT n), l.length = m ∧ RdEs n w A l ∧ ∀ x ∈ l, szU n x
theorem SmE.later {n : Nat} {w w' : World} {cs : List Value} (h : SmE n w cs) (hb : Below w.heap.size w w') : SmE n w' cs := by
  obtain ⟨e, h1, h2⟩ := h; exact ⟨e, h1.later hb, h2⟩
theorem SmL.later {n : Nat} {w w' : World} {A : Option Addr} {m : Nat} (h : SmL n w A m) (hb : Below w.heap.size w w') : SmL n w' A m := by
  obtain ⟨l, h1, h2, h3⟩ := h; exact ⟨l, h1, RdEs.later h2 hb, h3⟩
theorem SmE.up {n : Nat} {w : World} {cs : List Value} (h : SmE n w cs) : SmE (n + 1) w cs := by
  obtain ⟨e, h1, h2⟩ := h; exact ⟨_, h1.up, h2.up⟩
theorem SmL.up {n : Nat} {w : World} {A : Option Addr} {m : Nat} (h : SmL n w A m) : SmL (n + 1) w A m := by
  obtain ⟨l, h1, ⟨xs, h2, h4⟩, h3⟩ := h
  refine ⟨l.map (upE n), by simp [h1], ⟨xs, h2, h4.map fun _ _ h => h.up⟩, fun x hx => ?_⟩
  obtain ⟨y, hy, rfl⟩ := List.mem_map.1 hx
  exact (h3 y hy).up
theorem SmX.nil (n : Nat) (w : World) : SmX n w [] 0 := ⟨[], rfl, rfl, fun _ h => nomatch h⟩
theorem SmX.cons {n : Nat} {w : World} {cs xs : List Value} {m : Nat} (h : SmE n w cs) (hx : SmX n w xs m) : SmX n w (cs ++ xs) (m + 1) := by
  obtain ⟨e, h1, h2⟩ := h
  obtain ⟨l, h3, h4, h5⟩ := hx
  exact ⟨e :: l, by simp [h3], ⟨cs, xs, rfl, h1.len, h1, h4⟩, fun x hx => by rcases List.mem_cons.1 hx with rfl | hx; exact h2; exact h5 x hx⟩
theorem SmX.lst {n : Nat} {w : World} {A : Option Addr} {xs : List Value} {m : Nat} (h : SmX n w xs m) (hr : Rd w A xs) : SmL n w A m := by
  obtain ⟨l, h1, h2, h3⟩ := h; exact ⟨l, h1, ⟨xs, hr, h2⟩, h3⟩
theorem SmL.nil (n : Nat) (w : World) (A : Option Addr) : SmL n w A 0 := ⟨[], rfl, RdL.nil _ _ _ _, fun _ h => nomatch h⟩
theorem SmE.mk {n : Nat} {w : World} {A : Option Addr} {m c : Nat} {k : Int} {s : ByteArray} {t : Tm} (h : SmL n w A m) (hc : m ≤ c) (hm : m ≤ 1048576) (hs : s.size ≤ 1048576) (ht : szTu t) : SmE (n + 1) w [.int .i64 k, .string s, .int .i64 t.k, .string t.x, .string t.l, .string t.y, .slice A m c] := by
  obtain ⟨l, rfl, h2, h3⟩ := h
  exact ⟨(k, s, t, l), ⟨A, c, rfl, hc, h2⟩, hs, ht, hm, h3⟩
theorem SmL.at_ {n : Nat} {w : World} {A : Option Addr} {m : Nat} (h : SmL n w A m) {j : Nat} (hj : j < m) :
    ∃ (g o : Nat) (k : Int) (s : ByteArray) (t : Tm) (A' : Option Addr) (m' c : Nat), A = some ⟨g, o, none⟩ ∧ SmE n w [.int .i64 k, .string s, .int .i64 t.k, .string t.x, .string t.l, .string t.y, .slice A' m' c] ∧
      w.cell? ⟨g, o + j * 7, none⟩ = some (.int .i64 k) ∧ w.cell? ⟨g, o + j * 7 + 1, none⟩ = some (.string s) ∧
      w.cell? ⟨g, o + j * 7 + 2, none⟩ = some (.int .i64 t.k) ∧ w.cell? ⟨g, o + j * 7 + 3, none⟩ = some (.string t.x) ∧ w.cell? ⟨g, o + j * 7 + 4, none⟩ = some (.string t.l) ∧ w.cell? ⟨g, o + j * 7 + 5, none⟩ = some (.string t.y) ∧
      w.cell? ⟨g, o + j * 7 + 6, none⟩ = some (.slice A' m' c) := by
  obtain ⟨l, rfl, h2, h3⟩ := h
  have hx : l[j]? = some l[j] := List.getElem?_eq_getElem hj
  obtain ⟨g, o, k, s, t, A', m', c, hA, hR, c0, c1, c2, c3, c4, c5, c6⟩ := RdEs.atv h2 hx
  exact ⟨g, o, k, s, t, A', m', c, hA, ⟨_, hR, h3 _ (List.getElem_mem hj)⟩, c0, c1, c2, c3, c4, c5, c6⟩
theorem SmL.take {n : Nat} {w : World} {A : Option Addr} {m : Nat} (h : SmL n w A m) (k : Nat) (hk : k ≤ m) : SmL n w A k := by
  obtain ⟨l, rfl, ⟨xs, h2, h4⟩, h3⟩ := h
  exact ⟨l.take k, by simp [hk], ⟨xs.take (k * 7), h2.take _, h4.take k⟩, fun x hx => h3 x (List.mem_of_mem_take hx)⟩
theorem SmL.drop {n : Nat} {w : World} {g o m : Nat} (h : SmL n w (some ⟨g, o, none⟩) m) (k : Nat) : SmL n w (some ⟨g, o + k * 7, none⟩) (m - k) := by
  obtain ⟨l, rfl, ⟨xs, h2, h4⟩, h3⟩ := h
  refine ⟨l.drop k, by simp, ⟨xs.drop (k * 7), ?_, h4.drop k⟩, fun x hx => h3 x (List.mem_of_mem_drop hx)⟩
  rcases h2 with rfl | ⟨g', o', he, hc⟩
  · exact .inl (by simp)
  · injection he with he; injection he with h5 h6; subst h5; subst h6
    refine .inr ⟨g, o + k * 7, rfl, fun j u hu => ?_⟩
    rw [List.getElem?_drop] at hu
    rw [Nat.add_assoc]
    exact hc _ u hu
theorem SmX.later {n : Nat} {w w' : World} {xs : List Value} {m : Nat} (h : SmX n w xs m) (hb : Below w.heap.size w w') : SmX n w' xs m := by
  obtain ⟨l, h1, h2, h3⟩ := h; exact ⟨l, h1, h2.mono fun _ _ _ h => h.later hb, h3⟩
theorem smL_alloc {n m : Nat} {V : World} {cs : Array Value} {T : TypeId} (h : SmX n V cs.toList m) : SmL n (V.alloc (.cells cs T)) (some ⟨V.heap.size, 0, none⟩) m :=
  (h.later ((Below.refl _ _).alloc (Nat.le_refl _) _)).lst (Rd.of_block (heap_alloc_new V _) rfl)
/-- Four lists of kids, then the list of their parents, each in a new block. -/
theorem nest5 {n m1 m2 m3 m4 m : Nat} {V : World} {K1 K2 K3 K4 L : Array Value} {T : TypeId} (h1 : SmX n V K1.toList m1) (h2 : SmX n V K2.toList m2) (h3 : SmX n V K3.toList m3) (h4 : SmX n V K4.toList m4)
    (hL : ∀ X, Below V.heap.size V X → SmL n X (some ⟨V.heap.size, 0, none⟩) m1 → SmL n X (some ⟨V.heap.size + 1, 0, none⟩) m2 → SmL n X (some ⟨V.heap.size + 1 + 1, 0, none⟩) m3 → SmL n X (some ⟨V.heap.size + 1 + 1 + 1, 0, none⟩) m4 → SmX (n + 1) X L.toList m) :
    SmL (n + 1) (((((V.alloc (.cells K1 T)).alloc (.cells K2 T)).alloc (.cells K3 T)).alloc (.cells K4 T)).alloc (.cells L T)) (some ⟨V.heap.size + 1 + 1 + 1 + 1, 0, none⟩) m ∧
      Below V.heap.size V (((((V.alloc (.cells K1 T)).alloc (.cells K2 T)).alloc (.cells K3 T)).alloc (.cells K4 T)).alloc (.cells L T)) := by
  have st : ∀ (W : World) (o : Obj), Below W.heap.size W (W.alloc o) := fun W o => (Below.refl _ _).alloc (Nat.le_refl _) _
  have sz : ∀ (W : World) (o : Obj), (W.alloc o).heap.size = W.heap.size + 1 := fun W o => by simp
  generalize hA : V.alloc (.cells K1 T) = A at *
  have a1 : SmL n A (some ⟨V.heap.size, 0, none⟩) m1 := hA ▸ smL_alloc h1
  have bA : Below V.heap.size V A := hA ▸ st _ _
  have sA : A.heap.size = V.heap.size + 1 := hA ▸ sz _ _
  generalize hB : A.alloc (.cells K2 T) = B at *
  have a2 : SmL n B (some ⟨V.heap.size + 1, 0, none⟩) m2 := sA ▸ hB ▸ smL_alloc (h2.later bA)
  have bB : Below A.heap.size A B := hB ▸ st _ _
  have sB : B.heap.size = V.heap.size + 1 + 1 := by rw [← hB, sz, sA]
  have bVB := below_tr bA bB
  generalize hC : B.alloc (.cells K3 T) = C at *
  have a3 : SmL n C (some ⟨V.heap.size + 1 + 1, 0, none⟩) m3 := sB ▸ hC ▸ smL_alloc (h3.later bVB)
  have bC : Below B.heap.size B C := hC ▸ st _ _
  have sC : C.heap.size = V.heap.size + 1 + 1 + 1 := by rw [← hC, sz, sB]
  have bVC := below_tr bVB bC
  generalize hD : C.alloc (.cells K4 T) = D at *
  have a4 : SmL n D (some ⟨V.heap.size + 1 + 1 + 1, 0, none⟩) m4 := sC ▸ hD ▸ smL_alloc (h4.later bVC)
  have bD : Below C.heap.size C D := hD ▸ st _ _
  have sD : D.heap.size = V.heap.size + 1 + 1 + 1 + 1 := by rw [← hD, sz, sC]
  have bVD := below_tr bVC bD
  refine ⟨?_, below_tr bVD (st _ _)⟩
  rw [← sD]
  exact smL_alloc (hL D bVD (((a1.later bB).later bC).later bD) ((a2.later bC).later bD) (a3.later bD) a4)
/-- FilterRows of small conditions. -/
theorem lawRowsU {n : Nat} {A : Option Addr} {m c : Nat} {vars : List ByteArray} {A1 : Option Addr} {c1 : Nat} {row : List Tm} {A2 : Option Addr} {c2 : Nat} {w : World}
    (h : SmL n w A m) (hm : m ≤ 1048576) (hr1 : Rd w A1 (vars.map Value.string)) (hv : vars.length ≤ 1048576) (hr2 : RdTs w A2 row) (hrl : row.length ≤ 1048576) (hzr : ∀ t ∈ row, szTu t) :
    Calls Tryz.prog 6 #[.slice A m c, .slice A1 vars.length c1, .slice A2 row.length c2] w fun e w' => e = .returned (.bool true) ∧ Below w.heap.size w w' := by
  obtain ⟨l, rfl, h2, h3⟩ := h
  exact lawFilterRows n l A c vars A1 c1 row A2 c2 w h2 hm (fun x hx => (h3 x hx).e) (fun x hx => (h3 x hx).n) hr1 hv hr2 hrl (fun t ht => Nat.le_trans (hzr t ht).1 (by decide))
end Go.Proofs.YtfijpdmkdoccjaaGreatDoor
