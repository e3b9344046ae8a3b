/- The answer for filter (ossuaryref25): compared, Of, Keeps. append onto a row of the call's own: what else stays; a struct stored into a block that is known whole. -/
import Derived.Test.YtfijpdmkdoccjaaGreatDoorJR25a
import Derived.Test.YtfijpdmkdoccjaaGreatDoorJFilOf
import Derived.Test.YtfijpdmkdoccjaaGreatDoorJTms
import Derived.Laws.Tables
import Derived.Laws.CopyOwn
namespace Go.Proofs.YtfijpdmkdoccjaaGreatDoor
open Go Go.RowKit Fm

set_option maxRecDepth 10000 in
set_option maxHeartbeats 2000000 in
theorem r25Compared (k : Int) (a b : Tm) (w : World) (ha : a.x.size ≤ 281474976710656) (hb : b.x.size ≤ 281474976710656) :
    Calls Tryz.prog 61 #[.int .i64 k, .agg #[.int .i64 a.k, .string a.x, .string a.l, .string a.y], .agg #[.int .i64 b.k, .string b.x, .string b.l, .string b.y]] w fun e w' => e = .returned (.int .i64 (cmpK k a b)) ∧ Below w.heap.size w w' := by
  obtain ⟨ak, ax, al, ay⟩ := a
  obtain ⟨bk, bx, bl, by_⟩ := b
  simp only at ha hb ⊢
  have hSm := fun W => refSame ak ax al ay bk bx bl by_ W ha hb
  have hL1 := fun W => refLess ak ax al ay bk bx bl by_ W ha hb
  have hL2 := fun W => refLess bk bx bl by_ ak ax al ay W hb ha
  have HSm := Lib.hid hSm
  have HL1 := Lib.hid hL1
  have HL2 := Lib.hid hL2
  obtain ⟨W, hW⟩ : ∃ W : World, (w.alloc (.cells #[.int .i64 ak, .string ax, .string al, .string ay] 28)).alloc (.cells #[.int .i64 bk, .string bx, .string bl, .string by_] 28) = W := ⟨_, rfl⟩
  have hB0 : Below w.heap.size w W := by rw [← hW]; exact (by repeat (first | exact Below.refl _ _ | assumption | exact (Below.refl _ _).alloc (Nat.le_refl _) _ | refine below_tr ?_ (by assumption) | refine below_alloc ?_ | refine below_tr ?_ (below_regrown _ _ _)))
  have HB0 := Lib.hid hB0
  have HW := Lib.hid hW
  have hx0 : W.heap[w.heap.size]? = some (.cells #[.int .i64 ak, .string ax, .string al, .string ay] 28 (0, 0)) := by rw [← hW]; exact heap_two_1 w _ _
  have hx1 : W.heap[w.heap.size + 1]? = some (.cells #[.int .i64 bk, .string bx, .string bl, .string by_] 28 (0, 0)) := by rw [← hW]; exact heap_two_2 w _ _
  have b0 : W.cell? ⟨w.heap.size, 0, none⟩ = some (.int .i64 ak) := by rw [World.cell?, hx0]; rfl
  have b1 : W.cell? ⟨w.heap.size, 1, none⟩ = some (.string ax) := by rw [World.cell?, hx0]; rfl
  have b2 : W.cell? ⟨w.heap.size, 2, none⟩ = some (.string al) := by rw [World.cell?, hx0]; rfl
  have b3 : W.cell? ⟨w.heap.size, 3, none⟩ = some (.string ay) := by rw [World.cell?, hx0]; rfl
  have d0 : W.cell? ⟨w.heap.size + 1, 0, none⟩ = some (.int .i64 bk) := by rw [World.cell?, hx1]; rfl
  have d1 : W.cell? ⟨w.heap.size + 1, 1, none⟩ = some (.string bx) := by rw [World.cell?, hx1]; rfl
  have d2 : W.cell? ⟨w.heap.size + 1, 2, none⟩ = some (.string bl) := by rw [World.cell?, hx1]; rfl
  have d3 : W.cell? ⟨w.heap.size + 1, 3, none⟩ = some (.string by_) := by rw [World.cell?, hx1]; rfl
  clear hW hB0 hSm hL1 hL2 ha hb
  unfold cmpK
  by_cases h6 : k = 6
  · subst h6
    simp only [show ((6 : Int) == 6) = true from rfl, if_true]
    have hc := HSm.out W
    generalize sameI ⟨ak, ax, al, ay⟩ ⟨bk, bx, bl, by_⟩ = q at *
    clear hx0 hx1
    go_enter Tryz.func61, Tryz.ntmps61
    go_wp2_with fail
    simp only [HW.out]
    refine hc.mono ?_
    rintro e w2 ⟨rfl, hb2⟩
    go_wp2
    go_ret
    exact ⟨rfl, below_tr HB0.out hb2⟩
  have e6 : (k == 6) = false := by simpa using h6
  rw [e6]
  by_cases h7 : k = 7
  · subst h7
    simp only [show ((7 : Int) == 7) = true from rfl, if_true, Bool.false_eq_true, if_false]
    have hc := HSm.out W
    generalize sameI ⟨ak, ax, al, ay⟩ ⟨bk, bx, bl, by_⟩ = q at *
    clear hx0 hx1
    go_enter Tryz.func61, Tryz.ntmps61
    go_wp2_with fail
    simp only [HW.out]
    refine hc.mono ?_
    rintro e w2 ⟨rfl, hb2⟩
    go_wp2_with (refine (refNot _ _).mono ?_; rintro e w3 ⟨rfl, rfl⟩)
    go_ret
    exact ⟨rfl, below_tr HB0.out hb2⟩
  have e7 : (k == 7) = false := by simpa using h7
  rw [e7]
  by_cases h8 : k = 8
  · subst h8
    simp only [show ((8 : Int) == 8) = true from rfl, if_true, Bool.false_eq_true, if_false]
    have hc := HL1.out W
    generalize lessI ⟨ak, ax, al, ay⟩ ⟨bk, bx, bl, by_⟩ = q at *
    clear hx0 hx1
    go_enter Tryz.func61, Tryz.ntmps61
    go_wp2_with fail
    simp only [HW.out]
    refine hc.mono ?_
    rintro e w2 ⟨rfl, hb2⟩
    go_wp2
    go_ret
    exact ⟨rfl, below_tr HB0.out hb2⟩
  have e8 : (k == 8) = false := by simpa using h8
  rw [e8]
  by_cases h10 : k = 10
  · subst h10
    simp only [show ((10 : Int) == 10) = true from rfl, if_true, Bool.false_eq_true, if_false]
    have hc := HL2.out W
    generalize lessI ⟨bk, bx, bl, by_⟩ ⟨ak, ax, al, ay⟩ = q at *
    clear hx0 hx1
    go_enter Tryz.func61, Tryz.ntmps61
    go_wp2_with fail
    simp only [HW.out]
    refine hc.mono ?_
    rintro e w2 ⟨rfl, hb2⟩
    go_wp2
    go_ret
    exact ⟨rfl, below_tr HB0.out hb2⟩
  have e10 : (k == 10) = false := by simpa using h10
  rw [e10]
  by_cases h9 : k = 9
  · subst h9
    simp only [show ((9 : Int) == 9) = true from rfl, if_true, Bool.false_eq_true, if_false]
    have hc := HL2.out W
    generalize lessI ⟨bk, bx, bl, by_⟩ ⟨ak, ax, al, ay⟩ = q at *
    clear hx0 hx1
    go_enter Tryz.func61, Tryz.ntmps61
    go_wp2_with fail
    simp only [HW.out]
    refine hc.mono ?_
    rintro e w2 ⟨rfl, hb2⟩
    go_wp2_with (refine (refNot _ _).mono ?_; rintro e w3 ⟨rfl, rfl⟩)
    go_ret
    exact ⟨rfl, below_tr HB0.out hb2⟩
  have e9 : (k == 9) = false := by simpa using h9
  rw [e9]
  simp only [Bool.false_eq_true, if_false]
  have hc := HL1.out W
  generalize lessI ⟨ak, ax, al, ay⟩ ⟨bk, bx, bl, by_⟩ = q at *
  clear hx0 hx1
  go_enter Tryz.func61, Tryz.ntmps61
  go_wp2_with fail
  simp only [HW.out]
  refine hc.mono ?_
  rintro e w2 ⟨rfl, hb2⟩
  go_wp2_with (refine (refNot _ _).mono ?_; rintro e w3 ⟨rfl, rfl⟩)
  go_ret
  exact ⟨rfl, below_tr HB0.out hb2⟩
end Go.Proofs.YtfijpdmkdoccjaaGreatDoor
namespace Go.Proofs.YtfijpdmkdoccjaaGreatDoor
open Go Go.RowKit
/-- append onto a row of the call's own, from whatever slice. -/
theorem wpList_appG {P : Program} {w : World} {ops : Array Oper} {rest : List Oper} {o : Oper} {a : Act} {Q : Exit → Act → World → Prop} {s x : Operand} {t : TypeId}
    (ho : o.op = .call { callee := .builtin .append, args := #[s, x], argTypes := #[t, t] }) (hgd : o.guard = none)
    {e : TypeId} {z : Value} {size bytes : Nat} (ht : P.underlying t = some (.slice e)) (hinfo : (P.info? e).map (fun i => (i.zero, i.size, i.bytes)) = some (some z, size, bytes))
    (hzs : z.cells.size = size) (hsz : 0 < size)
    {base : Nat} {v : Value} {n : Nat} {xs : List Value} (hs : a.eval s = v) (hown : w.ownsRow base e size v n xs)
    {A : Option Addr} {m c : Nat} {news : List Value} (hx : a.eval x = .slice A m c) (hr : Rd w A news) (hl : news.length = m * size) (h1 : ∀ u ∈ news, u.oneCell' = true)
    (hbytes : (n + m) * bytes ≤ 140737488355328) (h63 : n + m ≤ 9223372036854775807) (hbase : base ≤ w.heap.size)
    (h : ∀ v' w', w'.ownsRow base e size v' (n + m) (xs ++ news) → Below base w w' → w.grownBy w' v.ownBlock → wpList P ops Q rest (a.put o.dst v') w') : wpList P ops Q (o :: rest) a w := by
  obtain ⟨i, hi, hz, hsize, hby⟩ := info_parts hinfo
  have below : ∀ {w' : World}, w.grownBy w' v.ownBlock → Below base w w' := fun hg => (Below.refl _ _).grown hg hbase fun k hk => (hown.lt k hk).1
  rcases hr with rfl | ⟨g, off, rfl, hc⟩
  · have hm : m = 0 := by
      rcases Nat.eq_zero_or_pos m with h0 | h0
      · exact h0
      · have := Nat.mul_pos h0 hsz
        simp at hl; omega
    subst hm
    rcases A with _ | ad
    · refine wpList_plain hgd fun K hK => ?_
      have hrun : (Builtin.append_ #[t, t] o.type #[v, .slice none 0 c]).run P w = .ok v w := by
        rcases hown.2 with ⟨rfl, rfl⟩ | ⟨g, cap, cur, rfl, _, _, hnc, _⟩
        · simp [Builtin.append_, run_underlying ht, sizeOf, typeInfo, hi, Builtin.lenOf, Builtin.firstCells]
        · simp [Builtin.append_, run_underlying ht, sizeOf, typeInfo, hi, Builtin.lenOf, Builtin.firstCells, hnc, storeCells]
      unfold Oper.wp execOp
      simp only [ho, resolve, invoke, builtin, Sem.run_bind, Sem.run_pure, Result.andThen_ok, List.map_toArray, List.map_cons, List.map_nil, hs, hx, hrun]
      exact hK _ _ (h v w (by simpa using hown) (Below.refl _ _) ⟨rfl, rfl, rfl, Nat.le_refl _, fun _ _ _ => rfl⟩)
    · exact wpList_append_own w hgd s x t ho base e i z size bytes ht hi hz hsize hby hzs hsz v n xs hs hown ad 0 c [] hx hl (by simp) (by simp) h63 hbytes hbase (fun v' w' a b _ => h v' w' a (below b) b)
  · exact wpList_append_own w hgd s x t ho base e i z size bytes ht hi hz hsize hby hzs hsz v n xs hs hown ⟨g, off, none⟩ m c news hx hl (fun j u hu => by rw [add_zero_spot]; exact hc j u hu) h1 h63 hbytes hbase (fun v' w' a b _ => h v' w' a (below b) b)

theorem Rd.grown {w w' : World} {row : Option Nat} {A : Option Addr} {xs : List Value} (h : Rd w A xs) (hg : w.grownBy w' row) (hA : ∀ a, A = some a → some a.block ≠ row) : Rd w' A xs := by
  rcases h with h0 | ⟨b, o, rfl, hx⟩
  · exact .inl h0
  · exact .inr ⟨b, o, rfl, fun j u hu => hg.cell (hx j u hu) (hA ⟨b, o, none⟩ rfl)⟩
theorem run_storeRow {P : Program} {w : World} {t : TypeId} {g : Nat} {ty : TypeId} {cur vs : Array Value} (hi : (P.info? t).map (·.size) = some vs.size) (hg : w.heap[g]? = some (.cells cur ty (0, 0))) (hl : vs.size = cur.size) (h1 : vs.toList.all (·.oneCell') = true) :
    (Instr.storeAt t (.pointer (some ⟨g, 0, none⟩)) (.agg vs)).run P w = .ok () (w.setRow g vs) := by
  obtain ⟨i, hi1, hi2⟩ := Option.map_eq_some_iff.1 hi
  have hs : ∀ w, (sizeOf t).run P w = .ok vs.size w := fun w => by simp [sizeOf, typeInfo, hi1, hi2]
  have h := run_storeCells_from (P := P) g ty vs.toList 0 cur w hg (by simp [hl]) (fun v hv => List.all_eq_true.1 h1 v hv)
  simp only [List.take_zero, List.nil_append, Array.toArray_toList] at h
  unfold Instr.storeAt storeVar
  simp [Instr.sureAddr, hs, Value.cells, Result.andThen, h]
theorem wpList_store_row {P : Program} {w : World} {ops : Array Oper} {rest : List Oper} {o : Oper} {a : Act} {Q : Exit → Act → World → Prop}
    (hgd : o.guard = none) (t : TypeId) (ad x : Operand) (hop : o.op = Op.store t ad x) {g : Nat} {ty : TypeId} {cur vs : Array Value} (had : a.eval ad = .pointer (some ⟨g, 0, none⟩)) (hx : a.eval x = .agg vs)
    (hi : (P.info? t).map (·.size) = some vs.size) (hg : w.heap[g]? = some (.cells cur ty (0, 0))) (hl : vs.size = cur.size) (h1 : vs.toList.all (·.oneCell') = true)
    (hQ : wpList P ops Q rest (a.put o.dst undef) (w.setRow g vs)) : wpList P ops Q (o :: rest) a w := by
  refine wpList_plain hgd fun K hK => ?_
  have hrun := run_storeRow (P := P) (w := w) hi hg hl h1
  unfold Oper.wp
  simp [execOp, hop, had, hx, hrun, Result.andThen]
  exact hK _ _ hQ
/-- Whatever lay in other blocks lies. -/
theorem cell_row {w : World} {g : Nat} {vs : Array Value} {p : Addr} {u : Value} (h : w.cell? p = some u) (hne : p.block ≠ g) : (w.setRow g vs).cell? p = some u := by rw [cell_setRow_other _ _ _ _ hne]; exact h
theorem rd_row {w : World} {g : Nat} {vs : Array Value} {A : Option Addr} {xs : List Value} (h : Rd w A xs) (hA : ∀ a, A = some a → a.block ≠ g) : Rd (w.setRow g vs) A xs := by
  rcases h with h0 | ⟨b, o, rfl, hx⟩
  · exact .inl h0
  · exact .inr ⟨b, o, rfl, fun j u hu => cell_row (hx j u hu) (hA ⟨b, o, none⟩ rfl)⟩
end Go.Proofs.YtfijpdmkdoccjaaGreatDoor
