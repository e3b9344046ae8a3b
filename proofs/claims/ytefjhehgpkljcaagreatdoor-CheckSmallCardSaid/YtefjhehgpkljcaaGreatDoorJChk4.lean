/- The library's slices.Values over texts: the iterator. append onto a row of the call's own: what else stays; a struct stored into a block that is known whole. The library's slices.Grow, slices.Concat over texts. -/
import Derived.Test.YtefjhehgpkljcaaGreatDoorJUsed
import Derived.Test.YtefjhehgpkljcaaGreatDoorJMet
import Derived.Laws.Tables
import Derived.Laws.CopyOwn
import Derived.Lib.AppendZerosOnto
import Derived.Lib.Strings
namespace Go.Proofs.YtefjhehgpkljcaaGreatDoor
open Go Go.RowKit Go.Shelf Um Fm Mt
attribute [local go_sem] Oper.semAt_some

theorem cValues (a : Option Addr) (n c : Nat) (w : World) :
    Calls Tryz.prog 108 #[.slice a n c] w fun e w' => e = .returned (.func (.func 154) #[] #[.pointer (some ⟨w.heap.size, 0, none⟩)]) ∧ w' = w.alloc (.cells #[.slice a n c] 24) := by
  go_enter Tryz.func108, Tryz.ntmps108
  go_wp2
  go_ret
  exact ⟨rfl, rfl⟩
def ValsL (h : Nat → Obj → Bool) (S : Nat) (J : List ByteArray → World → Prop) (l : List ByteArray) (W : World) (i : Value) (wr : World) : Prop :=
  ∃ k : Nat, k ≤ l.length ∧ i = .int .i64 k ∧ J (l.take k) wr ∧ Kb h S W wr
abbrev encTx (s : ByteArray) : Array Value := #[.string s]
set_option maxRecDepth 100000 in
set_option maxHeartbeats 2000000 in
/-- **slices.Values(l) goes through l, in order; or through some of the first ones.** -/
theorem cVals_stops (F : Fence) (hd : F.depth = none) (h5 : F.fn 154) (hro : F.round = none) (h : Nat → Obj → Bool) (m : Nat) (w : World) (l : List ByteArray) (A : Option Addr) (c Bp : Nat)
    (hr : Rd (wo h w) A (l.map Value.string)) (hl : l.length ≤ 8796093021952) (hb : (wo h w).cell? ⟨Bp, 0, none⟩ = some (.slice A l.length c)) :
    SeqStopsK F m Tryz.prog 154 #[.pointer (some ⟨Bp, 0, none⟩)] encTx (Kb h w.heap.size) (fun ys => ys = l) (fun pre => pre <+: l) l.length w := by
  intro y J Jx W hW hJ hJx hY h0
  have hdd : ∀ k : Nat, (F.depth.isSome = true → 1 ≤ k) := fun k h => by rw [hd] at h; cases h
  have hkb := Kb.of_below (hd := h) hW (Nat.le_refl _)
  have hb2 := (wo_cell.1 (hkb.cells _ _ hb)).1
  have hl' : (l.length : Int) ≤ 8796093021952 := by omega
  refine callsIn_of_wp Tryz.func154 rfl h5 ?_ hro
  simp only [Tryz.ntmps154, List.size_toArray, List.length_cons, List.length_nil, Nat.reduceAdd, Nat.reduceSub, Array.replicate_succ, Array.replicate_zero, List.push_toArray, List.append_toArray, List.nil_append, List.cons_append]
  gi_wp2
  gi_loopw [7] (ValsL h w.heap.size J l W) (fun i _ => l.length - (intOf i).toNat)
  case atStart => exact ⟨0, by omega, rfl, by simpa using h0, Kb.refl _ _ _⟩
  case round =>
    obtain ⟨k, hk, rfl, hj, hkw⟩ := hrel
    by_cases hlt : k < l.length
    · obtain ⟨s, hs⟩ : ∃ x, l[k]? = some x := ⟨_, List.getElem?_eq_getElem hlt⟩
      obtain ⟨g, o, rfl, c0⟩ := hr.at_ (j := k) (u := .string s) (by simp [hs])
      have e0 := (wo_cell.1 ((hkb.trans hkw).cells _ _ c0)).1
      have hyY := YieldAt.anyDepth' hd (m - 1) (hY (l.take k) s wr hj (by rw [List.length_take]; omega))
      have Hts := Lib.hid (take_snoc_of hs)
      have Hpre : Hid (l.take (k + 1) <+: l) := List.take_prefix _ _
      obtain ⟨fn, tmps, assign, body, hy', hR⟩ := hyY
      have Hkw := Lib.hid hkw
      clear hY hJ hJx hr hb hb2 hkb hkw hs c0 hj h0
      gi_wp2_with ((try refine ⟨hdd _, ?_⟩); refine hR.mono ?_; clear hR; rintro e W2 (⟨rfl, hJ2, hkb2⟩ | ⟨rfl, hx2⟩))
      · gi_wp2
        go_roundw
        case rel => exact ⟨k + 1, by omega, by go_num, by rw [Hts.out]; exact hJ2, Hkw.out.trans hkb2⟩
        case measure => simp [intOf]; omega
      · gi_wp2
        ((try simp only [Exit.inBlock, Exit.then]); refine bodyPost_ret (results_none rfl _ _ _) rfl ?_)
        exact ⟨⟨_, rfl⟩, .inr ⟨l.take (k + 1), Hpre.out, by rw [Hts.out]; exact hx2⟩⟩
    · have hk2 : l.take k = l := List.take_of_length_le (by omega)
      rw [hk2] at hj
      clear hY hJ hJx hr hb hb2 hkb
      gi_wp2
      go_end0
      exact ⟨⟨_, rfl⟩, .inl ⟨l, rfl, hj⟩⟩
end Go.Proofs.YtefjhehgpkljcaaGreatDoor
namespace Go.Proofs.YtefjhehgpkljcaaGreatDoor
open Go Go.RowKit
/-- append onto a row of the call's own, from whatever slice. -/
theorem wpList_appG {P : Program} {w : World} {ops : Array Oper} {rest : List Oper} {o : Oper} {a : Act} {Q : Exit → Act → World → Prop} {s x : Operand} {t : TypeId}
    (ho : o.op = .call { callee := .builtin .append, args := #[s, x], argTypes := #[t, t] }) (hgd : o.guard = none)
    {e : TypeId} {z : Value} {size bytes : Nat} (ht : P.underlying t = some (.slice e)) (hinfo : (P.info? e).map (fun i => (i.zero, i.size, i.bytes)) = some (some z, size, bytes))
    (hzs : z.cells.size = size) (hsz : 0 < size)
    {base : Nat} {v : Value} {n : Nat} {xs : List Value} (hs : a.eval s = v) (hown : w.ownsRow base e size v n xs)
    {A : Option Addr} {m c : Nat} {news : List Value} (hx : a.eval x = .slice A m c) (hr : Rd w A news) (hl : news.length = m * size) (h1 : ∀ u ∈ news, u.oneCell' = true)
    (hbytes : (n + m) * bytes ≤ 140737488355328) (h63 : n + m ≤ 9223372036854775807) (hbase : base ≤ w.heap.size)
    (h : ∀ v' w', w'.ownsRow base e size v' (n + m) (xs ++ news) → Below base w w' → w.grownBy w' v.ownBlock → wpList P ops Q rest (a.put o.dst v') w') : wpList P ops Q (o :: rest) a w := by
  obtain ⟨i, hi, hz, hsize, hby⟩ := info_parts hinfo
  have below : ∀ {w' : World}, w.grownBy w' v.ownBlock → Below base w w' := fun hg => (Below.refl _ _).grown hg hbase fun k hk => (hown.lt k hk).1
  rcases hr with rfl | ⟨g, off, rfl, hc⟩
  · have hm : m = 0 := by
      rcases Nat.eq_zero_or_pos m with h0 | h0
      · exact h0
      · have := Nat.mul_pos h0 hsz
        simp at hl; omega
    subst hm
    rcases A with _ | ad
    · refine wpList_plain hgd fun K hK => ?_
      have hrun : (Builtin.append_ #[t, t] o.type #[v, .slice none 0 c]).run P w = .ok v w := by
        rcases hown.2 with ⟨rfl, rfl⟩ | ⟨g, cap, cur, rfl, _, _, hnc, _⟩
        · simp [Builtin.append_, run_underlying ht, sizeOf, typeInfo, hi, Builtin.lenOf, Builtin.firstCells]
        · simp [Builtin.append_, run_underlying ht, sizeOf, typeInfo, hi, Builtin.lenOf, Builtin.firstCells, hnc, storeCells]
      unfold Oper.wp execOp
      simp only [ho, resolve, invoke, builtin, Sem.run_bind, Sem.run_pure, Result.andThen_ok, List.map_toArray, List.map_cons, List.map_nil, hs, hx, hrun]
      exact hK _ _ (h v w (by simpa using hown) (Below.refl _ _) ⟨rfl, rfl, rfl, Nat.le_refl _, fun _ _ _ => rfl⟩)
    · exact wpList_append_own w hgd s x t ho base e i z size bytes ht hi hz hsize hby hzs hsz v n xs hs hown ad 0 c [] hx hl (by simp) (by simp) h63 hbytes hbase (fun v' w' a b _ => h v' w' a (below b) b)
  · exact wpList_append_own w hgd s x t ho base e i z size bytes ht hi hz hsize hby hzs hsz v n xs hs hown ⟨g, off, none⟩ m c news hx hl (fun j u hu => by rw [add_zero_spot]; exact hc j u hu) h1 h63 hbytes hbase (fun v' w' a b _ => h v' w' a (below b) b)

theorem Rd.grown {w w' : World} {row : Option Nat} {A : Option Addr} {xs : List Value} (h : Rd w A xs) (hg : w.grownBy w' row) (hA : ∀ a, A = some a → some a.block ≠ row) : Rd w' A xs := by
  rcases h with h0 | ⟨b, o, rfl, hx⟩
  · exact .inl h0
  · exact .inr ⟨b, o, rfl, fun j u hu => hg.cell (hx j u hu) (hA ⟨b, o, none⟩ rfl)⟩
theorem run_storeRow {P : Program} {w : World} {t : TypeId} {g : Nat} {ty : TypeId} {cur vs : Array Value} (hi : (P.info? t).map (·.size) = some vs.size) (hg : w.heap[g]? = some (.cells cur ty (0, 0))) (hl : vs.size = cur.size) (h1 : vs.toList.all (·.oneCell') = true) :
    (Instr.storeAt t (.pointer (some ⟨g, 0, none⟩)) (.agg vs)).run P w = .ok () (w.setRow g vs) := by
  obtain ⟨i, hi1, hi2⟩ := Option.map_eq_some_iff.1 hi
  have hs : ∀ w, (sizeOf t).run P w = .ok vs.size w := fun w => by simp [sizeOf, typeInfo, hi1, hi2]
  have h := run_storeCells_from (P := P) g ty vs.toList 0 cur w hg (by simp [hl]) (fun v hv => List.all_eq_true.1 h1 v hv)
  simp only [List.take_zero, List.nil_append, Array.toArray_toList] at h
  unfold Instr.storeAt storeVar
  simp [Instr.sureAddr, hs, Value.cells, Result.andThen, h]
theorem wpList_store_row {P : Program} {w : World} {ops : Array Oper} {rest : List Oper} {o : Oper} {a : Act} {Q : Exit → Act → World → Prop}
    (hgd : o.guard = none) (t : TypeId) (ad x : Operand) (hop : o.op = Op.store t ad x) {g : Nat} {ty : TypeId} {cur vs : Array Value} (had : a.eval ad = .pointer (some ⟨g, 0, none⟩)) (hx : a.eval x = .agg vs)
    (hi : (P.info? t).map (·.size) = some vs.size) (hg : w.heap[g]? = some (.cells cur ty (0, 0))) (hl : vs.size = cur.size) (h1 : vs.toList.all (·.oneCell') = true)
    (hQ : wpList P ops Q rest (a.put o.dst undef) (w.setRow g vs)) : wpList P ops Q (o :: rest) a w := by
  refine wpList_plain hgd fun K hK => ?_
  have hrun := run_storeRow (P := P) (w := w) hi hg hl h1
  unfold Oper.wp
  simp [execOp, hop, had, hx, hrun, Result.andThen]
  exact hK _ _ hQ
/-- Whatever lay in other blocks lies. -/
theorem cell_row {w : World} {g : Nat} {vs : Array Value} {p : Addr} {u : Value} (h : w.cell? p = some u) (hne : p.block ≠ g) : (w.setRow g vs).cell? p = some u := by rw [cell_setRow_other _ _ _ _ hne]; exact h
theorem rd_row {w : World} {g : Nat} {vs : Array Value} {A : Option Addr} {xs : List Value} (h : Rd w A xs) (hA : ∀ a, A = some a → a.block ≠ g) : Rd (w.setRow g vs) A xs := by
  rcases h with h0 | ⟨b, o, rfl, hx⟩
  · exact .inl h0
  · exact .inr ⟨b, o, rfl, fun j u hu => cell_row (hx j u hu) (hA ⟨b, o, none⟩ rfl)⟩
end Go.Proofs.YtefjhehgpkljcaaGreatDoor
namespace Go.Proofs.YtefjhehgpkljcaaGreatDoor
open Go Go.RowKit Um Fm Mt

def GrowR (w : World) (e : Ending) (w' : World) : Prop := ∃ v, e = .returned v ∧ w'.ownsRow w.heap.size 9 1 v 0 [] ∧ Below w.heap.size w w'
set_option maxRecDepth 10000 in
set_option maxHeartbeats 2000000 in
theorem cGrow (n : Nat) (w : World) (hn : n ≤ 3000000) : Calls Tryz.prog 155 #[.slice none 0 0, .int .i64 n] w (GrowR w) := by
  have hn' : (n : Int) ≤ 3000000 := by omega
  by_cases h0 : 0 < n
  · obtain ⟨i, hi, hz, hsize, hby⟩ := info_parts stringInfo'
    have hrz : ∀ ty, (Builtin.append_ #[24, 3] ty #[.slice none 0 0, .int .i64 n]).run Tryz.prog w = _ := fun ty =>
      Lib.run_append_grow_zeros w 24 3 ty 9 i (.string ⟨#[]⟩) .i64 .i64 Tryz.underlying24 Tryz.underlying3 hi hz none 0 0 [] (run_firstCells_none w.drew i.size 0 0 0) n h0 (by omega) (by omega) (by omega)
        (by rw [hby]; omega) (by rw [Nat.zero_add, hby]; exact growslice_fits h0 (by omega))
    simp only [Nat.zero_add] at hrz
    have hG1 : n ≤ grownCap w n 0 9 := grownCap_ge w _ _ _
    have hG2 := grownCap_le_maxLen w n 0 9 (by unfold maxLen; omega)
    obtain ⟨G, hG⟩ : ∃ G, grownCap w n 0 9 = G := ⟨_, rfl⟩
    rw [hG] at hG1 hG2 hrz
    obtain ⟨cs, hcs⟩ : ∃ cs : Array Value, ([] : List Value).toArray ++ Builtin.zeroCells (Value.string ⟨#[]⟩).cells n ++ Builtin.zeroCells (Value.string ⟨#[]⟩).cells (G - n) = cs := ⟨_, rfl⟩
    have hsz : cs.size = G * 1 := by
      rw [← hcs, Array.size_append, Array.size_append, size_zeroCells, size_zeroCells]
      show 0 + n * 1 + (G - n) * 1 = G * 1
      omega
    rw [hcs] at hrz
    have hG3 : (G : Int) ≤ 9223372036854775807 := by unfold maxLen at hG2; omega
    have h0' : 0 < (n : Int) := by omega
    have own : (w.drew.alloc (.cells cs 9)).ownsRow w.heap.size 9 1 (.slice (some ⟨w.heap.size, 0, none⟩) 0 G) 0 [] :=
      ⟨rfl, .inr ⟨w.heap.size, G, cs, rfl, Nat.le_refl _, heap_alloc_new w.drew _, by omega, hG2, hsz, by simp⟩⟩
    have bel : Below w.heap.size w (w.drew.alloc (.cells cs 9)) := ((Below.refl _ _).drew).alloc (Nat.le_refl _) _
    have Own := Lib.hid own
    clear hG hcs hsz hi hz hsize hby own hG2
    go_enter Tryz.func155, Tryz.ntmps155
    go_wp2_with (at_builtin; refine Lib.wpList_append_run _ rfl _ _ _ _ rfl _ _ rfl rfl _ _ (hrz _) ?_)
    go_ret
    exact ⟨_, rfl, Own.out, bel⟩
  · obtain rfl : n = 0 := by omega
    go_enter Tryz.func155, Tryz.ntmps155
    go_wp2
    go_ret
    exact ⟨_, rfl, World.ownsRow_nil _ _ _ _, Below.refl _ _⟩

/-- Lists of texts, as they lie. -/
abbrev RdLs (w : World) (A : Option Addr) (ls : List (List ByteArray)) : Prop := RdL 1 (fun cs l => ∃ (B : Option Addr) (c : Nat), cs = [.slice B l.length c] ∧ Rd w B (l.map Value.string)) w A ls
theorem RdLs.later {w w' : World} {A : Option Addr} {ls : List (List ByteArray)} (h : RdLs w A ls) (hb : Below w.heap.size w w') : RdLs w' A ls :=
  RdL.mono h hb fun _ _ _ ⟨B, c, h1, h2⟩ => ⟨B, c, h1, h2.later hb⟩
def sumL (ls : List (List ByteArray)) : Nat := (ls.map List.length).sum
theorem sumL_take {ls : List (List ByteArray)} {k : Nat} {l : List ByteArray} (h : ls[k]? = some l) : sumL (ls.take (k + 1)) = sumL (ls.take k) + l.length := by
  unfold sumL; rw [take_snoc_of h, List.map_append, List.sum_append]; simp
theorem sumL_flat (ls : List (List ByteArray)) : (ls.flatMap id).length = sumL ls := by
  unfold sumL; induction ls with
  | nil => rfl
  | cons a r ih => simp [List.flatMap_cons]
theorem sumL_le (ls : List (List ByteArray)) (k : Nat) : sumL (ls.take k) ≤ sumL ls := by
  unfold sumL
  conv => rhs; rw [← List.take_append_drop k ls]
  rw [List.map_append, List.sum_append]; omega
def Sum1 (ls : List (List ByteArray)) (w : World) (s i : Value) (wr : World) : Prop := ∃ k : Nat, k ≤ ls.length ∧ i = .int .i64 k ∧ s = .int .i64 (sumL (ls.take k)) ∧ w = wr
def Cat1 (ls : List (List ByteArray)) (w0 _w : World) (v i : Value) (wr : World) : Prop := ∃ (k : Nat) (v' : Value), k ≤ ls.length ∧ i = .int .i64 k ∧ v = v' ∧ wr.ownsRow w0.heap.size 9 1 v' (sumL (ls.take k)) (((ls.take k).flatMap id).map Value.string) ∧ Below w0.heap.size w0 wr
set_option maxRecDepth 10000 in
set_option maxHeartbeats 2000000 in
theorem cConcat (ls : List (List ByteArray)) (A : Option Addr) (c : Nat) (w : World) (hr : RdLs w A ls) (hl : ls.length ≤ 1000) (hs : sumL ls ≤ 3000000) :
    Calls Tryz.prog 109 #[.slice A ls.length c] w (NamesR (ls.flatMap id) w) := by
  have hl' : (ls.length : Int) ≤ 1000 := by omega
  go_enter Tryz.func109, Tryz.ntmps109
  go_wp2
  go_loopw [3, 11] (Sum1 ls w) (fun _ i _ => ls.length - (intOf i).toNat)
  case atStart => exact ⟨0, by omega, rfl, rfl, rfl⟩
  case round =>
    obtain ⟨k, hk, rfl, rfl, rfl⟩ := hrel
    have hsk := sumL_le ls k
    by_cases hlt : k < ls.length
    · obtain ⟨l, hx⟩ : ∃ x, ls[k]? = some x := ⟨_, List.getElem?_eq_getElem hlt⟩
      obtain ⟨g, o, cs, rfl, -, ⟨B, d, rfl, hB⟩, hc⟩ := hr.at_ (by omega) hx
      have e0 : w.cell? ⟨g, o + k * 1, none⟩ = some (.slice B l.length d) := hc 0 _ rfl
      rw [Nat.mul_one] at e0
      have Hs := Lib.hid (sumL_take hx)
      have hs1 := sumL_le ls (k + 1)
      rw [sumL_take hx] at hs1
      generalize sumL (ls.take k) = S at *
      clear hc hx hB hr
      go_wp2
      go_roundw
      case rel => exact ⟨k + 1, by omega, by go_num, by rw [Hs.out]; go_num, rfl⟩
      case measure => simp [intOf]; omega
    · have Hk2 : Hid (ls.take k = ls) := List.take_of_length_le (by omega)
      have hg := cGrow (sumL (ls.take k)) w (by omega)
      generalize sumL (ls.take k) = S at *
      go_wp2_with (refine hg.mono ?_; rintro e w1 ⟨v, rfl, own, b1⟩)
      go_loopw [6, 27] (Cat1 ls w w1) (fun _ i _ => ls.length - (intOf i).toNat)
      case atStart => exact ⟨0, v, by omega, rfl, rfl, own, b1⟩
      case round =>
        obtain ⟨j, v', hj, rfl, rfl, ownj, bj⟩ := hrel
        have hsj := sumL_le ls j
        by_cases hlt2 : j < ls.length
        · obtain ⟨l, hx⟩ : ∃ x, ls[j]? = some x := ⟨_, List.getElem?_eq_getElem hlt2⟩
          obtain ⟨g, o, cs, rfl, -, ⟨B, d, rfl, hB⟩, hc⟩ := (hr.later bj).at_ (by omega) hx
          have e0 : wr.cell? ⟨g, o + j * 1, none⟩ = some (.slice B l.length d) := hc 0 _ rfl
          rw [Nat.mul_one] at e0
          have Hs := Lib.hid (sumL_take hx)
          have Hf := Lib.hid (flat_take hx id)
          have hs1 := sumL_le ls (j + 1)
          rw [sumL_take hx] at hs1
          have hbs : w.heap.size ≤ wr.heap.size := bj.size
          generalize hSj : sumL (ls.take j) = Sj at *
          clear hc hx hr hSj hg own b1
          go_wp2_with (at_builtin; refine wpList_appG rfl rfl Tryz.underlying24 stringInfo' rfl (by omega) rfl ownj rfl hB (by rw [List.length_map]; omega) (by intro u hu; obtain ⟨x, _, rfl⟩ := List.mem_map.1 hu; rfl) (by omega) (by omega) hbs ?_; intro v5 w5 own5 hb5 _)
          go_roundw
          case rel => exact ⟨j + 1, v5, by omega, by go_num, rfl, by rw [Hs.out, Hf.out, List.map_append]; exact own5, bj.trans hb5⟩
          case measure => simp [intOf]; omega
        · have hj2 : ls.take j = ls := List.take_of_length_le (by omega)
          rw [hj2, ← sumL_flat] at ownj
          obtain ⟨A1, d1, rfl, _, _⟩ := own_slice ownj
          clear hr hg own
          go_wp2
          go_ret
          exact ⟨_, rfl, ownj, bj⟩
end Go.Proofs.YtefjhehgpkljcaaGreatDoor
