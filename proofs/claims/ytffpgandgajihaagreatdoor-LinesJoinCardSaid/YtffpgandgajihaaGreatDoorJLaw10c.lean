/- append onto a row of the call's own, where a guard says that it is wanted. Texts behind one another, lines joined anew: plainly. Layer 10's law LinesJoin, walked. -/
import Derived.Test.YtffpgandgajihaaGreatDoorJRep2m
import Derived.Test.YtffpgandgajihaaGreatDoorJSameTp
import Derived.Lib.Join
import Derived.Test.YtffpgandgajihaaGreatDoorJLaw10a
namespace Go.Proofs.YtffpgandgajihaaGreatDoor
open Go Go.RowKit
theorem wpList_want {P : Program} {w : World} {ops : Array Oper} {rest : List Oper} {o : Oper} {a : Act} {Q : Exit → Act → World → Prop} (hw : Region.wanted o (yielded ops a.tmps) = true)
    (h : ∀ K : Act → World → Prop, (∀ a w, wpList P ops Q rest a w → K a w) → o.wp P a w K Q) : wpList P ops Q (o :: rest) a w :=
  wpList_step fun K hK => by rw [if_pos hw]; exact h K hK
theorem wpList_appW {P : Program} {w : World} {ops : Array Oper} {rest : List Oper} {o : Oper} {a : Act} {Q : Exit → Act → World → Prop} {s x : Operand} {t : TypeId}
    (ho : o.op = .call { callee := .builtin .append, args := #[s, x], argTypes := #[t, t] }) (hw : Region.wanted o (yielded ops a.tmps) = true)
    {e : TypeId} {z : Value} {size bytes : Nat} (ht : P.underlying t = some (.slice e)) (hinfo : (P.info? e).map (fun i => (i.zero, i.size, i.bytes)) = some (some z, size, bytes))
    (hzs : z.cells.size = size) (hsz : 0 < size)
    {base : Nat} {v : Value} {n : Nat} {xs : List Value} (hs : a.eval s = v) (hown : w.ownsRow base e size v n xs)
    {A : Option Addr} {m c : Nat} {news : List Value} (hx : a.eval x = .slice A m c) (hr : Rd w A news) (hl : news.length = m * size) (h1 : ∀ u ∈ news, u.oneCell' = true)
    (hbytes : (n + m) * bytes ≤ 140737488355328) (h63 : n + m ≤ 9223372036854775807) (hbase : base ≤ w.heap.size)
    (h : ∀ v' w', w'.ownsRow base e size v' (n + m) (xs ++ news) → Below base w w' → wpList P ops Q rest (a.put o.dst v') w') : wpList P ops Q (o :: rest) a w := by
  obtain ⟨i, hi, hz, hsize, hby⟩ := info_parts hinfo
  have below : ∀ {w' : World}, w.grownBy w' v.ownBlock → Below base w w' := fun hg => (Below.refl _ _).grown hg hbase fun k hk => (hown.lt k hk).1
  refine wpList_want hw fun K hK => ?_
  have key : ∃ v' w', (Builtin.append_ #[t, t] o.type #[v, .slice A m c]).run P w = .ok v' w' ∧ w'.ownsRow base e size v' (n + m) (xs ++ news) ∧ Below base w w' := by
    have some_ : ∀ (ad : Addr), (∀ j u, news[j]? = some u → w.cell? (ad.add j) = some u) → ∃ v' w', (Builtin.append_ #[t, t] o.type #[v, .slice (some ad) m c]).run P w = .ok v' w' ∧ w'.ownsRow base e size v' (n + m) (xs ++ news) ∧ Below base w w' := by
      intro ad hc
      obtain ⟨v', w', hrun, h2, h3, -⟩ := run_append_own (P := P) w base t o.type e i z size bytes ht hi hz hsize hby hzs hsz v n xs hown ad m c news hl hc h1 (by simp only [maxLen]; omega) hbytes hbase
      exact ⟨v', w', hrun, h2, below h3⟩
    rcases hr with rfl | ⟨g, off, rfl, hc⟩
    · have hm : m = 0 := by
        rcases Nat.eq_zero_or_pos m with h0 | h0
        · exact h0
        · have := Nat.mul_pos h0 hsz
          simp at hl; omega
      subst hm
      rcases A with _ | ad
      · refine ⟨v, w, ?_, by simpa using hown, Below.refl _ _⟩
        rcases hown.2 with ⟨rfl, rfl⟩ | ⟨g, cap, cur, rfl, _, _, hnc, _⟩
        · simp [Builtin.append_, run_underlying ht, sizeOf, typeInfo, hi, Builtin.lenOf, Builtin.firstCells]
        · simp [Builtin.append_, run_underlying ht, sizeOf, typeInfo, hi, Builtin.lenOf, Builtin.firstCells, hnc, storeCells]
      · exact some_ ad (by simp)
    · exact some_ ⟨g, off, none⟩ (fun j u hu => by rw [add_zero_spot]; exact hc j u hu)
  obtain ⟨v', w', hrun, h2, h3⟩ := key
  unfold Oper.wp execOp
  simp only [ho, resolve, invoke, builtin, Sem.run_bind, Sem.run_pure, Result.andThen_ok, List.map_toArray, List.map_cons, List.map_nil, hs, hx, hrun]
  exact hK _ _ (h v' w' h2 h3)
end Go.Proofs.YtffpgandgajihaaGreatDoor
namespace Go.Proofs.YtffpgandgajihaaGreatDoor
open Go Go.RowKit Um Fm Lx Tx

/-- What may stand between. -/
def gapsL : List (List UInt8) := [[10], [13, 10], [10, 10], [10, 35, 32, 114, 10], [13, 32, 9, 13]]
theorem bare_one {bl : List (List UInt8)} (h : bl = [] ∨ bl = [[]]) : ∀ r ∈ bl, bare r := by
  intro r hr
  rcases h with rfl | rfl
  · cases hr
  · rw [List.mem_singleton] at hr
    subst hr
    exact bare_nil
theorem gap_end {u gap : List UInt8} (h : gap ∈ gapsL) : (u ++ gap).getLast? = some 10 ∨ (u ++ gap).getLast? = some 13 := by
  simp only [gapsL, List.mem_cons, List.not_mem_nil, or_false] at h
  rcases h with rfl | rfl | rfl | rfl | rfl <;> simp [List.getLast?_append]
theorem one_of {x y : List (List UInt8)} (h : x = y ∨ x = y ++ [[]]) : ∃ bl, (∀ r ∈ bl, bare r) ∧ x = y ++ bl := by
  rcases h with h | h
  · exact ⟨[], bare_one (.inl rfl), by rw [h, List.append_nil]⟩
  · exact ⟨[[]], bare_one (.inr rfl), h⟩
theorem more_of {a u v : List UInt8} {r : List UInt8} (h : ∃ bl, (∀ r ∈ bl, bare r) ∧ splitL (a ++ u) = splitL a ++ bl) (hu : (a ++ u).getLast? = some 10 ∨ (a ++ u).getLast? = some 13) (hv : ¬ ((a ++ u).getLast? = some 13 ∧ v.head? = some 10)) (hr : splitL v = [r]) (hb : bare r) : ∃ bl, (∀ r ∈ bl, bare r) ∧ splitL (a ++ (u ++ v)) = splitL a ++ bl := by
  obtain ⟨bl, h1, h2⟩ := h
  refine ⟨bl ++ [r], fun x hx => ?_, by rw [← List.append_assoc, split_app hu hv, h2, hr, List.append_assoc]⟩
  rw [List.mem_append, List.mem_singleton] at hx
  rcases hx with hx | rfl
  · exact h1 x hx
  · exact hb
theorem split_gap (a : List UInt8) {gap : List UInt8} (h : gap ∈ gapsL) : ∃ bl, (∀ r ∈ bl, bare r) ∧ splitL (a ++ gap) = splitL a ++ bl := by
  simp only [gapsL, List.mem_cons, List.not_mem_nil, or_false] at h
  rcases h with rfl | rfl | rfl | rfl | rfl
  · exact one_of (split_lf a)
  · exact one_of (split_crlf a)
  · exact more_of (u := [10]) (v := [10]) (r := []) (one_of (split_lf a)) (by simp [List.getLast?_append]) (by simp [List.getLast?_append]) (by kernel_rfl) bare_nil
  · exact more_of (u := [10]) (v := [35, 32, 114, 10]) (r := [35, 32, 114]) (one_of (split_lf a)) (by simp [List.getLast?_append]) (by simp) (by kernel_rfl) bare_rem
  · exact more_of (u := [13]) (v := [32, 9, 13]) (r := [32, 9]) (one_of (split_cr a)) (by simp [List.getLast?_append]) (by simp) (by kernel_rfl) bare_blk
/-- Behind an ended text: another's lines, or, where one end is made of both, all but its first, an empty one. -/
theorem split_two (u b : List UInt8) (h : u.getLast? = some 10 ∨ u.getLast? = some 13) : splitL (u ++ b) = splitL u ++ splitL b ∨ (∃ rb, b.head? = some 10 ∧ splitL b = [] :: rb ∧ splitL (u ++ b) = splitL u ++ rb) := by
  by_cases hv : u.getLast? = some 13 ∧ b.head? = some 10
  · right
    obtain ⟨h1, h2⟩ := hv
    cases b with
    | nil => cases h2
    | cons c b' =>
      have hc : c = 10 := by simpa using h2
      subst hc
      have hne : u ≠ [] := by rintro rfl; cases h1
      have e : u = u.dropLast ++ [13] := by
        have h3 := List.dropLast_concat_getLast hne
        rw [List.getLast?_eq_some_getLast hne, Option.some.injEq] at h1
        rw [h1] at h3
        exact h3.symm
      generalize u.dropLast = u0 at e
      subst e
      refine ⟨splitL b', rfl, ?_, ?_⟩
      · have := split_app (u := [10]) (v := b') (by simp) (by simp)
        rw [List.cons_append, List.nil_append] at this
        rw [this]
        rfl
      · have e1 : u0 ++ [13] ++ 10 :: b' = (u0 ++ [13, 10]) ++ b' := by simp
        have e2 : splitL (u0 ++ [13, 10]) = splitL (u0 ++ [13]) := by
          unfold splitL
          rw [norm_app u0 [13, 10] (by simp), norm_app u0 [13] (by simp)]
          rfl
        rw [e1, split_app (by simp [List.getLast?_append]) (by simp [List.getLast?_append]), e2]
  · exact .inl (split_app h hv)
theorem shG_ok {p : List Tp} {d : Nat} {q : List Tp × Nat × Nat × Int} (h : q.2.2.2 = 0) : shG p d q = (p ++ q.1, 0, 0, 0) := by unfold shG; rw [if_pos h]
theorem shG_no {p : List Tp} {d : Nat} {q : List Tp × Nat × Nat × Int} (h : q.2.2.2 ≠ 0) : shG p d q = ([], q.2.1 + d, q.2.2.1, q.2.2.2) := by unfold shG; rw [if_neg h]
theorem par_two {a gap : List UInt8} (b : List UInt8) (hg : gap ∈ gapsL) (ha : (parL a).2.2.2 = 0) :
    ((parL b).2.2.2 = 0 → parL (a ++ gap ++ b) = ((parL a).1 ++ (parL b).1, 0, 0, 0)) ∧
    ((parL b).2.2.2 ≠ 0 → ∃ n : Nat, parL (a ++ gap ++ b) = ([], n, (parL b).2.2.1, (parL b).2.2.2) ∧ (n = (parL b).2.1 + (splitL (a ++ gap)).length ∨ b.head? = some 10)) := by
  obtain ⟨bl, hb, es⟩ := split_gap a hg
  obtain ⟨hf, hpa⟩ := par_ok ha
  have hall : ∀ r ∈ splitL (a ++ gap), fine r := by
    intro r hr
    rw [es, List.mem_append] at hr
    rcases hr with hr | hr
    · exact hf r hr
    · exact bare_fine (hb r hr)
  have hok : okR (splitL (a ++ gap)) = (parL a).1 := by
    rw [es, okR_app, bare_ok hb, List.append_nil, hpa]
  have key : ∀ rb : List (List UInt8), goP (splitL (a ++ gap) ++ rb) 0 [] 0 = shG (parL a).1 (splitL (a ++ gap)).length (goP rb 0 [] 0) := by
    intro rb
    rw [goP_fine _ 0 [] rb hall, hok, List.nil_append, Nat.zero_add, goP_at]
  rcases split_two (a ++ gap) b (gap_end hg) with h | ⟨rb, h1, h2, h3⟩
  · have e : parL (a ++ gap ++ b) = shG (parL a).1 (splitL (a ++ gap)).length (parL b) := by
      unfold parL
      rw [h]
      exact key _
    exact ⟨fun h0 => by rw [e, shG_ok h0], fun h0 => ⟨_, by rw [e, shG_no h0], .inl rfl⟩⟩
  · have e : parL (a ++ gap ++ b) = shG (parL a).1 (splitL (a ++ gap)).length (goP rb 0 [] 0) := by
      show goP (splitL (a ++ gap ++ b)) 0 [] 0 = _
      rw [h3]
      exact key _
    have e2 : parL b = shG [] 1 (goP rb 0 [] 0) := by
      show goP (splitL b) 0 [] 0 = _
      rw [h2, ← goP_at]
      have := goP_fine [[]] 0 [] rb (fun r hr => by rw [List.mem_singleton] at hr; subst hr; exact bare_fine bare_nil)
      rw [List.cons_append, List.nil_append, bare_ok (bare_one (.inr rfl))] at this
      rw [this]
      rfl
    by_cases h0 : (goP rb 0 [] 0).2.2.2 = 0
    · rw [shG_ok h0] at e e2
      refine ⟨fun _ => by rw [e, e2, List.nil_append], fun h4 => ?_⟩
      rw [e2] at h4
      exact absurd rfl h4
    · rw [shG_no h0] at e e2
      refine ⟨fun h4 => ?_, fun _ => ⟨_, by rw [e, e2], .inr h1⟩⟩
      rw [e2] at h4
      exact absurd h4 h0
theorem join_two (r s sep : List UInt8) (t : List (List UInt8)) : Lib.join (r :: s :: t) sep = r ++ sep ++ Lib.join (s :: t) sep := by
  rw [Lib.join_cons, Lib.join_cons]
  simp [Lib.joinTail, List.append_assoc]
theorem cut_lens : ∀ l : List UInt8, Lib.lens (cutL l) ≤ l.length
  | [] => Nat.le_refl _
  | c :: r => by
    have ih := cut_lens r
    by_cases hc : c = 10
    · subst hc
      rw [cut_here]
      simp only [Lib.lens, List.map_cons, List.length_nil, List.sum_cons, List.length_cons] at ih ⊢
      omega
    · rw [cut_on r hc]
      cases hx : cutL r with
      | nil => simp [Lib.lens]
      | cons a0 t =>
        rw [hx] at ih
        simp only [Lib.lens, List.map_cons, List.sum_cons, List.length_cons] at ih ⊢
        omega
theorem join_size (l : List UInt8) {e : List UInt8} (he : e.length ≤ 2) : (Lib.join (splitL l) e).length ≤ 3 * l.length := by
  have h1 : Lib.lens (splitL l) ≤ l.length := Nat.le_trans (cut_lens _) (norm_size l)
  have h2 := (split_size l).1
  cases h : splitL l with
  | nil => simp [Lib.join_nil]
  | cons x r =>
    rw [h] at h1 h2
    rw [Lib.join_cons, List.length_append, Lib.joinTail_length]
    simp only [Lib.lens, List.map_cons, List.sum_cons, List.length_cons] at h1 h2 ⊢
    have h3 : e.length * r.length ≤ 2 * r.length := Nat.mul_le_mul_right _ he
    omega
/-- Ends of lines. -/
def endsL : List (List UInt8) := [[10], [13], [13, 10]]
theorem join_not10 : ∀ (rows : List (List UInt8)), (∀ r ∈ rows, ∀ b ∈ r, b ≠ 10 ∧ b ≠ 13) → ∀ b ∈ Lib.join rows [13], b ≠ (10 : UInt8)
  | [], _, b, hb => by cases hb
  | [r], h, b, hb => (h r (by simp) b (by rw [Lib.join_one] at hb; exact hb)).1
  | r :: s :: t, h, b, hb => by
    rw [join_two, List.mem_append, List.mem_append, List.mem_singleton] at hb
    rcases hb with (hb | hb) | hb
    · exact (h r (by simp) b hb).1
    · rw [hb]; decide
    · exact join_not10 (s :: t) (fun x hx => h x (by simp only [List.mem_cons] at hx ⊢; exact .inr hx)) b hb
theorem end_line {r e : List UInt8} (hr : ∀ b ∈ r, b ≠ 10 ∧ b ≠ 13) (he : e ∈ endsL) : splitL (r ++ e) = [r] := by
  have hn : normL (r ++ e) = r ++ [10] := by
    rw [norm_app r e (fun x => by
      have := List.mem_of_getLast? x.1
      exact (hr _ this).2 rfl), norm_same r (fun b hb => (hr b hb).2)]
    simp only [endsL, List.mem_cons, List.not_mem_nil, or_false] at he
    rcases he with rfl | rfl | rfl <;> rfl
  unfold splitL
  rw [hn, cut_line r [] (fun b hb => (hr b hb).1)]
  rfl
theorem split_join : ∀ (rows : List (List UInt8)) {e : List UInt8}, e ∈ endsL → (∀ r ∈ rows, ∀ b ∈ r, b ≠ 10 ∧ b ≠ 13) → ∃ bl, (∀ r ∈ bl, bare r) ∧ rows = splitL (Lib.join rows e) ++ bl
  | [], e, _, _ => ⟨[], bare_one (.inl rfl), rfl⟩
  | [r], e, _, h => by
    rw [Lib.join_one]
    by_cases h0 : r = []
    · subst h0
      exact ⟨[[]], bare_one (.inr rfl), rfl⟩
    · exact ⟨[], bare_one (.inl rfl), by rw [split_flat (h r (by simp)) h0]; rfl⟩
  | r :: s :: t, e, he, h => by
    obtain ⟨bl, hb, ih⟩ := split_join (s :: t) he (fun x hx => h x (by simp only [List.mem_cons] at hx ⊢; exact .inr hx))
    refine ⟨bl, hb, ?_⟩
    rw [join_two]
    have hl : (r ++ e).getLast? = some 10 ∨ (r ++ e).getLast? = some 13 := by
      simp only [endsL, List.mem_cons, List.not_mem_nil, or_false] at he
      rcases he with rfl | rfl | rfl <;> simp [List.getLast?_append]
    have hv : ¬ ((r ++ e).getLast? = some 13 ∧ (Lib.join (s :: t) e).head? = some 10) := by
      rintro ⟨x1, x2⟩
      have h13 : e = [13] := by
        simp only [endsL, List.mem_cons, List.not_mem_nil, or_false] at he
        rcases he with rfl | rfl | rfl
        · simp [List.getLast?_append] at x1
        · rfl
        · simp [List.getLast?_append] at x1
      subst h13
      exact join_not10 (s :: t) (fun x hx => h x (by simp only [List.mem_cons] at hx ⊢; exact .inr hx)) 10 (List.mem_of_mem_head? x2) rfl
    rw [split_app hl hv, end_line (h r (by simp)) he, List.append_assoc, ← ih]
    rfl
theorem par_join (a : List UInt8) {e : List UInt8} (he : e ∈ endsL) : parL (Lib.join (splitL a) e) = parL a := by
  obtain ⟨bl, hb, h⟩ := split_join (splitL a) he (fun r hr => split_mem hr)
  have := goP_bare hb (splitL (Lib.join (splitL a) e)) 0 [] 0
  rw [← h] at this
  exact this.symm
end Go.Proofs.YtffpgandgajihaaGreatDoor
namespace Go.Proofs.YtffpgandgajihaaGreatDoor
open Go Go.RowKit Um Fm Lx Tx

theorem goP_len : ∀ (rows : List (List UInt8)) (k : Nat) (acc : List Tp) (over : Nat), (goP rows k acc over).1.length ≤ acc.length + rows.length
  | [], k, acc, over => by
    rw [goP_nil]
    split
    · simp
    · simp
  | r :: rows, k, acc, over => by
    rw [goP_cons]
    split
    · simp
    · refine Nat.le_trans (goP_len rows _ _ _) ?_
      split
      · simp; omega
      · simp
theorem par_len (s : ByteArray) : (parL s.data.toList).1.length ≤ s.size := by
  have h1 := goP_len (splitL s.data.toList) 0 [] 0
  have h2 := (split_size s.data.toList).1
  rw [size_toList] at h2
  simp only [List.length_nil, Nat.zero_add] at h1
  exact Nat.le_trans h1 h2
theorem app_l10 (a b : ByteArray) : (a ++ b).data.toList = a.data.toList ++ b.data.toList := by
  rw [ByteArray.data_append, Array.toList_append]
def GapJ (w0 : World) (s : Value) (wx : World) : Prop := ∃ g : ByteArray, s = .string g ∧ g.size ≤ 5 ∧ Hid (g.data.toList ∈ gapsL) ∧ Below w0.heap.size w0 wx
def EndJ (w0 : World) (s : Value) (wx : World) : Prop := ∃ g : ByteArray, s = .string g ∧ g.size ≤ 2 ∧ Hid (g.data.toList ∈ endsL) ∧ Below w0.heap.size w0 wx
theorem gap0 : (⟨#[10]⟩ : ByteArray).data.toList ∈ gapsL := by simp [gapsL]
theorem gap1 : (⟨#[13, 10]⟩ : ByteArray).data.toList ∈ gapsL := by simp [gapsL]
theorem gap2 : (⟨#[10, 10]⟩ : ByteArray).data.toList ∈ gapsL := by simp [gapsL]
theorem gap3 : (⟨#[10, 35, 32, 114, 10]⟩ : ByteArray).data.toList ∈ gapsL := by simp [gapsL]
theorem gap4 : (⟨#[13, 32, 9, 13]⟩ : ByteArray).data.toList ∈ gapsL := by simp [gapsL]
theorem end0 : (⟨#[10]⟩ : ByteArray).data.toList ∈ endsL := by simp [endsL]
theorem end1 : (⟨#[13]⟩ : ByteArray).data.toList ∈ endsL := by simp [endsL]
theorem end2 : (⟨#[13, 10]⟩ : ByteArray).data.toList ∈ endsL := by simp [endsL]
theorem goP_line : ∀ (rows : List (List UInt8)) (k : Nat) (acc : List Tp) (over : Nat), over ≤ k → (goP rows k acc over).2.1 ≤ k + rows.length
  | [], k, acc, over, h => by
    rw [goP_nil]
    split
    · exact Nat.zero_le _
    · exact h
  | r :: rows, k, acc, over, h => by
    rw [goP_cons]
    split
    · simp
    · refine Nat.le_trans (goP_line rows _ _ _ ?_) (by simp; omega)
      split
      · exact Nat.le_refl _
      · omega
theorem par_line (s : ByteArray) : (parL s.data.toList).2.1 ≤ s.size := by
  have h1 := goP_line (splitL s.data.toList) 0 [] 0 (Nat.le_refl _)
  have h2 := (split_size s.data.toList).1
  rw [size_toList] at h2
  rw [Nat.zero_add] at h1
  exact Nat.le_trans h1 h2
theorem tpLs_one (x : List Tp) : ∀ u ∈ x.flatMap tpL, u.oneCell' = true := by
  intro u hu
  obtain ⟨t, _, h⟩ := List.mem_flatMap.1 hu
  exact tpL_one t u h
theorem join_at (rows : List (List UInt8)) (A : Option Addr) (c : Nat) (sep : ByteArray) (w : World) (hnc : rows.length ≤ c) (hr : Rd w A (rows.map fun r => Value.string (mkS r))) (hl : rows.length ≤ 1000000) (hj : (Lib.join rows sep.data.toList).length ≤ 1000000) :
    Calls Tryz.prog 20 #[.slice A rows.length c, .string sep] w fun e w' => e = .returned (.string (mkS (Lib.join rows sep.data.toList))) ∧ Below w.heap.size w w' := by
  by_cases h0 : rows = []
  · subst h0
    refine (Tryz.strings_Join_none A c sep w).mono ?_
    rintro e w' ⟨rfl, rfl⟩
    exact ⟨rfl, Below.refl _ _⟩
  · rcases hr with hn | ⟨g, o, rfl, hc⟩
    · exact absurd (List.map_eq_nil_iff.1 hn) h0
    · have hm : (rows.map mkS).map (·.data.toList) = rows := by
        rw [List.map_map]
        conv => rhs; rw [← List.map_id rows]
        exact List.map_congr_left fun r _ => mkS_data r
      have hlen : (rows.map mkS).length = rows.length := List.length_map _
      have hcells : ∀ (j : Nat) x, (rows.map mkS)[j]? = some x → w.cell? ⟨g, o + j, none⟩ = some (.string x) := fun j x hx => by
        refine hc j _ ?_
        rw [List.getElem?_map] at hx ⊢
        cases hq : rows[j]? with
        | none => rw [hq] at hx; cases hx
        | some r => rw [hq] at hx; cases hx; rfl
      have hg : g < w.heap.size := by
        cases hq : rows with
        | nil => exact absurd hq h0
        | cons r t => exact cell_lt (hc 0 (Value.string (mkS r)) (by rw [hq]; rfl))
      have := Tryz.strings_Join g o c (rows.map mkS) sep w hcells hg (by omega) (by omega) (by rw [hm]; omega)
      rw [hm, hlen] at this
      exact this
theorem pre10 {b : List UInt8} (h : b.head? = some 10) : Lib.hasPrefix b [10] = true := by
  cases b with
  | nil => cases h
  | cons c r =>
    have hc : c = 10 := by simpa using h
    subst hc
    simp [Lib.hasPrefix]
set_option maxRecDepth 20000 in
set_option maxHeartbeats 16000000 in
theorem lawLinesJoin (a b : ByteArray) (tn : Int) (w : World) (hC : CtxA w) (_hz0 : a.size ≤ 281474976710656) (_hz1 : b.size ≤ 281474976710656) : Calls Tryz.prog 6 #[.string a, .string b, .int .i64 tn] w fun e w' => e = .returned (.bool true) ∧ Below w.heap.size w w' := by
  have ha := lawAwake10 w hC
  have HC := Lib.hid hC
  clear hC
  by_cases hs : a.size ≤ 5000 ∧ b.size ≤ 5000
  · obtain ⟨hsa, hsb⟩ := hs
    have hd1 : decide ((5000 : Int) < a.size) = false := by simp; omega
    have hd2 : decide ((5000 : Int) < b.size) = false := by simp; omega
    have hpa := fun W (hW : CtxA W) => linesParse a W hW.l hW.t (by omega)
    have hpb := fun W (hW : CtxA W) => linesParse b W hW.l hW.t (by omega)
    have hpz := fun (c : ByteArray) (hc : c.size ≤ 100000) W (hW : CtxA W) => linesParse c W hW.l hW.t hc
    have hpk5 := fun W => kitPick10 tn 5 W (by decide) (by decide)
    have hpk3 := fun W => kitPick10 tn 3 W (by decide) (by decide)
    have hna := par_len a
    have hnb := par_len b
    unfold ParseR at hpa hpb hpz
    obtain ⟨ra, hra⟩ : ∃ r, parL a.data.toList = r := ⟨_, rfl⟩
    obtain ⟨rb, hrb⟩ : ∃ r, parL b.data.toList = r := ⟨_, rfl⟩
    rw [hra] at hpa hna
    rw [hrb] at hpb hnb
    obtain ⟨x, n1, m1, e1⟩ := ra
    obtain ⟨y, n2, m2, e2⟩ := rb
    simp only at hpa hpb hna hnb
    obtain ⟨N, hN⟩ : ∃ N, x.length = N := ⟨_, rfl⟩
    obtain ⟨M, hM⟩ : ∃ M, y.length = M := ⟨_, rfl⟩
    rw [hN] at hna
    rw [hM] at hnb
    simp only [hN] at hpa
    simp only [hM] at hpb
    have HN := Lib.hid hN
    have HM := Lib.hid hM
    have Hra := Lib.hid hra
    have Hrb := Lib.hid hrb
    have Hpa := Lib.hid hpa
    clear hN hM hra hrb
    go_enter Tryz.func6, Tryz.ntmps6
    go_wp2_with fail
    refine ha.mono ?_
    rintro e w1 ⟨rfl, hb1⟩
    have HC1 := Lib.hid (HC.out.step hb1)
    go_wp2_with fail
    refine (hpa w1 HC1.out).mono ?_
    rintro e w2 ⟨v2, rfl, own2, hb2⟩
    obtain ⟨A2, c2, rfl, hc2, r2⟩ := own_slice own2
    have HC2 := Lib.hid (HC1.out.step hb2)
    go_wp2_with fail
    refine (hpb w2 HC2.out).mono ?_
    rintro e w3 ⟨v3, rfl, own3, hb3⟩
    obtain ⟨A3, c3, rfl, hc3, r3⟩ := own_slice own3
    have HC3 := Lib.hid (HC2.out.step hb3)
    have HB3 := Lib.hid (below_tr (below_tr hb1 hb2) hb3)
    have HR3 := Lib.hid (And.intro (r2.later hb3) r3)
    clear own2 own3 r2 r3 hb1 hb2 hb3 hpa hpb ha
    go_upto_region 7 with (fail)
    go_cut [15] from 54 to 59 (fun s wx => GapJ w3 s wx)
    case first =>
        rename_i hJ hM
        go_wp2_with fail
        refine (hpk5 _).mono ?_
        rintro e w5 ⟨k, rfl, hk, rfl⟩
        have hb : Below w3.heap.size w3 (w3.alloc (.cells #[.string ⟨#[10]⟩, .string ⟨#[13, 10]⟩, .string ⟨#[10, 10]⟩, .string ⟨#[10, 35, 32, 114, 10]⟩, .string ⟨#[13, 32, 9, 13]⟩] 9)) := (Below.refl _ _).alloc (Nat.le_refl _) _
        have HB := Lib.hid hb
        clear hb
        rcases (show k = 0 ∨ k = 1 ∨ k = 2 ∨ k = 3 ∨ k = 4 by omega) with rfl | rfl | rfl | rfl | rfl
        · clear hk
          go_wp2
          refine Met.intro (hJ _ _ ?_)
          (repeat apply Exists.intro)
          refine ⟨?_, rfl⟩
          exact ⟨_, rfl, by decide, Lib.hid gap0, HB.out⟩
        · clear hk
          go_wp2
          refine Met.intro (hJ _ _ ?_)
          (repeat apply Exists.intro)
          refine ⟨?_, rfl⟩
          exact ⟨_, rfl, by decide, Lib.hid gap1, HB.out⟩
        · clear hk
          go_wp2
          refine Met.intro (hJ _ _ ?_)
          (repeat apply Exists.intro)
          refine ⟨?_, rfl⟩
          exact ⟨_, rfl, by decide, Lib.hid gap2, HB.out⟩
        · clear hk
          go_wp2
          refine Met.intro (hJ _ _ ?_)
          (repeat apply Exists.intro)
          refine ⟨?_, rfl⟩
          exact ⟨_, rfl, by decide, Lib.hid gap3, HB.out⟩
        · clear hk
          go_wp2
          refine Met.intro (hJ _ _ ?_)
          (repeat apply Exists.intro)
          refine ⟨?_, rfl⟩
          exact ⟨_, rfl, by decide, Lib.hid gap4, HB.out⟩
    obtain ⟨g, rfl, hg5, hgm, hb4⟩ := hcut
    have HC4 := Lib.hid (HC3.out.step hb4)
    have HB4 := Lib.hid (below_tr HB3.out hb4)
    have HR4 := Lib.hid (And.intro (HR3.out.1.later hb4) (HR3.out.2.later hb4))
    clear hb4
    have hzs : (a ++ g ++ b).size ≤ 100000 := by rw [ByteArray.size_append, ByteArray.size_append]; omega
    have hzl : (a ++ g ++ b).data.toList = a.data.toList ++ g.data.toList ++ b.data.toList := by rw [app_l10, app_l10]
    have hz := hpz (a ++ g ++ b) hzs wc HC4.out
    rw [hzl] at hz
    clear hzs hzl
    by_cases he1 : e1 = 0
    · subst he1
      obtain ⟨k1, k2⟩ := par_two b.data.toList hgm.out (by rw [Hra.out])
      rw [Hra.out, Hrb.out] at k1
      rw [Hrb.out] at k2
      by_cases he2 : e2 = 0
      · subst he2
        rw [k1 rfl] at hz
        simp only [List.length_append, HN.out, HM.out] at hz
        clear k1 k2
        go_wp2_with fail
        refine hz.mono ?_
        rintro e w5 ⟨v5, rfl, own5, hb5⟩
        obtain ⟨A5, c5, rfl, hc5, r5⟩ := own_slice own5
        have HC5 := Lib.hid (HC4.out.step hb5)
        have HB5 := Lib.hid (below_tr HB4.out hb5)
        have B1 : Below w5.heap.size w5 (w5.alloc (.cells #[] 37)) := (Below.refl _ _).alloc (Nat.le_refl _) _
        have own0 : (w5.alloc (.cells #[] 37)).ownsRow w5.heap.size 37 12 (.slice (some ⟨w5.heap.size, 0, none⟩) 0 0) 0 [] := own_new (Nat.le_refl _) rfl rfl (by omega)
        have ra6 := (HR4.out.1.later hb5).later B1
        have rb5 := HR4.out.2.later hb5
        have hlx : (x.flatMap tpL).length = N * 12 := by rw [tpL_len, HN.out]
        have hly : (y.flatMap tpL).length = M * 12 := by rw [tpL_len, HM.out]
        have HB1 := Lib.hid B1
        have R5 := Lib.hid r5
        clear B1 hb5 own5 r5
        go_wp2_with (first | (at_builtin; refine wpList_appW (m := N) rfl (by first | go_simp | simp [go_sem] | rfl) Tryz.underlying23 info_trip rfl (by omega) rfl own0 rfl ra6 hlx (tpLs_one x) (by omega) (by omega) (by simp) ?_; intro v6 w6 own6 hb6; rw [Nat.zero_add, List.nil_append] at own6; obtain ⟨A6, c6, rfl, _, _⟩ := own_slice own6; have rb7 := rb5.later (HB1.out.trans hb6); have HB6 := Lib.hid (HB1.out.trans hb6); clear own0 hb6 ra6 rb5) | (at_builtin; refine wpList_appW (m := M) rfl (by first | go_simp | simp [go_sem] | rfl) Tryz.underlying23 info_trip rfl (by omega) rfl own6 rfl rb7 hly (tpLs_one y) (by omega) (by omega) HB6.out.size ?_; intro v7 w7 own7 hb7; obtain ⟨A7, c7, rfl, _, r7⟩ := own_slice own7; rw [← List.flatMap_append] at r7; have HB7' := Lib.hid (HB6.out.trans hb7); have HR7 := Lib.hid r7; clear own6 own7 hb7 rb7 r7))
        have hst := kitSameTp (x ++ y) (N + M) A5 c5 A7 c7 w7 (by rw [List.length_append, HN.out, HM.out]) (by omega) (R5.out.later HB7'.out) HR7.out
        refine hst.mono ?_
        rintro e W6 ⟨rfl, hb8⟩
        have HC6 := Lib.hid (HC5.out.step (below_tr HB7'.out hb8))
        have HB6' := Lib.hid (below_tr HB5.out (below_tr HB7'.out hb8))
        clear HB6 hb8 hst
        have HB6 := HB6'
        clear HB6'

        go_upto_region 13 with (fail)
        go_cut [20] from 122 to 127 (fun s wx => EndJ W6 s wx)
        case first =>
            rename_i hJ hM
            go_wp2_with fail
            refine (hpk3 _).mono ?_
            rintro e w7 ⟨k, rfl, hk, rfl⟩
            have hb : Below W6.heap.size W6 (W6.alloc (.cells #[.string ⟨#[10]⟩, .string ⟨#[13]⟩, .string ⟨#[13, 10]⟩] 9)) := (Below.refl _ _).alloc (Nat.le_refl _) _
            have HB := Lib.hid hb
            clear hb
            rcases (show k = 0 ∨ k = 1 ∨ k = 2 by omega) with rfl | rfl | rfl
            · clear hk
              go_wp2
              refine Met.intro (hJ _ _ ?_)
              (repeat apply Exists.intro)
              refine ⟨?_, rfl⟩
              exact ⟨_, rfl, by decide, Lib.hid end0, HB.out⟩
            · clear hk
              go_wp2
              refine Met.intro (hJ _ _ ?_)
              (repeat apply Exists.intro)
              refine ⟨?_, rfl⟩
              exact ⟨_, rfl, by decide, Lib.hid end1, HB.out⟩
            · clear hk
              go_wp2
              refine Met.intro (hJ _ _ ?_)
              (repeat apply Exists.intro)
              refine ⟨?_, rfl⟩
              exact ⟨_, rfl, by decide, Lib.hid end2, HB.out⟩
        obtain ⟨d, rfl, hd2, hdm, hb7⟩ := hcut
        have HC7 := Lib.hid (HC6.out.step hb7)
        have HB7 := Lib.hid (below_tr HB6.out hb7)
        have hsp := linesSplit a wc HC7.out.1.1 (by omega)
        unfold SplitR at hsp
        have hjs : (Lib.join (splitL a.data.toList) d.data.toList).length ≤ 15000 := Nat.le_trans (join_size _ (by rw [size_toList]; exact hd2)) (by rw [size_toList]; omega)
        have hjp : parL (mkS (Lib.join (splitL a.data.toList) d.data.toList)).data.toList = (x, n1, m1, 0) := by rw [mkS_data, par_join _ hdm.out, Hra.out]
        have hpj := fun W (hW : CtxA W) => hpz (mkS (Lib.join (splitL a.data.toList) d.data.toList)) (by rw [mkS_size]; omega) W hW
        rw [hjp] at hpj
        simp only [HN.out] at hpj
        have hsl := (split_size a.data.toList).1
        rw [size_toList] at hsl
        have hjn := fun A c w hnc hr => join_at (splitL a.data.toList) A c d w hnc hr (by omega) (by omega)
        generalize mkS (Lib.join (splitL a.data.toList) d.data.toList) = J at *
        generalize (splitL a.data.toList).length = L at *
        clear hb7 hjs hjp hpz hpk3
        go_wp2_with fail
        refine hsp.mono ?_
        rintro e w8 ⟨v8, rfl, own8, hb8⟩
        obtain ⟨A8, c8, rfl, hc8, r8⟩ := own_slice own8
        have HC8 := Lib.hid (HC7.out.step hb8)
        have HB8 := Lib.hid (below_tr HB7.out hb8)
        clear own8 hb8
        go_wp2_with fail
        refine (hjn A8 c8 w8 hc8 r8).mono ?_
        rintro e w9 ⟨rfl, hb9⟩
        have HC9 := Lib.hid (HC8.out.step hb9)
        have HB9 := Lib.hid (below_tr HB8.out hb9)
        clear hb9 r8
        go_wp2_with fail
        refine (hpj w9 HC9.out).mono ?_
        rintro e w10 ⟨v10, rfl, own10, hb10⟩
        obtain ⟨A10, c10, rfl, hc10, r10⟩ := own_slice own10
        have HC10 := Lib.hid (HC9.out.step hb10)
        have HB10 := Lib.hid (below_tr HB9.out hb10)
        clear own10 hb10
        go_wp2_with fail
        refine (Hpa.out w10 HC10.out).mono ?_
        rintro e w11 ⟨v11, rfl, own11, hb11⟩
        obtain ⟨A11, c11, rfl, hc11, r11⟩ := own_slice own11
        have HB11 := Lib.hid (below_tr HB10.out hb11)
        have hst := kitSameTp x N A10 c10 A11 c11 w11 HN.out (by omega) (r10.later hb11) r11
        clear own11 hb11 r10 r11
        go_wp2_with fail
        refine hst.mono ?_
        rintro e w12 ⟨rfl, hb12⟩
        have HB12 := Lib.hid (below_tr HB11.out hb12)
        clear hb12 hst
        go_wp2
        go_ret
        exact ⟨by simp, HB12.out⟩
      · obtain ⟨n, h1, h2⟩ := k2 he2
        rw [h1] at hz
        simp only at hz
        simp only at h2
        clear k1 k2 h1
        have he2' : (e2 == (0 : Int)) = false := by simpa using he2
        go_wp2_with fail
        refine hz.mono ?_
        rintro e w5 ⟨v5, rfl, own5, hb5⟩
        obtain ⟨A5, c5, rfl, hc5, r5⟩ := own_slice own5
        have HC5 := Lib.hid (HC4.out.step hb5)
        have HB5 := Lib.hid (below_tr HB4.out hb5)
        have hsp := linesSplit (a ++ g) w5 HC5.out.1.1 (by rw [ByteArray.size_append]; omega)
        unfold SplitR at hsp
        have hRs := (split_size (a ++ g).data.toList).1
        rw [size_toList, ByteArray.size_append] at hRs
        rw [app_l10] at hsp hRs
        generalize (splitL (a.data.toList ++ g.data.toList)).length = R at *
        have hn2 := par_line b
        rw [Hrb.out] at hn2
        simp only at hn2
        clear hb5 own5 r5
        by_cases hn : n = n2 + R
        · subst hn
          go_wp2_with fail
          refine hsp.mono ?_
          rintro e W6 ⟨v6, rfl, own6, hb6⟩
          obtain ⟨A6, c6, rfl, hc6, -⟩ := own_slice own6
          have HC6 := Lib.hid (HC5.out.step hb6)
          have HB6 := Lib.hid (below_tr HB5.out hb6)
          clear own6 hb6 hsp
          go_upto_region 13 with (fail)
          go_cut [20] from 122 to 127 (fun s wx => EndJ W6 s wx)
          case first =>
              rename_i hJ hM
              go_wp2_with fail
              refine (hpk3 _).mono ?_
              rintro e w7 ⟨k, rfl, hk, rfl⟩
              have hb : Below W6.heap.size W6 (W6.alloc (.cells #[.string ⟨#[10]⟩, .string ⟨#[13]⟩, .string ⟨#[13, 10]⟩] 9)) := (Below.refl _ _).alloc (Nat.le_refl _) _
              have HB := Lib.hid hb
              clear hb
              rcases (show k = 0 ∨ k = 1 ∨ k = 2 by omega) with rfl | rfl | rfl
              · clear hk
                go_wp2
                refine Met.intro (hJ _ _ ?_)
                (repeat apply Exists.intro)
                refine ⟨?_, rfl⟩
                exact ⟨_, rfl, by decide, Lib.hid end0, HB.out⟩
              · clear hk
                go_wp2
                refine Met.intro (hJ _ _ ?_)
                (repeat apply Exists.intro)
                refine ⟨?_, rfl⟩
                exact ⟨_, rfl, by decide, Lib.hid end1, HB.out⟩
              · clear hk
                go_wp2
                refine Met.intro (hJ _ _ ?_)
                (repeat apply Exists.intro)
                refine ⟨?_, rfl⟩
                exact ⟨_, rfl, by decide, Lib.hid end2, HB.out⟩
          obtain ⟨d, rfl, hd2, hdm, hb7⟩ := hcut
          have HC7 := Lib.hid (HC6.out.step hb7)
          have HB7 := Lib.hid (below_tr HB6.out hb7)
          have hsp := linesSplit a wc HC7.out.1.1 (by omega)
          unfold SplitR at hsp
          have hjs : (Lib.join (splitL a.data.toList) d.data.toList).length ≤ 15000 := Nat.le_trans (join_size _ (by rw [size_toList]; exact hd2)) (by rw [size_toList]; omega)
          have hjp : parL (mkS (Lib.join (splitL a.data.toList) d.data.toList)).data.toList = (x, n1, m1, 0) := by rw [mkS_data, par_join _ hdm.out, Hra.out]
          have hpj := fun W (hW : CtxA W) => hpz (mkS (Lib.join (splitL a.data.toList) d.data.toList)) (by rw [mkS_size]; omega) W hW
          rw [hjp] at hpj
          simp only [HN.out] at hpj
          have hsl := (split_size a.data.toList).1
          rw [size_toList] at hsl
          have hjn := fun A c w hnc hr => join_at (splitL a.data.toList) A c d w hnc hr (by omega) (by omega)
          generalize mkS (Lib.join (splitL a.data.toList) d.data.toList) = J at *
          generalize (splitL a.data.toList).length = L at *
          clear hb7 hjs hjp hpz hpk3
          go_wp2_with fail
          refine hsp.mono ?_
          rintro e w8 ⟨v8, rfl, own8, hb8⟩
          obtain ⟨A8, c8, rfl, hc8, r8⟩ := own_slice own8
          have HC8 := Lib.hid (HC7.out.step hb8)
          have HB8 := Lib.hid (below_tr HB7.out hb8)
          clear own8 hb8
          go_wp2_with fail
          refine (hjn A8 c8 w8 hc8 r8).mono ?_
          rintro e w9 ⟨rfl, hb9⟩
          have HC9 := Lib.hid (HC8.out.step hb9)
          have HB9 := Lib.hid (below_tr HB8.out hb9)
          clear hb9 r8
          go_wp2_with fail
          refine (hpj w9 HC9.out).mono ?_
          rintro e w10 ⟨v10, rfl, own10, hb10⟩
          obtain ⟨A10, c10, rfl, hc10, r10⟩ := own_slice own10
          have HC10 := Lib.hid (HC9.out.step hb10)
          have HB10 := Lib.hid (below_tr HB9.out hb10)
          clear own10 hb10
          go_wp2_with fail
          refine (Hpa.out w10 HC10.out).mono ?_
          rintro e w11 ⟨v11, rfl, own11, hb11⟩
          obtain ⟨A11, c11, rfl, hc11, r11⟩ := own_slice own11
          have HB11 := Lib.hid (below_tr HB10.out hb11)
          have hst := kitSameTp x N A10 c10 A11 c11 w11 HN.out (by omega) (r10.later hb11) r11
          clear own11 hb11 r10 r11
          go_wp2_with fail
          refine hst.mono ?_
          rintro e w12 ⟨rfl, hb12⟩
          have HB12 := Lib.hid (below_tr HB11.out hb12)
          clear hb12 hst
          go_wp2
          go_ret
          exact ⟨by simp, HB12.out⟩
        · have hpre := pre10 (h2.resolve_left hn)
          have hn' : ((n : Int) == (n2 : Int) + (R : Int)) = false := by simp; omega
          go_wp2_with fail
          refine hsp.mono ?_
          rintro e W6 ⟨v6, rfl, own6, hb6⟩
          obtain ⟨A6, c6, rfl, hc6, -⟩ := own_slice own6
          have HC6 := Lib.hid (HC5.out.step hb6)
          have HB6 := Lib.hid (below_tr HB5.out hb6)
          clear own6 hb6 hsp
          have hpx := fun W => Tryz.strings_HasPrefix b ⟨#[10]⟩ W
          go_wp2_with fail
          refine (hpx _).mono ?_
          rintro e W7 ⟨rfl, hW⟩
          obtain rfl : W6 = W7 := hW.symm
          rw [hpre]
          go_upto_region 13 with (fail)
          go_cut [20] from 122 to 127 (fun s wx => EndJ W6 s wx)
          case first =>
              rename_i hJ hM
              go_wp2_with fail
              refine (hpk3 _).mono ?_
              rintro e w7 ⟨k, rfl, hk, rfl⟩
              have hb : Below W6.heap.size W6 (W6.alloc (.cells #[.string ⟨#[10]⟩, .string ⟨#[13]⟩, .string ⟨#[13, 10]⟩] 9)) := (Below.refl _ _).alloc (Nat.le_refl _) _
              have HB := Lib.hid hb
              clear hb
              rcases (show k = 0 ∨ k = 1 ∨ k = 2 by omega) with rfl | rfl | rfl
              · clear hk
                go_wp2
                refine Met.intro (hJ _ _ ?_)
                (repeat apply Exists.intro)
                refine ⟨?_, rfl⟩
                exact ⟨_, rfl, by decide, Lib.hid end0, HB.out⟩
              · clear hk
                go_wp2
                refine Met.intro (hJ _ _ ?_)
                (repeat apply Exists.intro)
                refine ⟨?_, rfl⟩
                exact ⟨_, rfl, by decide, Lib.hid end1, HB.out⟩
              · clear hk
                go_wp2
                refine Met.intro (hJ _ _ ?_)
                (repeat apply Exists.intro)
                refine ⟨?_, rfl⟩
                exact ⟨_, rfl, by decide, Lib.hid end2, HB.out⟩
          obtain ⟨d, rfl, hd2, hdm, hb7⟩ := hcut
          have HC7 := Lib.hid (HC6.out.step hb7)
          have HB7 := Lib.hid (below_tr HB6.out hb7)
          have hsp := linesSplit a wc HC7.out.1.1 (by omega)
          unfold SplitR at hsp
          have hjs : (Lib.join (splitL a.data.toList) d.data.toList).length ≤ 15000 := Nat.le_trans (join_size _ (by rw [size_toList]; exact hd2)) (by rw [size_toList]; omega)
          have hjp : parL (mkS (Lib.join (splitL a.data.toList) d.data.toList)).data.toList = (x, n1, m1, 0) := by rw [mkS_data, par_join _ hdm.out, Hra.out]
          have hpj := fun W (hW : CtxA W) => hpz (mkS (Lib.join (splitL a.data.toList) d.data.toList)) (by rw [mkS_size]; omega) W hW
          rw [hjp] at hpj
          simp only [HN.out] at hpj
          have hsl := (split_size a.data.toList).1
          rw [size_toList] at hsl
          have hjn := fun A c w hnc hr => join_at (splitL a.data.toList) A c d w hnc hr (by omega) (by omega)
          generalize mkS (Lib.join (splitL a.data.toList) d.data.toList) = J at *
          generalize (splitL a.data.toList).length = L at *
          clear hb7 hjs hjp hpz hpk3
          go_wp2_with fail
          refine hsp.mono ?_
          rintro e w8 ⟨v8, rfl, own8, hb8⟩
          obtain ⟨A8, c8, rfl, hc8, r8⟩ := own_slice own8
          have HC8 := Lib.hid (HC7.out.step hb8)
          have HB8 := Lib.hid (below_tr HB7.out hb8)
          clear own8 hb8
          go_wp2_with fail
          refine (hjn A8 c8 w8 hc8 r8).mono ?_
          rintro e w9 ⟨rfl, hb9⟩
          have HC9 := Lib.hid (HC8.out.step hb9)
          have HB9 := Lib.hid (below_tr HB8.out hb9)
          clear hb9 r8
          go_wp2_with fail
          refine (hpj w9 HC9.out).mono ?_
          rintro e w10 ⟨v10, rfl, own10, hb10⟩
          obtain ⟨A10, c10, rfl, hc10, r10⟩ := own_slice own10
          have HC10 := Lib.hid (HC9.out.step hb10)
          have HB10 := Lib.hid (below_tr HB9.out hb10)
          clear own10 hb10
          go_wp2_with fail
          refine (Hpa.out w10 HC10.out).mono ?_
          rintro e w11 ⟨v11, rfl, own11, hb11⟩
          obtain ⟨A11, c11, rfl, hc11, r11⟩ := own_slice own11
          have HB11 := Lib.hid (below_tr HB10.out hb11)
          have hst := kitSameTp x N A10 c10 A11 c11 w11 HN.out (by omega) (r10.later hb11) r11
          clear own11 hb11 r10 r11
          go_wp2_with fail
          refine hst.mono ?_
          rintro e w12 ⟨rfl, hb12⟩
          have HB12 := Lib.hid (below_tr HB11.out hb12)
          clear hb12 hst
          go_wp2
          go_ret
          exact ⟨by simp, HB12.out⟩
    · have he1' : (e1 == (0 : Int)) = false := by simpa using he1
      go_wp2_with fail
      refine hz.mono ?_
      rintro e W6 ⟨v5, rfl, own5, hb5⟩
      obtain ⟨A5, c5, rfl, hc5, -⟩ := own_slice own5
      have HC6 := Lib.hid (HC4.out.step hb5)
      have HB6 := Lib.hid (below_tr HB4.out hb5)
      go_upto_region 13 with (fail)
      go_cut [20] from 122 to 127 (fun s wx => EndJ W6 s wx)
      case first =>
          rename_i hJ hM
          go_wp2_with fail
          refine (hpk3 _).mono ?_
          rintro e w7 ⟨k, rfl, hk, rfl⟩
          have hb : Below W6.heap.size W6 (W6.alloc (.cells #[.string ⟨#[10]⟩, .string ⟨#[13]⟩, .string ⟨#[13, 10]⟩] 9)) := (Below.refl _ _).alloc (Nat.le_refl _) _
          have HB := Lib.hid hb
          clear hb
          rcases (show k = 0 ∨ k = 1 ∨ k = 2 by omega) with rfl | rfl | rfl
          · clear hk
            go_wp2
            refine Met.intro (hJ _ _ ?_)
            (repeat apply Exists.intro)
            refine ⟨?_, rfl⟩
            exact ⟨_, rfl, by decide, Lib.hid end0, HB.out⟩
          · clear hk
            go_wp2
            refine Met.intro (hJ _ _ ?_)
            (repeat apply Exists.intro)
            refine ⟨?_, rfl⟩
            exact ⟨_, rfl, by decide, Lib.hid end1, HB.out⟩
          · clear hk
            go_wp2
            refine Met.intro (hJ _ _ ?_)
            (repeat apply Exists.intro)
            refine ⟨?_, rfl⟩
            exact ⟨_, rfl, by decide, Lib.hid end2, HB.out⟩
      obtain ⟨d, rfl, hd2, hdm, hb7⟩ := hcut
      have HC7 := Lib.hid (HC6.out.step hb7)
      have HB7 := Lib.hid (below_tr HB6.out hb7)
      have hsp := linesSplit a wc HC7.out.1.1 (by omega)
      unfold SplitR at hsp
      have hjs : (Lib.join (splitL a.data.toList) d.data.toList).length ≤ 15000 := Nat.le_trans (join_size _ (by rw [size_toList]; exact hd2)) (by rw [size_toList]; omega)
      have hjp : parL (mkS (Lib.join (splitL a.data.toList) d.data.toList)).data.toList = (x, n1, m1, e1) := by rw [mkS_data, par_join _ hdm.out, Hra.out]
      have hpj := fun W (hW : CtxA W) => hpz (mkS (Lib.join (splitL a.data.toList) d.data.toList)) (by rw [mkS_size]; omega) W hW
      rw [hjp] at hpj
      simp only [HN.out] at hpj
      have hsl := (split_size a.data.toList).1
      rw [size_toList] at hsl
      have hjn := fun A c w hnc hr => join_at (splitL a.data.toList) A c d w hnc hr (by omega) (by omega)
      generalize mkS (Lib.join (splitL a.data.toList) d.data.toList) = J at *
      generalize (splitL a.data.toList).length = L at *
      clear hb7 hjs hjp hpz hpk3
      go_wp2_with fail
      refine hsp.mono ?_
      rintro e w8 ⟨v8, rfl, own8, hb8⟩
      obtain ⟨A8, c8, rfl, hc8, r8⟩ := own_slice own8
      have HC8 := Lib.hid (HC7.out.step hb8)
      have HB8 := Lib.hid (below_tr HB7.out hb8)
      clear own8 hb8
      go_wp2_with fail
      refine (hjn A8 c8 w8 hc8 r8).mono ?_
      rintro e w9 ⟨rfl, hb9⟩
      have HC9 := Lib.hid (HC8.out.step hb9)
      have HB9 := Lib.hid (below_tr HB8.out hb9)
      clear hb9 r8
      go_wp2_with fail
      refine (hpj w9 HC9.out).mono ?_
      rintro e w10 ⟨v10, rfl, own10, hb10⟩
      obtain ⟨A10, c10, rfl, hc10, r10⟩ := own_slice own10
      have HC10 := Lib.hid (HC9.out.step hb10)
      have HB10 := Lib.hid (below_tr HB9.out hb10)
      clear own10 hb10
      go_wp2_with fail
      refine (Hpa.out w10 HC10.out).mono ?_
      rintro e w11 ⟨v11, rfl, own11, hb11⟩
      obtain ⟨A11, c11, rfl, hc11, r11⟩ := own_slice own11
      have HB11 := Lib.hid (below_tr HB10.out hb11)
      have hst := kitSameTp x N A10 c10 A11 c11 w11 HN.out (by omega) (r10.later hb11) r11
      clear own11 hb11 r10 r11
      go_wp2_with fail
      refine hst.mono ?_
      rintro e w12 ⟨rfl, hb12⟩
      have HB12 := Lib.hid (below_tr HB11.out hb12)
      clear hb12 hst
      go_wp2
      go_ret
      exact ⟨by simp, HB12.out⟩
  · by_cases h1 : 5000 < a.size
    · have hd1 : decide ((5000 : Int) < a.size) = true := by simp; omega
      go_enter Tryz.func6, Tryz.ntmps6
      go_wp2_with fail
      refine ha.mono ?_
      rintro e w1 ⟨rfl, hb1⟩
      have HB1 := Lib.hid hb1
      clear hb1
      go_wp2
      go_ret
      exact ⟨rfl, HB1.out⟩
    · have hd1 : decide ((5000 : Int) < a.size) = false := by simp; omega
      have hd2 : decide ((5000 : Int) < b.size) = true := by simp; omega
      go_enter Tryz.func6, Tryz.ntmps6
      go_wp2_with fail
      refine ha.mono ?_
      rintro e w1 ⟨rfl, hb1⟩
      have HB1 := Lib.hid hb1
      clear hb1
      go_wp2
      go_ret
      exact ⟨rfl, HB1.out⟩
end Go.Proofs.YtffpgandgajihaaGreatDoor
