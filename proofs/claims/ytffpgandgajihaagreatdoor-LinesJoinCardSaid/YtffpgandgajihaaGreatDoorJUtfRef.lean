/- A text's lines, in plain words. The reference's functions of layer 7, walked. -/
import Derived.Lib.ReplaceLaws
import Derived.Lib.CountLaws
import Derived.Test.YtffpgandgajihaaGreatDoorJRegion
import Derived.Test.YtffpgandgajihaaGreatDoorJUtfProg3
namespace Go.Proofs.YtffpgandgajihaaGreatDoor.Lx
open Go

/-- Line ends made one. -/
def crlf1 : List UInt8 → List UInt8
  | [] => []
  | [c] => [c]
  | c :: d :: r => if c = 13 ∧ d = 10 then 10 :: crlf1 r else c :: crlf1 (d :: r)
def crB (c : UInt8) : UInt8 := if c = 13 then 10 else c
def normL (l : List UInt8) : List UInt8 := (crlf1 l).map crB
/-- The lines of a text whose lines end with 10. -/
def cutL : List UInt8 → List (List UInt8)
  | [] => []
  | c :: r => if c = 10 then [] :: cutL r else match cutL r with
    | [] => [[c]]
    | a :: t => (c :: a) :: t
theorem rep_cons {old new : List UInt8} {c : UInt8} {r : List UInt8} (h : old.isPrefixOf (c :: r) = false) (k : Nat) : Lib.replaceK old new k (c :: r) = c :: Lib.replaceK old new k r := by
  cases k with
  | zero => rfl
  | succ k =>
    have hi : Lib.index (c :: r) old = if Lib.index r old == -1 then -1 else Lib.index r old + 1 := by
      rw [Lib.index, h]; rfl
    rcases Lib.index_spec r old with ⟨h1, _⟩ | ⟨i, h1, _⟩
    · rw [h1] at hi
      rw [Lib.replaceK, Lib.replaceK, h1, hi]
      rfl
    · have e : Lib.index (c :: r) old = ((i + 1 : Nat) : Int) := by
        rw [hi, h1, if_neg (by simp)]
        omega
      rw [Lib.replaceK_hit old new k (c :: r) (i + 1) e, Lib.replaceK_hit old new k r i h1]
      rw [List.take_succ_cons, show i + 1 + old.length = (i + old.length) + 1 by omega, List.drop_succ_cons]
      rfl
theorem rep_hit {old new : List UInt8} (r : List UInt8) (h0 : old ≠ []) (k : Nat) : Lib.replaceK old new (k + 1) (old ++ r) = new ++ Lib.replaceK old new k r := by
  have e : Lib.index (old ++ r) old = ((0 : Nat) : Int) := by
    cases old with
    | nil => exact absurd rfl h0
    | cons a t =>
      rw [List.cons_append, Lib.index, if_pos (by simp [List.isPrefixOf])]
      rfl
  rw [Lib.replaceK_hit old new k _ 0 e]
  simp
theorem count_cons' {old : List UInt8} {c : UInt8} {r : List UInt8} (h0 : old ≠ []) (h : old.isPrefixOf (c :: r) = false) : Lib.count (c :: r) old = Lib.count r old := by
  have hi : Lib.index (c :: r) old = if Lib.index r old == -1 then -1 else Lib.index r old + 1 := by
    rw [Lib.index, h]; rfl
  rcases Lib.index_spec r old with ⟨h1, _⟩ | ⟨i, h1, _⟩
  · rw [h1] at hi
    rw [Lib.count_miss h1, Lib.count_miss (by rw [hi]; rfl)]
  · have e : Lib.index (c :: r) old = ((i + 1 : Nat) : Int) := by
      rw [hi, h1, if_neg (by simp)]
      omega
    rw [Lib.count_hit h0 e, Lib.count_hit h0 h1, show i + 1 + old.length = (i + old.length) + 1 by omega, List.drop_succ_cons]
theorem count_here {old : List UInt8} (r : List UInt8) (h0 : old ≠ []) : Lib.count (old ++ r) old = 1 + Lib.count r old := by
  have e : Lib.index (old ++ r) old = ((0 : Nat) : Int) := by
    cases old with
    | nil => exact absurd rfl h0
    | cons a t =>
      rw [List.cons_append, Lib.index, if_pos (by simp [List.isPrefixOf])]
      rfl
  rw [Lib.count_hit h0 e]
  simp
theorem repAll_eq {l old new : List UInt8} (h : old ≠ new) : Lib.replaceAll l old new = Lib.replaceK old new (Lib.count l old) l := by
  unfold Lib.replaceAll Lib.replace
  rw [if_neg (by simpa using h)]
  unfold Lib.replaceNum
  rw [if_pos (by left; omega)]
theorem rep_crlf : ∀ l : List UInt8, Lib.replaceAll l [13, 10] [10] = crlf1 l := by
  intro l
  rw [repAll_eq (by simp)]
  induction l using crlf1.induct with
  | case1 => rfl
  | case2 c =>
    have h : ([13, 10] : List UInt8).isPrefixOf [c] = false := by simp [List.isPrefixOf]
    rw [rep_cons h, count_cons' (by simp) h, crlf1]
    rfl
  | case3 c d r hc ih =>
    obtain ⟨rfl, rfl⟩ := hc
    rw [crlf1, if_pos ⟨rfl, rfl⟩, ← ih]
    rw [show (13 : UInt8) :: 10 :: r = [13, 10] ++ r from rfl, count_here r (by simp), Nat.add_comm, rep_hit r (by simp)]
    rfl
  | case4 c d r hc ih =>
    have h : ([13, 10] : List UInt8).isPrefixOf (c :: d :: r) = false := by
      simp only [List.isPrefixOf, Bool.and_true]
      rw [Bool.and_eq_false_iff, beq_eq_false_iff_ne, beq_eq_false_iff_ne]
      by_cases h1 : c = 13
      · exact .inr fun e => hc ⟨h1, e.symm⟩
      · exact .inl fun e => h1 e.symm
    rw [crlf1, if_neg hc, rep_cons h, count_cons' (by simp) h, ih]
theorem rep_cr : ∀ l : List UInt8, Lib.replaceAll l [13] [10] = l.map crB := by
  intro l
  rw [repAll_eq (by simp)]
  induction l with
  | nil => rfl
  | cons c r ih =>
    by_cases hc : c = 13
    · subst hc
      rw [show (13 : UInt8) :: r = [13] ++ r from rfl, count_here r (by simp), Nat.add_comm, rep_hit r (by simp), ih]
      rfl
    · have h : ([13] : List UInt8).isPrefixOf (c :: r) = false := by
        simp only [List.isPrefixOf, Bool.and_true]
        rw [beq_eq_false_iff_ne]
        exact fun e => hc e.symm
      rw [rep_cons h, count_cons' (by simp) h, ih, List.map_cons]
      unfold crB
      rw [if_neg hc]
theorem norm_eq (l : List UInt8) : Lib.replaceAll (Lib.replaceAll l [13, 10] [10]) [13] [10] = normL l := by
  rw [rep_cr, rep_crlf]; rfl
theorem cut_here (r : List UInt8) : cutL (10 :: r) = [] :: cutL r := by rw [cutL, if_pos rfl]
theorem cut_on {c : UInt8} (r : List UInt8) (h : c ≠ 10) : cutL (c :: r) = match cutL r with | [] => [[c]] | a :: t => (c :: a) :: t := by rw [cutL, if_neg h]
theorem cut_none : ∀ {l : List UInt8}, cutL l = [] → l = []
  | [], _ => rfl
  | c :: r, h => by
    by_cases hc : c = 10
    · subst hc; rw [cut_here] at h; cases h
    · rw [cut_on r hc] at h
      cases hr : cutL r <;> rw [hr] at h <;> cases h
theorem cut_line : ∀ (a r : List UInt8), (∀ b ∈ a, b ≠ 10) → cutL (a ++ 10 :: r) = a :: cutL r
  | [], r, _ => cut_here r
  | c :: t, r, h => by
    rw [List.cons_append, cut_on _ (h c (by simp)), cut_line t r (fun b hb => h b (by simp [hb]))]
theorem cut_last : ∀ (a : List UInt8), (∀ b ∈ a, b ≠ 10) → a ≠ [] → cutL a = [a]
  | [], _, h => absurd rfl h
  | c :: t, h, _ => by
    rw [cut_on _ (h c (by simp))]
    cases t with
    | nil => rfl
    | cons d r => rw [cut_last (d :: r) (fun b hb => h b (by simp only [List.mem_cons] at hb ⊢; exact .inr hb)) (by simp)]
/-- Ended: nothing, or something that ends with 10. -/
def Ended (u : List UInt8) : Prop := u = [] ∨ u.getLast? = some 10
theorem cut_app : ∀ (u v : List UInt8), Ended u → cutL (u ++ v) = cutL u ++ cutL v
  | [], v, _ => rfl
  | c :: r, v, h => by
    have hr : Ended r := by
      rcases h with h | h
      · cases h
      · cases r with
        | nil => exact .inl rfl
        | cons d s => right; rw [List.getLast?_cons_cons] at h; exact h
    have ih := cut_app r v hr
    by_cases hc : c = 10
    · subst hc; rw [List.cons_append, cut_here, cut_here, ih]; rfl
    · rw [List.cons_append, cut_on _ hc, cut_on _ hc, ih]
      have hne : r ≠ [] := by
        rintro rfl
        rcases h with h | h
        · cases h
        · simp at h; exact hc h
      cases hx : cutL r with
      | nil => exact absurd (cut_none hx) hne
      | cons a t => rfl
theorem cut_close : ∀ (v : List UInt8), ¬ Ended v → cutL (v ++ [10]) = cutL v
  | [], h => absurd (.inl rfl) h
  | c :: r, h => by
    by_cases hr : r = []
    · subst hr
      have hc : c ≠ 10 := fun e => h (.inr (by rw [e]; rfl))
      rw [List.cons_append, List.nil_append, cut_on _ hc, cut_on _ hc, cut_here]; rfl
    · have ih := cut_close r (fun e => h (by
        rcases e with e | e
        · exact absurd e hr
        · right
          cases r with
          | nil => exact absurd rfl hr
          | cons d s => rw [List.getLast?_cons_cons]; exact e))
      by_cases hc : c = 10
      · subst hc; rw [List.cons_append, cut_here, cut_here, ih]
      · rw [List.cons_append, cut_on _ hc, cut_on _ hc, ih]
theorem cut_mem : ∀ (l : List UInt8), ∀ a ∈ cutL l, ∀ b ∈ a, b ≠ 10 ∧ b ∈ l
  | [], a, h => by simp [cutL] at h
  | c :: r, a, h => by
    have ih := cut_mem r
    by_cases hc : c = 10
    · subst hc
      rw [cut_here, List.mem_cons] at h
      rcases h with rfl | h
      · intro b hb; cases hb
      · intro b hb
        have := ih a h b hb
        exact ⟨this.1, by simp [this.2]⟩
    · rw [cut_on r hc] at h
      cases hx : cutL r with
      | nil =>
        rw [hx] at h
        simp only [List.mem_cons, List.not_mem_nil, or_false] at h
        subst h
        intro b hb
        simp only [List.mem_cons, List.not_mem_nil, or_false] at hb
        subst hb
        exact ⟨hc, by simp⟩
      | cons a0 t =>
        rw [hx] at h ih
        simp only [List.mem_cons] at h
        intro b hb
        rcases h with rfl | h
        · rw [List.mem_cons] at hb
          rcases hb with rfl | hb
          · exact ⟨hc, by simp⟩
          · have := ih a0 (by simp) b hb
            exact ⟨this.1, by simp [this.2]⟩
        · have := ih a (by simp [h]) b hb
          exact ⟨this.1, by simp [this.2]⟩
theorem cut_size : ∀ (l : List UInt8), (cutL l).length ≤ l.length ∧ ∀ a ∈ cutL l, a.length ≤ l.length
  | [] => ⟨Nat.le_refl _, fun a h => by simp [cutL] at h⟩
  | c :: r => by
    obtain ⟨i1, i2⟩ := cut_size r
    by_cases hc : c = 10
    · subst hc
      rw [cut_here]
      refine ⟨by simp; omega, fun a h => ?_⟩
      rw [List.mem_cons] at h
      rcases h with rfl | h
      · simp
      · have := i2 a h; simp; omega
    · rw [cut_on r hc]
      cases hx : cutL r with
      | nil => exact ⟨by simp, fun a h => by simp only [List.mem_cons, List.not_mem_nil, or_false] at h; subst h; simp⟩
      | cons a0 t =>
        rw [hx] at i1 i2
        refine ⟨by simp at i1 ⊢; omega, fun a h => ?_⟩
        simp only [List.mem_cons] at h
        rcases h with rfl | h
        · have := i2 a0 (by simp); simp; omega
        · have := i2 a (by simp [h]); simp; omega
theorem crlf_app : ∀ (u v : List UInt8), ¬ (u.getLast? = some 13 ∧ v.head? = some 10) → crlf1 (u ++ v) = crlf1 u ++ crlf1 v := by
  intro u
  induction u using crlf1.induct with
  | case1 => intro v _; rfl
  | case2 c =>
    intro v h
    cases v with
    | nil => rfl
    | cons d r =>
      rw [List.cons_append, List.nil_append, crlf1, crlf1, if_neg]
      · rfl
      · rintro ⟨rfl, rfl⟩
        exact h ⟨rfl, rfl⟩
  | case3 c d r hc ih =>
    intro v h
    rw [List.cons_append, List.cons_append, crlf1, if_pos hc, crlf1, if_pos hc, ih v (fun e => h ⟨?_, e.2⟩)]
    · rfl
    · cases r with
      | nil => cases e.1
      | cons x y => rw [List.getLast?_cons_cons, List.getLast?_cons_cons]; exact e.1
  | case4 c d r hc ih =>
    intro v h
    rw [List.cons_append, List.cons_append, crlf1, if_neg hc, crlf1, if_neg hc]
    have := ih v (fun e => h ⟨by rw [List.getLast?_cons_cons]; exact e.1, e.2⟩)
    rw [List.cons_append] at this
    rw [this]
    rfl
theorem crlf_last : ∀ u : List UInt8, (crlf1 u).getLast? = u.getLast? := by
  intro u
  induction u using crlf1.induct with
  | case1 => rfl
  | case2 c => rfl
  | case3 c d r hc ih =>
    obtain ⟨rfl, rfl⟩ := hc
    rw [crlf1, if_pos ⟨rfl, rfl⟩, List.getLast?_cons_cons]
    cases r with
    | nil => rfl
    | cons x y =>
      rw [List.getLast?_cons_cons, ← ih]
      cases hx : crlf1 (x :: y) with
      | nil => rw [hx] at ih; simp [List.getLast?_cons] at ih
      | cons a b => rw [List.getLast?_cons_cons]
  | case4 c d r hc ih =>
    rw [crlf1, if_neg hc, List.getLast?_cons_cons, ← ih]
    cases hx : crlf1 (d :: r) with
    | nil => rw [hx] at ih; simp [List.getLast?_cons] at ih
    | cons a b => rw [List.getLast?_cons_cons]
theorem crlf_size : ∀ u : List UInt8, (crlf1 u).length ≤ u.length := by
  intro u
  induction u using crlf1.induct with
  | case1 => exact Nat.le_refl _
  | case2 c => exact Nat.le_refl _
  | case3 c d r hc ih => rw [crlf1, if_pos hc]; simp; omega
  | case4 c d r hc ih => rw [crlf1, if_neg hc]; simp at ih ⊢; omega
theorem norm_app (u v : List UInt8) (h : ¬ (u.getLast? = some 13 ∧ v.head? = some 10)) : normL (u ++ v) = normL u ++ normL v := by
  unfold normL
  rw [crlf_app u v h, List.map_append]
theorem norm_last (u : List UInt8) : (normL u).getLast? = u.getLast?.map crB := by
  unfold normL
  rw [List.getLast?_map, crlf_last]
theorem norm_ended {u : List UInt8} (h : u.getLast? = some 10 ∨ u.getLast? = some 13) : Ended (normL u) := by
  right
  rw [norm_last]
  rcases h with h | h <;> rw [h] <;> rfl
theorem norm_no (u : List UInt8) : ∀ b ∈ normL u, b ≠ 13 := by
  intro b hb
  unfold normL at hb
  obtain ⟨c, _, rfl⟩ := List.mem_map.1 hb
  unfold crB
  split
  · decide
  · assumption
theorem norm_same : ∀ u : List UInt8, (∀ b ∈ u, b ≠ 13) → normL u = u := by
  intro u h
  have e : crlf1 u = u := by
    induction u using crlf1.induct with
    | case1 => rfl
    | case2 c => rfl
    | case3 c d r hc ih => exact absurd hc.1 (h c (by simp))
    | case4 c d r hc ih => rw [crlf1, if_neg hc, ih (fun b hb => h b (by simp only [List.mem_cons] at hb ⊢; exact .inr hb))]
  unfold normL
  rw [e]
  conv => rhs; rw [← List.map_id u]
  apply List.map_congr_left
  intro b hb
  unfold crB
  rw [if_neg (h b hb)]; rfl
theorem norm_size (u : List UInt8) : (normL u).length ≤ u.length := by unfold normL; rw [List.length_map]; exact crlf_size u
def splitL (l : List UInt8) : List (List UInt8) := cutL (normL l)
theorem split_app {u v : List UInt8} (h : u.getLast? = some 10 ∨ u.getLast? = some 13) (hv : ¬ (u.getLast? = some 13 ∧ v.head? = some 10)) : splitL (u ++ v) = splitL u ++ splitL v := by
  unfold splitL
  rw [norm_app u v hv, cut_app _ _ (norm_ended h)]
theorem split_mem {l a : List UInt8} (h : a ∈ splitL l) : ∀ b ∈ a, b ≠ 10 ∧ b ≠ 13 := fun b hb => by
  have h1 := cut_mem _ a h b hb
  exact ⟨h1.1, norm_no l b h1.2⟩
theorem split_flat {a : List UInt8} (h : ∀ b ∈ a, b ≠ 10 ∧ b ≠ 13) (h0 : a ≠ []) : splitL a = [a] := by
  unfold splitL
  rw [norm_same a (fun b hb => (h b hb).2)]
  exact cut_last a (fun b hb => (h b hb).1) h0
theorem split_size (l : List UInt8) : (splitL l).length ≤ l.length ∧ ∀ a ∈ splitL l, a.length ≤ l.length := by
  have h1 := cut_size (normL l)
  have h2 := norm_size l
  exact ⟨by unfold splitL; omega, fun a ha => Nat.le_trans (h1.2 a ha) h2⟩
/-- An end behind a text closes its last line, or makes an empty one. -/
theorem cut_end (v : List UInt8) : cutL (v ++ [10]) = cutL v ∨ cutL (v ++ [10]) = cutL v ++ [[]] := by
  by_cases h : Ended v
  · right; rw [cut_app v [10] h]; rfl
  · exact .inl (cut_close v h)
theorem split_lf (a : List UInt8) : splitL (a ++ [10]) = splitL a ∨ splitL (a ++ [10]) = splitL a ++ [[]] := by
  by_cases h : a.getLast? = some 13
  · left
    have hne : a ≠ [] := by rintro rfl; cases h
    have e : a = a.dropLast ++ [13] := by
      have h1 := List.dropLast_concat_getLast hne
      rw [List.getLast?_eq_some_getLast hne, Option.some.injEq] at h
      rw [h] at h1
      exact h1.symm
    have e1 : normL (a ++ [10]) = normL a.dropLast ++ [10] := by
      rw [e, List.append_assoc, List.dropLast_concat]
      rw [norm_app _ _ (by simp)]
      rfl
    have e2 : normL a = normL a.dropLast ++ [10] := by
      conv => lhs; rw [e]
      rw [norm_app _ _ (by simp)]
      rfl
    unfold splitL
    rw [e1, e2]
  · unfold splitL
    rw [norm_app a [10] (fun e => h e.1)]
    exact cut_end _
theorem split_cr (a : List UInt8) : splitL (a ++ [13]) = splitL a ∨ splitL (a ++ [13]) = splitL a ++ [[]] := by
  unfold splitL
  rw [norm_app a [13] (by simp)]
  exact cut_end _
theorem split_crlf (a : List UInt8) : splitL (a ++ [13, 10]) = splitL a ∨ splitL (a ++ [13, 10]) = splitL a ++ [[]] := by
  unfold splitL
  rw [norm_app a [13, 10] (by simp)]
  exact cut_end _
end Go.Proofs.YtffpgandgajihaaGreatDoor.Lx
namespace Go.Proofs.YtffpgandgajihaaGreatDoor
open Go Go.RowKit Um

theorem refIs (n : Int) (w : World) :
    Calls Tryz.prog 162 #[.int .i64 n] w fun e w' => e = .returned (.bool (isB n)) ∧ w = w' := by
  go_enter Tryz.func162, Tryz.ntmps162
  go_wp2
  all_goals
    go_ret
    refine ⟨?_, rfl⟩
    simp [isB, *]
  all_goals omega

theorem refIn (n : Int) (l : List Int) (A : Option Addr) (c : Nat) (w : World) (hl : l.length ≤ 1000000) (hc : Rd w A (l.map (Value.int .i64))) :
    Calls Tryz.prog 167 #[.int .i64 n, .slice A l.length c] w fun e w' => e = .returned (.bool (inB n l)) ∧ w = w' := by
  go_enter Tryz.func167, Tryz.ntmps167
  go_wp2
  go_loop [5] (fun i => ∃ k : Nat, k ≤ l.length + 1 ∧ i = .int .i64 k ∧ Hid (inB n (l.drop k) = inB n l)) (fun i => l.length + 2 - (intOf i).toNat)
  case atStart => exact ⟨0, by omega, rfl, rfl⟩
  case round =>
    obtain ⟨k, hk, rfl, H⟩ := hrel
    by_cases hlt : k + 1 < l.length
    · obtain ⟨x, hx⟩ : ∃ x, l[k]? = some x := ⟨_, List.getElem?_eq_getElem (by omega)⟩
      obtain ⟨y, hy⟩ : ∃ x, l[k+1]? = some x := ⟨_, List.getElem?_eq_getElem (by omega)⟩
      have hd := inB_drop n x y l k hx hy
      rw [H.out] at hd
      have Hd := Lib.hid hd
      clear hd H
      obtain ⟨g, o, rfl, hcc⟩ := hc.resolve_left (by intro h; simp at h; subst h; simp at hx)
      have h0 := hcc k (.int .i64 x) (by simp [hx])
      have h1 := hcc (k+1) (.int .i64 y) (by simp [hy])
      clear hx hy hc hcc
      go_wp2
      · go_ret
        exact ⟨by rw [Hd.out]; simp [*], rfl⟩
      · go_round
        case rel => exact ⟨k+2, by omega, by go_num, by show _ = _; rw [Hd.out]; simp; omega⟩
        case measure => simp [intOf]; omega
      · go_round
        case rel => exact ⟨k+2, by omega, by go_num, by show _ = _; rw [Hd.out]; simp; omega⟩
        case measure => simp [intOf]; omega
    · have he := inB_end n l k hlt
      rw [H.out] at he
      have Hd := Lib.hid he
      clear he H
      go_wp2
      go_ret
      exact ⟨by rw [Hd.out]; rfl, rfl⟩

theorem refFirst (n : Int) (w : World) :
    Calls Tryz.prog 166 #[.int .i64 n] w fun e w' => e = .returned (.bool (firstB n)) ∧ Below w.heap.size w w' := by
  have hin := fun W hW => refIn n firstL (some ⟨w.heap.size, 0, none⟩) 28 W (by decide) hW
  go_enter Tryz.func166, Tryz.ntmps166
  go_wp2_with (go_at_call 167; refine (hin _ ?_).mono ?_; exact Rd.of_block (heap_alloc_new w _) rfl; rintro e w' ⟨rfl, rfl⟩)
  go_ret
  exact ⟨rfl, (Below.refl _ _).alloc (Nat.le_refl _) _⟩

theorem refLetter (n : Int) (w : World) :
    Calls Tryz.prog 168 #[.int .i64 n] w fun e w' => e = .returned (.bool (letterB n)) ∧ Below w.heap.size w w' := by
  have hf := refFirst n w
  have hin := fun (W : World) (g : Nat) hW => refIn n letterL (some ⟨g, 0, none⟩) 14 W (by decide) hW
  unfold letterB
  generalize firstB n = b at hf
  go_enter Tryz.func168, Tryz.ntmps168
  cases b
  · go_wp2_with (first
      | (go_at_call 166; refine hf.mono ?_; rintro e w1 ⟨rfl, hb⟩)
      | (go_at_call 167; refine (hin _ _ ?_).mono ?_; exact Rd.of_block (heap_alloc_new w1 _) rfl; rintro e w' ⟨rfl, rfl⟩))
    go_ret
    exact ⟨by simp, hb.alloc hb.size _⟩
  · go_wp2_with (first
      | (go_at_call 166; refine hf.mono ?_; rintro e w1 ⟨rfl, hb⟩))
    go_ret
    exact ⟨by simp, hb⟩

/-- The bytes of a sign, in a block of their own. -/
theorem refBytes (n : Int) (w : World) (hn : isB n = true) :
    Calls Tryz.prog 163 #[.int .i64 n] w fun e w' => e = .returned (.slice (some ⟨w.heap.size, 0, none⟩) (Lib.runeCells n).length (Lib.runeCells n).length) ∧
      w' = w.alloc (.cells (Lib.runeCells n).toArray 5) := by
  rw [isB_iff] at hn
  obtain ⟨⟨h0, h9⟩, hs⟩ := hn
  by_cases c1 : n ≤ 127
  · have e := Lib.encodeRuneZ_one h0 c1
    unfold Lib.runeCells
    rw [e]
    clear e hs
    go_enter Tryz.func163, Tryz.ntmps163
    go_wp2
    go_ret
    exact ⟨rfl, rfl⟩
  · by_cases c2 : n ≤ 2047
    · have e := Lib.encodeRuneZ_two (by omega : 128 ≤ n) c2
      unfold Lib.runeCells
      rw [e]
      clear e hs
      go_enter Tryz.func163, Tryz.ntmps163
      go_wp2
      go_ret
      exact ⟨rfl, rfl⟩
    · by_cases c3 : n ≤ 65535
      · have e := Lib.encodeRuneZ_three (r := n) (by omega)
        unfold Lib.runeCells
        rw [e]
        clear e hs
        go_enter Tryz.func163, Tryz.ntmps163
        go_wp2
        go_ret
        exact ⟨rfl, rfl⟩
      · have e := Lib.encodeRuneZ_four (r := n) (by omega) (by omega)
        unfold Lib.runeCells
        rw [e]
        clear e hs
        go_enter Tryz.func163, Tryz.ntmps163
        go_wp2
        go_ret
        exact ⟨rfl, rfl⟩
def encS (n : Int) : ByteArray := ⟨(Lib.encodeRune n).toArray⟩
theorem encS_toList (n : Int) : (encS n).toList = Lib.encodeRune n := by unfold encS; rw [ByteArray.toList_mk]

theorem runeCells_nums (n : Int) : Lib.runeCells n = (Lib.encodeRuneZ n).map (Value.int .u8) := rfl

theorem refBytesStr (n : Int) (w : World) (hn : isB n = true) :
    Calls Tryz.prog 163 #[.int .i64 n] w fun e w' => ∃ g, e = .returned (.slice (some ⟨g, 0, none⟩) (Lib.runeCells n).length (Lib.runeCells n).length) ∧
      Below w.heap.size w w' ∧ (∀ W, Below w'.heap.size w' W → (convert 67 9 (.slice (some ⟨g, 0, none⟩) (Lib.runeCells n).length (Lib.runeCells n).length)).run Tryz.prog W = .ok (.string (encS n)) W) := by
  refine (refBytes n w hn).mono ?_
  rintro e w' ⟨rfl, rfl⟩
  refine ⟨_, rfl, (Below.refl _ _).alloc (Nat.le_refl _) _, ?_⟩
  intro W hW
  have := run_convert_bytes_arg (P := Tryz.prog) W 67 5 Tryz.underlying67 Tryz.underlying5 w.heap.size 0
    (Lib.runeCells n).length (Lib.runeCells n).length (Lib.encodeRuneZ n) (by simp [Lib.runeCells]) ?_ 9 Tryz.underlying9
  · rw [this]
    congr 2
  · intro i hi
    have hb : (w.alloc (.cells (Lib.runeCells n).toArray 5)).heap[w.heap.size]? = some (.cells (Lib.runeCells n).toArray 5) := heap_alloc_new w _
    rw [← hW.block w.heap.size (by simp)] at hb
    simp only [World.cell?, hb, Nat.zero_add]
    simp [Lib.runeCells] at hi ⊢
    simp [hi]

theorem cand_bn (s : ByteArray) (k : Nat) :
    cand (from_ s k) 1 = bn s k ∧ cand (from_ s k) 2 = 64 * (bn s k - 192) + bn s (k+1) - 128 ∧
    cand (from_ s k) 3 = 64 * (64 * (bn s k - 224) + bn s (k+1) - 128) + bn s (k+2) - 128 ∧
    cand (from_ s k) 4 = 64 * (64 * (64 * (bn s k - 240) + bn s (k+1) - 128) + bn s (k+2) - 128) + bn s (k+3) - 128 := by
  simp only [cand, from_, bn_drop, Nat.add_zero, and_self]

/-- A candidate is right just if nx says so. -/
theorem cand_yes (l : List UInt8) (k : Nat) (_h1 : 1 ≤ k) (hk : k ≤ l.length) (h : isB (cand l k) = true ∧ l.take k = Lib.encodeRune (cand l k)) : nx l = ((cand l k).toNat, k) :=
  nx_of_enc _ l h.1 k h.2 hk
theorem cand_no (l : List UInt8) (k : Nat) (h1 : 1 ≤ k) (h : ¬ (isB (cand l k) = true ∧ l.take k = Lib.encodeRune (cand l k))) : (nx l).2 ≠ k := by
  intro e
  apply h
  have := nx_enc l (by omega)
  rw [e] at this
  rw [this.2.2.2.1]
  exact ⟨this.1, this.2.2.1⟩
end Go.Proofs.YtffpgandgajihaaGreatDoor
