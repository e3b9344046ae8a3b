/- A region that draws its order, one operation of which (L) may write to whatever block: what is moved ahead of it stands before it, by a path of edges, or comes after it is listed. -/
import Derived.Test.YtfijpdmkdoccjaaGreatDoorJRegion4
namespace Go.Proofs.YtfijpdmkdoccjaaGreatDoor.Rn
open Go Go.Sort Go.RowKit Rg Rh Rf Rl

section
variable {P : Program} {ops : Array Oper}

/-- What stands behind i (edges point down). -/
def behind (ops : Array Oper) (i : Nat) : List Nat := (List.range ops.size).foldl (fun S k => match ops[k]? with
  | none => S
  | some o => if o.after.any fun e => Region.binds .any e && S.contains e.on then k :: S else S) [i]
def BehindOK (ops : Array Oper) (i : Nat) (S : List Nat) : Prop := ∀ k ∈ S, k = i ∨ ∃ (o : Oper) (e : Edge), ops[k]? = some o ∧ e ∈ o.after ∧ Region.binds .any e = true ∧ e.on ∈ S
theorem behind_ok (i : Nat) : BehindOK ops i (behind ops i) := by
  unfold behind
  suffices h : ∀ (l : List Nat) (S : List Nat), BehindOK ops i S → BehindOK ops i (l.foldl (fun S k => match ops[k]? with
      | none => S
      | some o => if o.after.any fun e => Region.binds .any e && S.contains e.on then k :: S else S) S) from
    h _ _ (fun k hk => .inl (by simpa using hk))
  intro l
  induction l with
  | nil => exact fun S h => h
  | cons k l ih =>
    intro S h
    rw [List.foldl_cons]
    refine ih _ ?_
    split
    · exact h
    · rename_i o ho
      split
      · rename_i hany
        obtain ⟨e, he, hb⟩ := Array.any_eq_true'.1 hany
        rw [Bool.and_eq_true] at hb
        have hm : e.on ∈ S := by simpa using hb.2
        intro k' hk'
        rcases List.mem_cons.1 hk' with rfl | hk'
        · exact .inr ⟨o, e, ho, he, hb.1, List.mem_cons_of_mem _ hm⟩
        · rcases h k' hk' with h1 | ⟨o', e', h1, h2, h3, h4⟩
          · exact .inl h1
          · exact .inr ⟨o', e', h1, h2, h3, List.mem_cons_of_mem _ h4⟩
      · exact h
/-- While i is open, L can't run: L is listed, or stands behind i. -/
def Holds (ops : Array Oper) (L i : Nat) (listed : Array Bool) : Prop := listed.getD L true = true ∨ ∃ S, BehindOK ops i S ∧ L ∈ S ∧ L ≠ i ∧ ∀ k ∈ S, listed.getD k true = false
def holdsB (ops : Array Oper) (L i : Nat) (listed : Array Bool) : Bool := listed.getD L true || ((behind ops i).contains L && L != i && (behind ops i).all fun k => !listed.getD k true)
theorem holds_of {L i : Nat} {listed : Array Bool} (h : holdsB ops L i listed = true) : Holds ops L i listed := by
  unfold holdsB at h
  simp only [Bool.or_eq_true, Bool.and_eq_true, bne_iff_ne, ne_eq, List.all_eq_true, Bool.not_eq_true', List.contains_iff_mem] at h
  rcases h with h | ⟨⟨h1, h2⟩, h3⟩
  · exact .inl h
  · exact .inr ⟨_, behind_ok i, h1, h2, h3⟩
theorem Holds.open_ {L i j : Nat} {listed : Array Bool} (h : Holds ops L i listed) (_hji : j ≠ i) (hj : j ∈ Region.ready .any ops listed) : j ≠ L := by
  obtain ⟨hjun, oj, hoj, hall⟩ := mem_ready.1 hj
  rcases h with h | ⟨S, hS, hL, hLi, hun⟩
  · rintro rfl; rw [hjun] at h; cases h
  · rintro rfl
    rcases hS _ hL with h | ⟨o, e, ho, he, hb, hm⟩
    · exact hLi h
    · rw [hoj] at ho; injection ho with ho; subst ho
      have := hun _ hm
      rcases Nat.lt_or_ge e.on listed.size with h' | h'
      · have h1 := hall e he hb
        simp [h'] at h1 this; rw [h1] at this; cases this
      · simp [Array.getElem?_eq_none h'] at this
theorem Holds.set {L i j : Nat} {listed : Array Bool} (h : Holds ops L i listed) (hji : j ≠ i) (hj : j ∈ Region.ready .any ops listed) : Holds ops L i (listed.setIfInBounds j true) := by
  obtain ⟨hjun, oj, hoj, hall⟩ := mem_ready.1 hj
  rcases h with h | ⟨S, hS, hL, hLi, hun⟩
  · refine .inl ?_
    by_cases hjL : j = L
    · subst hjL; rw [hjun] at h; cases h
    · rw [getD_set_ne true hjL]; exact h
  · refine .inr ⟨S, hS, hL, hLi, fun k hk => ?_⟩
    have hjS : j ∉ S := fun hm => by
      rcases hS _ hm with h | ⟨o, e, ho, he, hb, hm⟩
      · exact hji h
      · rw [hoj] at ho; injection ho with ho; subst ho
        have := hun _ hm
        rcases Nat.lt_or_ge e.on listed.size with h' | h'
        · have h1 := hall e he hb
          simp [h'] at h1 this; rw [h1] at this; cases this
        · simp [Array.getElem?_eq_none h'] at this
    have hne : j ≠ k := fun e => hjS (e ▸ hk)
    rw [getD_set_ne true hne]; exact hun k hk

theorem first5 {B L : Nat} {Q : Act → World → Prop} {i : Nat} {oi : Oper} {v : Value} (hi : ops[i]? = some oi) (hsel : ∀ (j : Nat) (o : Oper) cs b, ops[j]? = some o → o.op ≠ .select cs b) :
    ∀ (fuel : Nat) (listed : Array Bool) (a : Act) (w : World),
      (∀ j oj, ops[j]? = some oj → j ≠ i → listed.getD j true = false → (∀ e ∈ oj.after, Region.binds .any e = true → e.on ≠ i) → oi.apart ops oj = true) →
      Holds ops L i listed → i ∈ Region.ready .any ops listed → YB P ops B oi v a w →
      AnyL P ops B L Q fuel (listed.setIfInBounds i true) (a.put oi.dst v) w → AnyL P ops B L Q (fuel + 1) listed a w := by
  intro fuel
  induction fuel with
  | zero =>
    intro listed a w _ _ hr hy H
    refine ⟨fun h => (by rw [h] at hr; cases hr), fun j hj => ?_⟩
    by_cases hji : j = i
    · subst hji; exact hy.wpOp hi ⟨.inr (Below.refl _ _), H⟩
    · have := ready_mono hj hji
      rw [H.1] at this
      cases this
  | succ fuel ih =>
    intro listed a w hfree hho hr hy H
    refine ⟨fun h => (by rw [h] at hr; cases hr), fun j hj => ?_⟩
    by_cases hji : j = i
    · subst hji; exact hy.wpOp hi ⟨.inr (Below.refl _ _), H⟩
    · have hjL : j ≠ L := hho.open_ hji hj
      have h1 := H.2 j (ready_mono hj hji)
      obtain ⟨hjun, oj, hoj, hall⟩ := mem_ready.1 hj
      have hnot : ∀ e ∈ oj.after, Region.binds .any e = true → e.on ≠ i := fun e he hb heq => by
        have h1 := hall e he hb
        have h0 := (mem_ready.1 hr).1
        rw [heq] at h1
        rcases Nat.lt_or_ge i listed.size with h' | h'
        · simp [h'] at h0 h1; rw [h0] at h1; cases h1
        · simp [Array.getElem?_eq_none h'] at h1
      have h2 := wpOp_putB hoj (hfree j oj hoj hji hjun hnot) (fun cs b => hsel i oi cs b hi) (fun cs b => hsel j oj cs b hoj) hy h1
      have hfree' : ∀ k ok, ops[k]? = some ok → k ≠ i → (listed.setIfInBounds j true).getD k true = false →
          (∀ e ∈ ok.after, Region.binds .any e = true → e.on ≠ i) → oi.apart ops ok = true := fun k ok hk hki hun hno => by
        refine hfree k ok hk hki ?_ hno
        by_cases hjk : j = k
        · subst hjk; exact hjun
        · rw [getD_set_ne true hjk] at hun; exact hun
      refine wpOp_mono (fun a' W' h3 => ?_) h2
      obtain ⟨hy', hb1, h4⟩ := h3
      have hb1' := hb1.resolve_left hjL
      refine ⟨hb1, ih (listed.setIfInBounds j true) a' W' hfree' (hho.set hji hj) (ready_mono hr (Ne.symm hji)) (hy'.later hb1') ?_⟩
      rw [Array.setIfInBounds_comm _ _ hji]
      exact h4

def holdSeq (ops : Array Oper) (L : Nat) : List Nat → Array Bool → Bool
  | [], _ => true
  | i :: is, l => holdsB ops L i l && holdSeq ops L is (l.setIfInBounds i true)
theorem quiet_sound5 {B L : Nat} {Q : Act → World → Prop} (hs : Region.noSelect ops = true) {w : World} {K : Act → Prop} {fuel : Nat} {l' : Array Bool} (hK : ∀ a, K a → AnyL P ops B L Q fuel l' a w) :
    ∀ (is : List Nat) (listed : Array Bool) (a : Act), quietSeq ops is listed = some l' → holdSeq ops L is listed = true → wpQuiet P ops (ClsB B w) K (pickOps ops is) a → AnyL P ops B L Q (is.length + fuel) listed a w
  | [], listed, a, hq, _, h => by
    simp only [quietSeq, Option.some.injEq] at hq
    subst hq
    simp only [List.length_nil, Nat.zero_add]
    exact hK a h
  | i :: is, listed, a, hq, hh, h => by
    simp only [holdSeq, Bool.and_eq_true] at hh
    simp only [quietSeq] at hq
    split at hq
    case isFalse => cases hq
    rename_i hc
    simp only [Bool.and_eq_true] at hc
    obtain ⟨⟨hr, hf⟩, hb⟩ := hc
    cases ho : ops[i]? with
    | none => simp [ho] at hb
    | some o =>
      simp only [ho, Option.map_some, Option.getD_some] at hb
      simp only [pickOps, List.map_cons, ho, Option.getD_some] at h
      obtain ⟨v, hy, hn⟩ := yb_of_quiet (K := wpQuiet P ops (ClsB B w) K (pickOps ops is)) hb h
      have := quiet_sound5 hs hK is _ _ hq hh.2 hn
      rw [List.length_cons, Nat.add_right_comm]
      exact first5 ho (Region.noSelect_spec hs) _ listed a w (Region.free_spec ho hf) (holds_of hh.1) (by simpa using hr) hy this

/-- The steps: readers (0), one operation alone (1), the one that writes (2). -/
def wpSteps5 (P : Program) (ops : Array Oper) (B : Nat) (Q : Act → World → Prop) : List (Nat × List Oper) → Act → World → Prop
  | [], a, w => Q a w
  | (0, l) :: r, a, w => wpQuiet P ops (ClsB B w) (fun a' => wpSteps5 P ops B Q r a' w) l a
  | (1, l) :: r, a, w => wpList P ops (Exit.then (fun a' W' => Below B w W' ∧ wpSteps5 P ops B Q r a' W') Bot) l a w
  | (_ + 2, l) :: r, a, w => wpList P ops (Exit.then (fun a' W' => wpSteps5 P ops B Q r a' W') Bot) l a w
theorem st_quiet {B : Nat} {Q : Act → World → Prop} {l : List Oper} {r : List (Nat × List Oper)} {a : Act} {w : World} (h : wpQuiet P ops (ClsB B w) (fun a' => wpSteps5 P ops B Q r a' w) l a) : wpSteps5 P ops B Q ((0, l) :: r) a w := h
theorem st_one {B : Nat} {Q : Act → World → Prop} {l : List Oper} {r : List (Nat × List Oper)} {a : Act} {w : World} (h : wpList P ops (Exit.then (fun a' W' => Below B w W' ∧ wpSteps5 P ops B Q r a' W') Bot) l a w) : wpSteps5 P ops B Q ((1, l) :: r) a w := h
theorem st_free {B : Nat} {Q : Act → World → Prop} {l : List Oper} {r : List (Nat × List Oper)} {a : Act} {w : World} (h : wpList P ops (Exit.then (fun a' W' => wpSteps5 P ops B Q r a' W') Bot) l a w) : wpSteps5 P ops B Q ((2, l) :: r) a w := h
theorem st_done {B : Nat} {Q : Act → World → Prop} {a : Act} {w : World} (h : Q a w) : wpSteps5 P ops B Q [] a w := h
def st5 (ops : Array Oper) (L : Nat) : List (Nat × List Nat) → Array Bool → Bool
  | [], l => (Region.ready .any ops l).isEmpty
  | (0, is) :: r, l => match quietSeq ops is l with | some l' => holdSeq ops L is l && st5 ops L r l' | none => false
  | (1, [i]) :: r, l => (Region.ready .any ops l == [i]) && (ops[i]?).isSome && st5 ops L r (l.setIfInBounds i true)
  | (2, [i]) :: r, l => (i == L) && (Region.ready .any ops l == [i]) && (ops[i]?).isSome && st5 ops L r (l.setIfInBounds i true)
  | _, _ => false
def len5 : List (Nat × List Nat) → Nat
  | [] => 0
  | x :: r => x.2.length + len5 r
def ok5 (ops : Array Oper) (L : Nat) (p : List (Nat × List Nat)) : Bool := Region.noSelect ops && st5 ops L p (Array.replicate ops.size false) && (len5 p == ops.size)
theorem st_sound5 {B L : Nat} {Q : Act → World → Prop} (hs : Region.noSelect ops = true) : ∀ (p : List (Nat × List Nat)) (listed : Array Bool) (a : Act) (w : World),
    st5 ops L p listed = true → wpSteps5 P ops B Q (p.map fun x => (x.1, pickOps ops x.2)) a w → AnyL P ops B L Q (len5 p) listed a w
  | [], listed, a, w, hB, h => by
    simp only [st5, List.isEmpty_iff] at hB
    exact ⟨hB, h⟩
  | (0, is) :: r, listed, a, w, hB, h => by
    simp only [st5] at hB
    cases hq : quietSeq ops is listed with
    | none => simp [hq] at hB
    | some l' =>
      simp only [hq, Bool.and_eq_true] at hB
      simp only [List.map_cons, wpSteps5] at h
      exact quiet_sound5 hs (fun a' ha' => st_sound5 hs r l' a' w hB.2 ha') is listed a hq hB.1 h
  | (1, [i]) :: r, listed, a, w, hB, h => by
    simp only [st5, Bool.and_eq_true, beq_iff_eq] at hB
    obtain ⟨⟨hr, ho⟩, hB⟩ := hB
    obtain ⟨oi, ho⟩ := Option.isSome_iff_exists.1 ho
    simp only [List.map_cons, List.map_nil, wpSteps5, pickOps, ho, Option.getD_some] at h
    show AnyL P ops B L Q (1 + len5 r) listed a w
    rw [Nat.add_comm]
    refine ⟨fun h0 => (by rw [hr] at h0; cases h0), fun j hj => ?_⟩
    rw [hr] at hj
    simp only [List.mem_singleton] at hj
    subst hj
    exact last_step ho h fun a' W' hg => ⟨.inr hg.1, st_sound5 hs r _ a' W' hB hg.2⟩
  | (2, [i]) :: r, listed, a, w, hB, h => by
    simp only [st5, Bool.and_eq_true, beq_iff_eq] at hB
    obtain ⟨⟨⟨rfl, hr⟩, ho⟩, hB⟩ := hB
    obtain ⟨oi, ho⟩ := Option.isSome_iff_exists.1 ho
    simp only [List.map_cons, List.map_nil, wpSteps5, pickOps, ho, Option.getD_some] at h
    show AnyL P ops B i Q (1 + len5 r) listed a w
    rw [Nat.add_comm]
    refine ⟨fun h0 => (by rw [hr] at h0; cases h0), fun j hj => ?_⟩
    rw [hr] at hj
    simp only [List.mem_singleton] at hj
    subst hj
    exact last_step ho h fun a' W' hg => ⟨.inl rfl, st_sound5 hs r _ a' W' hB hg⟩
  | (1, []) :: r, listed, a, w, hB, h => by simp [st5] at hB
  | (1, _ :: _ :: _) :: r, listed, a, w, hB, h => by simp [st5] at hB
  | (2, []) :: r, listed, a, w, hB, h => by simp [st5] at hB
  | (2, _ :: _ :: _) :: r, listed, a, w, hB, h => by simp [st5] at hB
  | (n + 3, _) :: r, listed, a, w, hB, h => by simp [st5] at hB
/-- **THE REGION BY ITS STEPS**, one of which writes. -/
theorem wp_region_st5 (B L : Nat) (R : Act → World → Prop) {id : Nat} {Q : Exit → Act → World → Prop} {a : Act} {w : World} {l : List Oper} (p : List (Nat × List Nat)) (p' : List (Nat × List Oper)) (hm : P.follows .mixedOrders = true) (hB : ok5 l.toArray L p = true)
    (hp : (p.map fun x => (x.1, pickOps l.toArray x.2)) = p') (h0 : ∀ wd, Below w.heap.size w wd → wd.heap.size = w.heap.size → wpSteps5 P l.toArray B R p' a wd) (hR : ∀ a w, R a w → Q .normal a w) : (Code.region id l.toArray true).wp P Q a w := by
  subst hp
  unfold ok5 at hB
  simp only [Bool.and_eq_true, beq_iff_eq] at hB
  obtain ⟨⟨h1, h3⟩, h4⟩ := hB
  refine wp_region_any hm ?_
  have := st_sound5 (P := P) (Q := R) (B := B) (L := L) h1 p _ a w.drew h3 (h0 _ (Below.refl _ _).drew rfl)
  rw [h4] at this
  exact AnyL.sound hR _ _ a w.drew this
end
end Go.Proofs.YtfijpdmkdoccjaaGreatDoor.Rn
