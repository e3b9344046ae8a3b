/- A region that draws its order, whose last operation (a store) stands behind all others by its edges: that one may write to whatever block. -/
import Derived.Test.YtfijpdmkdoccjaaGreatDoorJTms
namespace Go.Proofs.YtfijpdmkdoccjaaGreatDoor.Rl
open Go Go.Sort Go.RowKit Rg Rh Rf

section
variable {P : Program} {ops : Array Oper}

/-- Whatever order is drawn from here on; operation L may turn older blocks. -/
def AnyL (P : Program) (ops : Array Oper) (B L : Nat) (Q : Act → World → Prop) : Nat → Array Bool → Act → World → Prop
  | 0, listed, a, w => Region.ready .any ops listed = [] ∧ Q a w
  | fuel + 1, listed, a, w => (Region.ready .any ops listed = [] → Q a w) ∧
      ∀ i ∈ Region.ready .any ops listed, wpOp P ops Bot i (fun a' W' => (i = L ∨ Below B w W') ∧ AnyL P ops B L Q fuel (listed.setIfInBounds i true) a' W') a w
theorem AnyL.sound {B L : Nat} {Q : Act → World → Prop} {Q' : Exit → Act → World → Prop} (hQ : ∀ a w, Q a w → Q' .normal a w) : ∀ (fuel : Nat) (listed : Array Bool) (a : Act) (w : World),
    AnyL P ops B L Q fuel listed a w → wpAny P .any ops Q' fuel listed a w
  | 0, _, _, _, h => ⟨h.1, hQ _ _ h.2⟩
  | fuel + 1, _, a, w, h => by
    obtain ⟨h0, h1⟩ := h
    exact ⟨fun e => hQ _ _ (h0 e), fun i hi => wpOp_bot (wpOp_mono (fun a' W' h2 => AnyL.sound hQ fuel _ a' W' h2.2) (h1 i hi))⟩

/-- L stands behind all others. -/
def lastB (ops : Array Oper) (L : Nat) : Bool := match ops[L]? with
  | none => false
  | some o => (List.range ops.size).all fun k => k == L || o.after.any fun e => Region.binds .any e && e.on == k
theorem last_spec {L : Nat} (h : lastB ops L = true) {listed : Array Bool} (hL : L ∈ Region.ready .any ops listed) {i : Nat} (hi : i ∈ Region.ready .any ops listed) : i = L := by
  obtain ⟨_, o, ho, hall⟩ := mem_ready.1 hL
  obtain ⟨h0, oi, hoi, _⟩ := mem_ready.1 hi
  unfold lastB at h
  rw [ho] at h
  simp only at h
  have hlt : i < ops.size := (Array.getElem?_eq_some_iff.1 hoi).1
  have := List.all_eq_true.1 h i (by simpa using hlt)
  rw [Bool.or_eq_true, beq_iff_eq] at this
  rcases this with e | e
  · exact e
  · obtain ⟨x, hx, hb⟩ := Array.any_eq_true'.1 e
    rw [Bool.and_eq_true, beq_iff_eq] at hb
    have h1 := hall x hx hb.1
    rw [hb.2] at h1
    rcases Nat.lt_or_ge i listed.size with h' | h'
    · simp [h'] at h0 h1; rw [h0] at h1; cases h1
    · simp [Array.getElem?_eq_none h'] at h1

theorem AnyL.first {B L : Nat} (hlast : lastB ops L = true) {Q : Act → World → Prop} {i : Nat} {oi : Oper} {v : Value} (hi : ops[i]? = some oi) (hsel : ∀ (j : Nat) (o : Oper) cs b, ops[j]? = some o → o.op ≠ .select cs b) :
    ∀ (fuel : Nat) (listed : Array Bool) (a : Act) (w : World),
      (∀ j oj, ops[j]? = some oj → j ≠ i → listed.getD j true = false → (∀ e ∈ oj.after, Region.binds .any e = true → e.on ≠ i) → oi.apart ops oj = true) →
      i ∈ Region.ready .any ops listed → YB P ops B oi v a w →
      AnyL P ops B L Q fuel (listed.setIfInBounds i true) (a.put oi.dst v) w → AnyL P ops B L Q (fuel + 1) listed a w := by
  intro fuel
  induction fuel with
  | zero =>
    intro listed a w _ hr hy H
    refine ⟨fun h => (by rw [h] at hr; cases hr), fun j hj => ?_⟩
    by_cases hji : j = i
    · subst hji; exact hy.wpOp hi ⟨.inr (Below.refl _ _), H⟩
    · have := ready_mono hj hji
      rw [H.1] at this
      cases this
  | succ fuel ih =>
    intro listed a w hfree hr hy H
    refine ⟨fun h => (by rw [h] at hr; cases hr), fun j hj => ?_⟩
    by_cases hji : j = i
    · subst hji; exact hy.wpOp hi ⟨.inr (Below.refl _ _), H⟩
    · have hjL : j ≠ L := fun e => hji (by subst e; exact (last_spec hlast hj hr).symm)
      have h1 := H.2 j (ready_mono hj hji)
      obtain ⟨hjun, oj, hoj, hall⟩ := mem_ready.1 hj
      have hnot : ∀ e ∈ oj.after, Region.binds .any e = true → e.on ≠ i := fun e he hb heq => by
        have h1 := hall e he hb
        have h0 := (mem_ready.1 hr).1
        rw [heq] at h1
        rcases Nat.lt_or_ge i listed.size with h' | h'
        · simp [h'] at h0 h1; rw [h0] at h1; cases h1
        · simp [Array.getElem?_eq_none h'] at h1
      have h2 := wpOp_putB hoj (hfree j oj hoj hji hjun hnot) (fun cs b => hsel i oi cs b hi) (fun cs b => hsel j oj cs b hoj) hy h1
      have hfree' : ∀ k ok, ops[k]? = some ok → k ≠ i → (listed.setIfInBounds j true).getD k true = false →
          (∀ e ∈ ok.after, Region.binds .any e = true → e.on ≠ i) → oi.apart ops ok = true := fun k ok hk hki hun hno => by
        refine hfree k ok hk hki ?_ hno
        by_cases hjk : j = k
        · subst hjk; exact hjun
        · rw [getD_set_ne true hjk] at hun; exact hun
      refine wpOp_mono (fun a' W' h3 => ?_) h2
      obtain ⟨hy', hb1, h4⟩ := h3
      have hb1' := hb1.resolve_left hjL
      refine ⟨hb1, ih (listed.setIfInBounds j true) a' W' hfree' (ready_mono hr (Ne.symm hji)) (hy'.later hb1') ?_⟩
      rw [Array.setIfInBounds_comm _ _ hji]
      exact h4

theorem quiet_soundL {B L : Nat} (hlast : lastB ops L = true) {Q : Act → World → Prop} (hs : Region.noSelect ops = true) {w : World} {K : Act → Prop} {fuel : Nat} {l' : Array Bool} (hK : ∀ a, K a → AnyL P ops B L Q fuel l' a w) :
    ∀ (is : List Nat) (listed : Array Bool) (a : Act), quietSeq ops is listed = some l' → wpQuiet P ops (ClsB B w) K (pickOps ops is) a → AnyL P ops B L Q (is.length + fuel) listed a w
  | [], listed, a, hq, h => by
    simp only [quietSeq, Option.some.injEq] at hq
    subst hq
    simp only [List.length_nil, Nat.zero_add]
    exact hK a h
  | i :: is, listed, a, hq, h => by
    simp only [quietSeq] at hq
    split at hq
    case isFalse => cases hq
    rename_i hc
    simp only [Bool.and_eq_true] at hc
    obtain ⟨⟨hr, hf⟩, hb⟩ := hc
    cases ho : ops[i]? with
    | none => simp [ho] at hb
    | some o =>
      simp only [ho, Option.map_some, Option.getD_some] at hb
      simp only [pickOps, List.map_cons, ho, Option.getD_some] at h
      obtain ⟨v, hy, hn⟩ := yb_of_quiet (K := wpQuiet P ops (ClsB B w) K (pickOps ops is)) hb h
      have := quiet_soundL hlast hs hK is _ _ hq hn
      rw [List.length_cons, Nat.add_right_comm]
      exact AnyL.first hlast ho (Region.noSelect_spec hs) _ listed a w (Region.free_spec ho hf) (by simpa using hr) hy this

/-- The steps: readers (true), or one operation alone (false); then the last one. -/
def wpSteps (P : Program) (ops : Array Oper) (B : Nat) (Q : Act → World → Prop) (last : Oper) : List (Bool × List Oper) → Act → World → Prop
  | [], a, w => wpList P ops (Exit.then Q Bot) [last] a w
  | (true, l) :: r, a, w => wpQuiet P ops (ClsB B w) (fun a' => wpSteps P ops B Q last r a' w) l a
  | (false, l) :: r, a, w => wpList P ops (Exit.then (fun a' W' => Below B w W' ∧ wpSteps P ops B Q last r a' W') Bot) l a w
theorem st_quiet {B : Nat} {Q : Act → World → Prop} {last : Oper} {l : List Oper} {r : List (Bool × List Oper)} {a : Act} {w : World} (h : wpQuiet P ops (ClsB B w) (fun a' => wpSteps P ops B Q last r a' w) l a) : wpSteps P ops B Q last ((true, l) :: r) a w := h
theorem st_one {B : Nat} {Q : Act → World → Prop} {last : Oper} {l : List Oper} {r : List (Bool × List Oper)} {a : Act} {w : World} (h : wpList P ops (Exit.then (fun a' W' => Below B w W' ∧ wpSteps P ops B Q last r a' W') Bot) l a w) : wpSteps P ops B Q last ((false, l) :: r) a w := h
theorem st_last {B : Nat} {Q : Act → World → Prop} {last : Oper} {a : Act} {w : World} (h : wpList P ops (Exit.then Q Bot) [last] a w) : wpSteps P ops B Q last [] a w := h
def stB (ops : Array Oper) (L : Nat) : List (Bool × List Nat) → Array Bool → Bool
  | [], l => (Region.ready .any ops l == [L]) && (Region.ready .any ops (l.setIfInBounds L true)).isEmpty && (ops[L]?).isSome
  | (true, is) :: r, l => match quietSeq ops is l with | some l' => stB ops L r l' | none => false
  | (false, [i]) :: r, l => (Region.ready .any ops l == [i]) && (ops[i]?).isSome && stB ops L r (l.setIfInBounds i true)
  | (false, _) :: _, _ => false
def stLen : List (Bool × List Nat) → Nat
  | [] => 1
  | x :: r => x.2.length + stLen r
def stOK (ops : Array Oper) (L : Nat) (p : List (Bool × List Nat)) : Bool := Region.noSelect ops && lastB ops L && stB ops L p (Array.replicate ops.size false) && (stLen p == ops.size)
theorem last_step {j : Nat} {o : Oper} (ho : ops[j]? = some o) {G X : Act → World → Prop} {a : Act} {w : World}
    (h : wpList P ops (Exit.then G Bot) [o] a w) (hx : ∀ a' W', G a' W' → X a' W') : wpOp P ops Bot j X a w := by
  unfold wpOp
  simp only [ho]
  have next : ∀ a' W', wpList P ops (Exit.then G Bot) [] a' W' → X a' W' := fun a' W' hh => hx a' W' hh
  simp only [wpList] at h
  split at h
  · rename_i hw
    rw [if_pos hw]
    rcases h with h | h
    · left
      exact upon_exit (fun c a w h => h) (fun h => h) (Oper.wp_mono next h)
    · obtain ⟨_, hl⟩ := h
      obtain ⟨_, _, hf⟩ := hl
      exact hf.elim
  · rename_i hw
    rw [if_neg hw]
    exact next _ _ h
theorem st_sound {B L : Nat} {Q : Act → World → Prop} {o : Oper} (hoL : ops[L]? = some o) (hs : Region.noSelect ops = true) (hlast : lastB ops L = true) : ∀ (p : List (Bool × List Nat)) (listed : Array Bool) (a : Act) (w : World),
    stB ops L p listed = true → wpSteps P ops B Q o (p.map fun x => (x.1, pickOps ops x.2)) a w → AnyL P ops B L Q (stLen p) listed a w
  | [], listed, a, w, hB, h => by
    simp only [stB, Bool.and_eq_true, beq_iff_eq, List.isEmpty_iff] at hB
    obtain ⟨⟨h1, h2⟩, _⟩ := hB
    refine ⟨fun e => (by rw [h1] at e; cases e), fun i hi => ?_⟩
    rw [h1] at hi
    simp only [List.mem_singleton] at hi
    subst hi
    exact last_step hoL h fun a' W' hq => ⟨.inl rfl, h2, hq⟩
  | (true, is) :: r, listed, a, w, hB, h => by
    simp only [stB] at hB
    cases hq : quietSeq ops is listed with
    | none => simp [hq] at hB
    | some l' =>
      simp only [hq] at hB
      simp only [List.map_cons, wpSteps] at h
      exact quiet_soundL hlast hs (fun a' ha' => st_sound hoL hs hlast r l' a' w hB ha') is listed a hq h
  | (false, [i]) :: r, listed, a, w, hB, h => by
    simp only [stB, Bool.and_eq_true, beq_iff_eq] at hB
    obtain ⟨⟨hr, ho⟩, hB⟩ := hB
    obtain ⟨oi, ho⟩ := Option.isSome_iff_exists.1 ho
    simp only [List.map_cons, List.map_nil, wpSteps, pickOps, ho, Option.getD_some] at h
    show AnyL P ops B L Q (1 + stLen r) listed a w
    rw [Nat.add_comm]
    refine ⟨fun h0 => (by rw [hr] at h0; cases h0), fun j hj => ?_⟩
    rw [hr] at hj
    simp only [List.mem_singleton] at hj
    subst hj
    exact one_step ho h fun a' W' hb hg => ⟨.inr hb, st_sound hoL hs hlast r _ a' W' hB hg⟩
  | (false, []) :: r, listed, a, w, hB, h => by simp [stB] at hB
  | (false, _ :: _ :: _) :: r, listed, a, w, hB, h => by simp [stB] at hB
/-- **THE REGION BY ITS STEPS**, the last of which writes. -/
theorem wp_region_st (B L : Nat) (R : Act → World → Prop) {id : Nat} {Q : Exit → Act → World → Prop} {a : Act} {w : World} {l : List Oper} (p : List (Bool × List Nat)) (p' : List (Bool × List Oper)) {o : Oper} (hm : P.follows .mixedOrders = true) (hB : stOK l.toArray L p = true)
    (hoL : l.toArray[L]? = some o) (hp : (p.map fun x => (x.1, pickOps l.toArray x.2)) = p') (h0 : ∀ wd, Below w.heap.size w wd → wd.heap.size = w.heap.size → wpSteps P l.toArray B R o p' a wd) (hR : ∀ a w, R a w → Q .normal a w) : (Code.region id l.toArray true).wp P Q a w := by
  subst hp
  unfold stOK at hB
  simp only [Bool.and_eq_true, beq_iff_eq] at hB
  obtain ⟨⟨⟨h1, h2⟩, h3⟩, h4⟩ := hB
  refine wp_region_any hm ?_
  have := st_sound (P := P) (Q := R) (B := B) hoL h1 h2 p _ a w.drew h3 (h0 _ (Below.refl _ _).drew rfl)
  rw [h4] at this
  exact AnyL.sound hR _ _ a w.drew this
end
end Go.Proofs.YtfijpdmkdoccjaaGreatDoor.Rl
