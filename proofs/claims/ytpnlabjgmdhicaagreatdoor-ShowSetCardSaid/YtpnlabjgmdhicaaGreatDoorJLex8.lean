/- A region that draws its order, one operation of which (L) may write to whatever block: what is moved ahead of it stands before it, by a path of edges, or comes after it is listed. The program's package lex, walked: span. The program's package lex, walked: what a token's call keeps. -/
import Derived.Test.YtpnlabjgmdhicaaGreatDoorJRegion4
import Derived.Lib.AppendStr
import Derived.Deep.CutRange
namespace Go.Proofs.YtpnlabjgmdhicaaGreatDoor.Rn
open Go Go.Sort Go.RowKit Rg Rh Rf Rl

section
variable {P : Program} {ops : Array Oper}

/-- What stands behind i (edges point down). -/
def behind (ops : Array Oper) (i : Nat) : List Nat := (List.range ops.size).foldl (fun S k => match ops[k]? with
  | none => S
  | some o => if o.after.any fun e => Region.binds .any e && S.contains e.on then k :: S else S) [i]
def BehindOK (ops : Array Oper) (i : Nat) (S : List Nat) : Prop := ∀ k ∈ S, k = i ∨ ∃ (o : Oper) (e : Edge), ops[k]? = some o ∧ e ∈ o.after ∧ Region.binds .any e = true ∧ e.on ∈ S
theorem behind_ok (i : Nat) : BehindOK ops i (behind ops i) := by
  unfold behind
  suffices h : ∀ (l : List Nat) (S : List Nat), BehindOK ops i S → BehindOK ops i (l.foldl (fun S k => match ops[k]? with
      | none => S
      | some o => if o.after.any fun e => Region.binds .any e && S.contains e.on then k :: S else S) S) from
    h _ _ (fun k hk => .inl (by simpa using hk))
  intro l
  induction l with
  | nil => exact fun S h => h
  | cons k l ih =>
    intro S h
    rw [List.foldl_cons]
    refine ih _ ?_
    split
    · exact h
    · rename_i o ho
      split
      · rename_i hany
        obtain ⟨e, he, hb⟩ := Array.any_eq_true'.1 hany
        rw [Bool.and_eq_true] at hb
        have hm : e.on ∈ S := by simpa using hb.2
        intro k' hk'
        rcases List.mem_cons.1 hk' with rfl | hk'
        · exact .inr ⟨o, e, ho, he, hb.1, List.mem_cons_of_mem _ hm⟩
        · rcases h k' hk' with h1 | ⟨o', e', h1, h2, h3, h4⟩
          · exact .inl h1
          · exact .inr ⟨o', e', h1, h2, h3, List.mem_cons_of_mem _ h4⟩
      · exact h
/-- While i is open, L can't run: L is listed, or stands behind i. -/
def Holds (ops : Array Oper) (L i : Nat) (listed : Array Bool) : Prop := listed.getD L true = true ∨ ∃ S, BehindOK ops i S ∧ L ∈ S ∧ L ≠ i ∧ ∀ k ∈ S, listed.getD k true = false
def holdsB (ops : Array Oper) (L i : Nat) (listed : Array Bool) : Bool := listed.getD L true || ((behind ops i).contains L && L != i && (behind ops i).all fun k => !listed.getD k true)
theorem holds_of {L i : Nat} {listed : Array Bool} (h : holdsB ops L i listed = true) : Holds ops L i listed := by
  unfold holdsB at h
  simp only [Bool.or_eq_true, Bool.and_eq_true, bne_iff_ne, ne_eq, List.all_eq_true, Bool.not_eq_true', List.contains_iff_mem] at h
  rcases h with h | ⟨⟨h1, h2⟩, h3⟩
  · exact .inl h
  · exact .inr ⟨_, behind_ok i, h1, h2, h3⟩
theorem Holds.open_ {L i j : Nat} {listed : Array Bool} (h : Holds ops L i listed) (_hji : j ≠ i) (hj : j ∈ Region.ready .any ops listed) : j ≠ L := by
  obtain ⟨hjun, oj, hoj, hall⟩ := mem_ready.1 hj
  rcases h with h | ⟨S, hS, hL, hLi, hun⟩
  · rintro rfl; rw [hjun] at h; cases h
  · rintro rfl
    rcases hS _ hL with h | ⟨o, e, ho, he, hb, hm⟩
    · exact hLi h
    · rw [hoj] at ho; injection ho with ho; subst ho
      have := hun _ hm
      rcases Nat.lt_or_ge e.on listed.size with h' | h'
      · have h1 := hall e he hb
        simp [h'] at h1 this; rw [h1] at this; cases this
      · simp [Array.getElem?_eq_none h'] at this
theorem Holds.set {L i j : Nat} {listed : Array Bool} (h : Holds ops L i listed) (hji : j ≠ i) (hj : j ∈ Region.ready .any ops listed) : Holds ops L i (listed.setIfInBounds j true) := by
  obtain ⟨hjun, oj, hoj, hall⟩ := mem_ready.1 hj
  rcases h with h | ⟨S, hS, hL, hLi, hun⟩
  · refine .inl ?_
    by_cases hjL : j = L
    · subst hjL; rw [hjun] at h; cases h
    · rw [getD_set_ne true hjL]; exact h
  · refine .inr ⟨S, hS, hL, hLi, fun k hk => ?_⟩
    have hjS : j ∉ S := fun hm => by
      rcases hS _ hm with h | ⟨o, e, ho, he, hb, hm⟩
      · exact hji h
      · rw [hoj] at ho; injection ho with ho; subst ho
        have := hun _ hm
        rcases Nat.lt_or_ge e.on listed.size with h' | h'
        · have h1 := hall e he hb
          simp [h'] at h1 this; rw [h1] at this; cases this
        · simp [Array.getElem?_eq_none h'] at this
    have hne : j ≠ k := fun e => hjS (e ▸ hk)
    rw [getD_set_ne true hne]; exact hun k hk

theorem first5 {B L : Nat} {Q : Act → World → Prop} {i : Nat} {oi : Oper} {v : Value} (hi : ops[i]? = some oi) (hsel : ∀ (j : Nat) (o : Oper) cs b, ops[j]? = some o → o.op ≠ .select cs b) :
    ∀ (fuel : Nat) (listed : Array Bool) (a : Act) (w : World),
      (∀ j oj, ops[j]? = some oj → j ≠ i → listed.getD j true = false → (∀ e ∈ oj.after, Region.binds .any e = true → e.on ≠ i) → oi.apart ops oj = true) →
      Holds ops L i listed → i ∈ Region.ready .any ops listed → YB P ops B oi v a w →
      AnyL P ops B L Q fuel (listed.setIfInBounds i true) (a.put oi.dst v) w → AnyL P ops B L Q (fuel + 1) listed a w := by
  intro fuel
  induction fuel with
  | zero =>
    intro listed a w _ _ hr hy H
    refine ⟨fun h => (by rw [h] at hr; cases hr), fun j hj => ?_⟩
    by_cases hji : j = i
    · subst hji; exact hy.wpOp hi ⟨.inr (Below.refl _ _), H⟩
    · have := ready_mono hj hji
      rw [H.1] at this
      cases this
  | succ fuel ih =>
    intro listed a w hfree hho hr hy H
    refine ⟨fun h => (by rw [h] at hr; cases hr), fun j hj => ?_⟩
    by_cases hji : j = i
    · subst hji; exact hy.wpOp hi ⟨.inr (Below.refl _ _), H⟩
    · have hjL : j ≠ L := hho.open_ hji hj
      have h1 := H.2 j (ready_mono hj hji)
      obtain ⟨hjun, oj, hoj, hall⟩ := mem_ready.1 hj
      have hnot : ∀ e ∈ oj.after, Region.binds .any e = true → e.on ≠ i := fun e he hb heq => by
        have h1 := hall e he hb
        have h0 := (mem_ready.1 hr).1
        rw [heq] at h1
        rcases Nat.lt_or_ge i listed.size with h' | h'
        · simp [h'] at h0 h1; rw [h0] at h1; cases h1
        · simp [Array.getElem?_eq_none h'] at h1
      have h2 := wpOp_putB hoj (hfree j oj hoj hji hjun hnot) (fun cs b => hsel i oi cs b hi) (fun cs b => hsel j oj cs b hoj) hy h1
      have hfree' : ∀ k ok, ops[k]? = some ok → k ≠ i → (listed.setIfInBounds j true).getD k true = false →
          (∀ e ∈ ok.after, Region.binds .any e = true → e.on ≠ i) → oi.apart ops ok = true := fun k ok hk hki hun hno => by
        refine hfree k ok hk hki ?_ hno
        by_cases hjk : j = k
        · subst hjk; exact hjun
        · rw [getD_set_ne true hjk] at hun; exact hun
      refine wpOp_mono (fun a' W' h3 => ?_) h2
      obtain ⟨hy', hb1, h4⟩ := h3
      have hb1' := hb1.resolve_left hjL
      refine ⟨hb1, ih (listed.setIfInBounds j true) a' W' hfree' (hho.set hji hj) (ready_mono hr (Ne.symm hji)) (hy'.later hb1') ?_⟩
      rw [Array.setIfInBounds_comm _ _ hji]
      exact h4

def holdSeq (ops : Array Oper) (L : Nat) : List Nat → Array Bool → Bool
  | [], _ => true
  | i :: is, l => holdsB ops L i l && holdSeq ops L is (l.setIfInBounds i true)
theorem quiet_sound5 {B L : Nat} {Q : Act → World → Prop} (hs : Region.noSelect ops = true) {w : World} {K : Act → Prop} {fuel : Nat} {l' : Array Bool} (hK : ∀ a, K a → AnyL P ops B L Q fuel l' a w) :
    ∀ (is : List Nat) (listed : Array Bool) (a : Act), quietSeq ops is listed = some l' → holdSeq ops L is listed = true → wpQuiet P ops (ClsB B w) K (pickOps ops is) a → AnyL P ops B L Q (is.length + fuel) listed a w
  | [], listed, a, hq, _, h => by
    simp only [quietSeq, Option.some.injEq] at hq
    subst hq
    simp only [List.length_nil, Nat.zero_add]
    exact hK a h
  | i :: is, listed, a, hq, hh, h => by
    simp only [holdSeq, Bool.and_eq_true] at hh
    simp only [quietSeq] at hq
    split at hq
    case isFalse => cases hq
    rename_i hc
    simp only [Bool.and_eq_true] at hc
    obtain ⟨⟨hr, hf⟩, hb⟩ := hc
    cases ho : ops[i]? with
    | none => simp [ho] at hb
    | some o =>
      simp only [ho, Option.map_some, Option.getD_some] at hb
      simp only [pickOps, List.map_cons, ho, Option.getD_some] at h
      obtain ⟨v, hy, hn⟩ := yb_of_quiet (K := wpQuiet P ops (ClsB B w) K (pickOps ops is)) hb h
      have := quiet_sound5 hs hK is _ _ hq hh.2 hn
      rw [List.length_cons, Nat.add_right_comm]
      exact first5 ho (Region.noSelect_spec hs) _ listed a w (Region.free_spec ho hf) (holds_of hh.1) (by simpa using hr) hy this

/-- The steps: readers (0), one operation alone (1), the one that writes (2). -/
def wpSteps5 (P : Program) (ops : Array Oper) (B : Nat) (Q : Act → World → Prop) : List (Nat × List Oper) → Act → World → Prop
  | [], a, w => Q a w
  | (0, l) :: r, a, w => wpQuiet P ops (ClsB B w) (fun a' => wpSteps5 P ops B Q r a' w) l a
  | (1, l) :: r, a, w => wpList P ops (Exit.then (fun a' W' => Below B w W' ∧ wpSteps5 P ops B Q r a' W') Bot) l a w
  | (_ + 2, l) :: r, a, w => wpList P ops (Exit.then (fun a' W' => wpSteps5 P ops B Q r a' W') Bot) l a w
theorem st_quiet {B : Nat} {Q : Act → World → Prop} {l : List Oper} {r : List (Nat × List Oper)} {a : Act} {w : World} (h : wpQuiet P ops (ClsB B w) (fun a' => wpSteps5 P ops B Q r a' w) l a) : wpSteps5 P ops B Q ((0, l) :: r) a w := h
theorem st_one {B : Nat} {Q : Act → World → Prop} {l : List Oper} {r : List (Nat × List Oper)} {a : Act} {w : World} (h : wpList P ops (Exit.then (fun a' W' => Below B w W' ∧ wpSteps5 P ops B Q r a' W') Bot) l a w) : wpSteps5 P ops B Q ((1, l) :: r) a w := h
theorem st_free {B : Nat} {Q : Act → World → Prop} {l : List Oper} {r : List (Nat × List Oper)} {a : Act} {w : World} (h : wpList P ops (Exit.then (fun a' W' => wpSteps5 P ops B Q r a' W') Bot) l a w) : wpSteps5 P ops B Q ((2, l) :: r) a w := h
theorem st_done {B : Nat} {Q : Act → World → Prop} {a : Act} {w : World} (h : Q a w) : wpSteps5 P ops B Q [] a w := h
def st5 (ops : Array Oper) (L : Nat) : List (Nat × List Nat) → Array Bool → Bool
  | [], l => (Region.ready .any ops l).isEmpty
  | (0, is) :: r, l => match quietSeq ops is l with | some l' => holdSeq ops L is l && st5 ops L r l' | none => false
  | (1, [i]) :: r, l => (Region.ready .any ops l == [i]) && (ops[i]?).isSome && st5 ops L r (l.setIfInBounds i true)
  | (2, [i]) :: r, l => (i == L) && (Region.ready .any ops l == [i]) && (ops[i]?).isSome && st5 ops L r (l.setIfInBounds i true)
  | _, _ => false
def len5 : List (Nat × List Nat) → Nat
  | [] => 0
  | x :: r => x.2.length + len5 r
def ok5 (ops : Array Oper) (L : Nat) (p : List (Nat × List Nat)) : Bool := Region.noSelect ops && st5 ops L p (Array.replicate ops.size false) && (len5 p == ops.size)
theorem st_sound5 {B L : Nat} {Q : Act → World → Prop} (hs : Region.noSelect ops = true) : ∀ (p : List (Nat × List Nat)) (listed : Array Bool) (a : Act) (w : World),
    st5 ops L p listed = true → wpSteps5 P ops B Q (p.map fun x => (x.1, pickOps ops x.2)) a w → AnyL P ops B L Q (len5 p) listed a w
  | [], listed, a, w, hB, h => by
    simp only [st5, List.isEmpty_iff] at hB
    exact ⟨hB, h⟩
  | (0, is) :: r, listed, a, w, hB, h => by
    simp only [st5] at hB
    cases hq : quietSeq ops is listed with
    | none => simp [hq] at hB
    | some l' =>
      simp only [hq, Bool.and_eq_true] at hB
      simp only [List.map_cons, wpSteps5] at h
      exact quiet_sound5 hs (fun a' ha' => st_sound5 hs r l' a' w hB.2 ha') is listed a hq hB.1 h
  | (1, [i]) :: r, listed, a, w, hB, h => by
    simp only [st5, Bool.and_eq_true, beq_iff_eq] at hB
    obtain ⟨⟨hr, ho⟩, hB⟩ := hB
    obtain ⟨oi, ho⟩ := Option.isSome_iff_exists.1 ho
    simp only [List.map_cons, List.map_nil, wpSteps5, pickOps, ho, Option.getD_some] at h
    show AnyL P ops B L Q (1 + len5 r) listed a w
    rw [Nat.add_comm]
    refine ⟨fun h0 => (by rw [hr] at h0; cases h0), fun j hj => ?_⟩
    rw [hr] at hj
    simp only [List.mem_singleton] at hj
    subst hj
    exact last_step ho h fun a' W' hg => ⟨.inr hg.1, st_sound5 hs r _ a' W' hB hg.2⟩
  | (2, [i]) :: r, listed, a, w, hB, h => by
    simp only [st5, Bool.and_eq_true, beq_iff_eq] at hB
    obtain ⟨⟨⟨rfl, hr⟩, ho⟩, hB⟩ := hB
    obtain ⟨oi, ho⟩ := Option.isSome_iff_exists.1 ho
    simp only [List.map_cons, List.map_nil, wpSteps5, pickOps, ho, Option.getD_some] at h
    show AnyL P ops B i Q (1 + len5 r) listed a w
    rw [Nat.add_comm]
    refine ⟨fun h0 => (by rw [hr] at h0; cases h0), fun j hj => ?_⟩
    rw [hr] at hj
    simp only [List.mem_singleton] at hj
    subst hj
    exact last_step ho h fun a' W' hg => ⟨.inl rfl, st_sound5 hs r _ a' W' hB hg⟩
  | (1, []) :: r, listed, a, w, hB, h => by simp [st5] at hB
  | (1, _ :: _ :: _) :: r, listed, a, w, hB, h => by simp [st5] at hB
  | (2, []) :: r, listed, a, w, hB, h => by simp [st5] at hB
  | (2, _ :: _ :: _) :: r, listed, a, w, hB, h => by simp [st5] at hB
  | (n + 3, _) :: r, listed, a, w, hB, h => by simp [st5] at hB
/-- **THE REGION BY ITS STEPS**, one of which writes. -/
theorem wp_region_st5 (B L : Nat) (R : Act → World → Prop) {id : Nat} {Q : Exit → Act → World → Prop} {a : Act} {w : World} {l : List Oper} (p : List (Nat × List Nat)) (p' : List (Nat × List Oper)) (hm : P.follows .mixedOrders = true) (hB : ok5 l.toArray L p = true)
    (hp : (p.map fun x => (x.1, pickOps l.toArray x.2)) = p') (h0 : ∀ wd, Below w.heap.size w wd → wd.heap.size = w.heap.size → wpSteps5 P l.toArray B R p' a wd) (hR : ∀ a w, R a w → Q .normal a w) : (Code.region id l.toArray true).wp P Q a w := by
  subst hp
  unfold ok5 at hB
  simp only [Bool.and_eq_true, beq_iff_eq] at hB
  obtain ⟨⟨h1, h3⟩, h4⟩ := hB
  refine wp_region_any hm ?_
  have := st_sound5 (P := P) (Q := R) (B := B) (L := L) h1 p _ a w.drew h3 (h0 _ (Below.refl _ _).drew rfl)
  rw [h4] at this
  exact AnyL.sound hR _ _ a w.drew this
end
end Go.Proofs.YtpnlabjgmdhicaaGreatDoor.Rn
namespace Go.Proofs.YtpnlabjgmdhicaaGreatDoor
open Go Go.RowKit Um Lx

theorem uint8Info : (Tryz.prog.info? 5).map (fun i => (i.zero, i.size, i.bytes)) = some (some (.int .u8 0), 1, 1) := by kernel_rfl
/-- Bytes as numbers. -/
def bI (l : List UInt8) : List Int := l.map fun c => (c.toNat : Int)
theorem strCells_bI (s : ByteArray) : Lib.strCells s = (bI s.data.toList).map (Value.int .u8) := by rw [Lib.strCells_eq]; simp [bI, Lib.byteCells]
set_option maxRecDepth 10000 in
set_option maxHeartbeats 2000000 in
theorem lexSpan (n : Nat) (s : ByteArray) (k b : Nat) (xs : List Int) (hx : xs.length ≤ 4000000) (w0 w : World) (h : RI w0 b s k xs w) (hk : k + n ≤ s.size) (hs : s.size ≤ 1000000) :
    Calls Tryz.prog 144 #[.pointer (some ⟨b, 0, none⟩), .int .i64 n] w fun e w' => e = .returned (.bool (decide (0 < n))) ∧ RI w0 b s (k + n) (xs ++ bI ((from_ s k).take n)) w' := by
  obtain ⟨v, m, c2, own⟩ := h.c2
  have hm : m = xs.length := by have := own.1; simp at this; omega
  have hr := fun W (hW : RI w0 b s k xs W) => lexRest s k b W hW.c0 hW.c1 (by omega)
  obtain ⟨r, hrr⟩ : ∃ r, s.extract k s.size = r := ⟨_, rfl⟩
  have hrl : r.data.toList = from_ s k := by rw [← hrr]; exact rest_toList s k
  have hrz : r.size = s.size - k := by rw [← hrr]; simp [ByteArray.size_extract]
  simp only [hrr] at hr
  have htl : (r.extract 0 n).data.toList = (from_ s k).take n := by rw [extract_toList, List.drop_zero, hrl, Nat.sub_zero]
  have htz : (r.extract 0 n).size = n := by rw [ByteArray.size_extract]; omega
  have hcl : Lib.strCells (r.extract 0 n) = (bI ((from_ s k).take n)).map (Value.int .u8) := by rw [strCells_bI, htl]
  have hle : n ≤ r.size := by omega
  have hn2 : n ≤ 1000000 := by omega
  have hk2 : k ≤ 1000000 := by omega
  obtain ⟨A, c, rfl, hmc, _⟩ := own_slice own
  have H := Lib.hid h
  have Own := Lib.hid own
  have Hm := Lib.hid hm
  have Htz := Lib.hid htz
  have Hcl := Lib.hid hcl
  have hsz := h.size
  have hbl := h.lt
  clear hrr hrl hrz htl htz hcl h own hm
  go_enter Tryz.func144, Tryz.ntmps144
  go_upto_region 1 with (fail)
  go_cut [] from 5 to 18 (fun wx => RI w0 b s k (xs ++ bI ((from_ s k).take n)) wx)
  case first =>
    rename_i hJ hM
    refine Rn.wp_region_st5 w0.heap.size 14 _ [(0, [0, 1, 2, 3, 4, 5, 6, 7, 9]), (1, [8]), (0, [10]), (1, [11]), (0, [12, 13]), (2, [14])] _ (by kernel_rfl) (by kernel_rfl) (by simp only [List.map_cons, List.map_nil, Rg.pickOps, List.getElem?_toArray, List.getElem?_cons_zero, List.getElem?_cons_succ, Option.getD_some]; rfl) ?_ (fun a w h => h)
    intro wd hbd hwz
    have Hd := Lib.hid (H.out.step hbd)
    have u2 : ∀ p : Rh.Later w0.heap.size wd, p.W.cell? ⟨b, 2, none⟩ = some (.slice A m c) := fun p => by rw [p.h.cell hbl, hbd.cell (p := ⟨b, 2, none⟩) (cell_lt c2)]; exact c2
    have OwnD := Lib.hid (own_below Own.out hbd (Nat.le_refl _))
    clear hbd hwz c2
    refine Rn.st_quiet ?_
    iterate 9 go_big_quiet_step (fail)
    refine wpQuiet_nil (Rn.st_one ?_)
    clear u2
    go_wp2_with (refine (hr wd Hd.out).mono ?_; rintro e w1 ⟨rfl, hb1⟩)
    refine ⟨hb1.mono Hd.out.size, Rn.st_quiet ?_⟩
    have H1 := Lib.hid (Hd.out.step hb1)
    have Own1 := Lib.hid (own_below OwnD.out hb1 (Nat.le_refl _))
    clear hb1
    iterate 1 go_big_quiet_step (fail)
    refine wpQuiet_nil (Rn.st_one ?_)
    obtain ⟨i, hi, hz, hsize, hby⟩ := info_parts uint8Info
    have Hi := Lib.hid hi
    have Hz := Lib.hid hz
    have Hsize := Lib.hid hsize
    have Hby := Lib.hid hby
    clear hi hz hsize hby
    go_wp2_with (at_builtin; refine Lib.wpList_append_own_string w1 rfl _ _ 54 9 rfl w0.heap.size 5 i Tryz.underlying54 Tryz.underlying9 Hi.out Hz.out Hsize.out Hby.out _ m _ rfl Own1.out _ rfl (by unfold maxLen; have := Htz.out; have := Hm.out; omega) (by have := Htz.out; have := Hm.out; omega) H1.out.size ?_; intro v5 w5 own5 hg5 _)
    have hb5 : Below w0.heap.size w1 w5 := (Below.refl _ _).grown hg5 H1.out.size fun q hq => (Own1.out.lt q hq).1
    refine ⟨hb5, Rn.st_quiet ?_⟩
    go_frame
    iterate 2 go_big_quiet_step (fail)
    refine wpQuiet_nil (Rn.st_free ?_)
    obtain ⟨d2, d3⟩ := H1.out.low hb5 2
    obtain ⟨v1, n1, e2, _⟩ := H1.out.c2
    rw [e2] at d2
    obtain ⟨A4, c4, rfl, _, _⟩ := own_slice own5
    go_wp2
    refine Rn.st_done ?_
    refine hM _ _ (Met.intro (hJ _ _ ?_))
    have own6 : w5.ownsRow w0.heap.size 5 1 (.slice A4 (m + (r.extract 0 n).size) c4) (m + (r.extract 0 n).size) ((xs ++ bI ((from_ s k).take n)).map (Value.int .u8)) := by
      rw [List.map_append, ← Hcl.out]; exact own5
    have H6 := H1.out.text hb5 own6
    rw [Htz.out] at H6
    first
      | exact H6
      | ((repeat apply Exists.intro); exact ⟨H6, rfl⟩)
  have c1 := hcut.c1
  have f1 := hcut.fz 1
  have HC := Lib.hid hcut
  clear hcut
  have hn0 : decide ((0 : Int) < n) = decide (0 < n) := by by_cases h : 0 < n <;> simp [h]
  go_wp2
  go_ret
  exact ⟨by first | rfl | (congr 2), HC.out.moveI (by omega)⟩
end Go.Proofs.YtpnlabjgmdhicaaGreatDoor
namespace Go.Proofs.YtpnlabjgmdhicaaGreatDoor
open Go Go.RowKit Um Lx

/-- A reader of s at k lies in block b. -/
def RdrAt (w : World) (b : Nat) (s : ByteArray) (k : Nat) : Prop := ∃ (A : Option Addr) (n c : Nat), w.heap[b]? = some (.cells #[.string s, .int .i64 k, .slice A n c] 140 (0, 0))
theorem gr_set {w wx : World} {b tb : Nat} (h : w.grownBy wx (some b)) (ht : w.heap.size ≤ tb) (i : Nat) (v : Value) : w.grownBy (wx.setCell ⟨tb, i, none⟩ v) (some b) :=
  ⟨h.os, h.tape, h.output, by simpa [World.setCell] using h.size, fun j hj hne => (Below.heap_setCell wx ⟨tb, i, none⟩ v j (by simp only; omega)).trans (h.block j hj hne)⟩
theorem RdrAt.set {w : World} {b tb : Nat} {s : ByteArray} {k : Nat} (h : RdrAt w b s k) (ht : b ≠ tb) (i : Nat) (v : Value) : RdrAt (w.setCell ⟨tb, i, none⟩ v) b s k := by
  obtain ⟨A, n, c, h1⟩ := h
  exact ⟨A, n, c, by rw [Below.heap_setCell w ⟨tb, i, none⟩ v b (fun e => ht e)]; exact h1⟩
theorem RdrAt.below {w w' : World} {b : Nat} {s : ByteArray} {k : Nat} (h : RdrAt w b s k) (hb : Below w.heap.size w w') : RdrAt w' b s k := by
  obtain ⟨A, n, c, h1⟩ := h
  have hlt := (Array.getElem?_eq_some_iff.1 h1).1
  exact ⟨A, n, c, by rw [hb.block b hlt]; exact h1⟩
theorem RdrAt.c0 {w : World} {b : Nat} {s : ByteArray} {k : Nat} (h : RdrAt w b s k) : w.cell? ⟨b, 0, none⟩ = some (.string s) := by obtain ⟨A, n, c, h1⟩ := h; rw [World.cell?, h1]; rfl
theorem RdrAt.c1 {w : World} {b : Nat} {s : ByteArray} {k : Nat} (h : RdrAt w b s k) : w.cell? ⟨b, 1, none⟩ = some (.int .i64 k) := by obtain ⟨A, n, c, h1⟩ := h; rw [World.cell?, h1]; rfl
theorem RdrAt.fz {w : World} {b : Nat} {s : ByteArray} {k : Nat} (h : RdrAt w b s k) (i : Nat) : w.frozen? ⟨b, i, none⟩ = false := by obtain ⟨A, n, c, h1⟩ := h; simp [World.frozen?, h1]
theorem RdrAt.lt {w : World} {b : Nat} {s : ByteArray} {k : Nat} (h : RdrAt w b s k) : b < w.heap.size := cell_lt h.c0
/-- A token under way, in block w.heap.size. -/
structure TkM (w : World) (b : Nat) (s : ByteArray) (k : Nat) (kd : Int) (k' : Nat) (xs : List Int) (wx : World) : Prop where
  gr : w.grownBy wx (some b)
  tk : wx.heap[w.heap.size]? = some (.cells #[.int .i64 kd, .string ⟨#[]⟩, .int .i64 k] 102 (0, 0))
  rd : ∃ (A : Option Addr) (n c : Nat), wx.heap[b]? = some (.cells #[.string s, .int .i64 k', .slice A n c] 140 (0, 0)) ∧ Rd wx A (xs.map (Value.int .u8)) ∧ xs.length = n
theorem rd_set {w : World} {A : Option Addr} {xs : List Value} (h : Rd w A xs) {tb : Nat} (hA : ∀ a, A = some a → a.block ≠ tb) (i : Nat) (v : Value) : Rd (w.setCell ⟨tb, i, none⟩ v) A xs := by
  rcases h with h0 | ⟨g, o, rfl, hx⟩
  · exact .inl h0
  · refine .inr ⟨g, o, rfl, fun j u hu => ?_⟩
    rw [World.cell?, Below.heap_setCell w ⟨tb, i, none⟩ v g (fun e => hA _ rfl e)]
    exact hx j u hu
/-- The world in which a token is begun: the token's block, the reader without a text. -/
def tkW (w : World) (b k : Nat) : World := (w.setCell ⟨b, 2, none⟩ (.slice none 0 0)).alloc (.cells #[.int .i64 0, .string ⟨#[]⟩, .int .i64 k] 102)
theorem tkW_size (w : World) (b k : Nat) : (tkW w b k).heap.size = w.heap.size + 1 := by simp [tkW, World.setCell]
theorem tkW_s0 (w : World) (b : Nat) : (w.setCell ⟨b, 2, none⟩ (.slice none 0 0)).heap.size = w.heap.size := by simp [World.setCell]
theorem tkW_gr (w : World) (b k : Nat) : w.grownBy (tkW w b k) (some b) := by
  refine ⟨rfl, rfl, rfl, by rw [tkW_size]; omega, fun j hj hne => ?_⟩
  unfold tkW
  rw [Below.heap_alloc _ _ _ (by rw [tkW_s0]; exact hj), Below.heap_setCell _ ⟨b, 2, none⟩ _ j (fun e => hne (by rw [e]))]
theorem tkW_tk (w : World) (b k : Nat) : (tkW w b k).heap[w.heap.size]? = some (.cells #[.int .i64 0, .string ⟨#[]⟩, .int .i64 k] 102 (0, 0)) := by
  have := heap_alloc_new (w.setCell ⟨b, 2, none⟩ (.slice none 0 0)) (.cells #[.int .i64 0, .string ⟨#[]⟩, .int .i64 k] 102)
  rw [tkW_s0] at this
  exact this
theorem tkW_ri (w : World) (b k : Nat) (s : ByteArray) (h : RdrAt w b s k) (hcx : ∀ w', w.grownBy w' (some b) → CtxL w') : RI (tkW w b k) b s k [] (tkW w b k) := by
  obtain ⟨A, n, c, h1⟩ := h
  have hlt := (Array.getElem?_eq_some_iff.1 h1).1
  refine ⟨World.grownBy.refl _ _, ⟨.slice none 0 0, 0, ?_, World.ownsRow_nil _ _ _ _⟩, by rw [tkW_size]; omega, fun w' hw' => hcx w' ((tkW_gr w b k).trans hw')⟩
  unfold tkW
  rw [Below.heap_alloc _ _ _ (by rw [tkW_s0]; exact hlt)]
  simp [World.setCell, Array.getElem?_modify, h1]
theorem TkM.of_ri {w wy : World} {b k k' : Nat} {s : ByteArray} {xs : List Int} (hb : b < w.heap.size) (h : RI (tkW w b k) b s k' xs wy) : TkM w b s k 0 k' xs wy := by
  obtain ⟨v, n, h1, h2⟩ := h.bk
  obtain ⟨A, c, rfl, _, hr⟩ := own_slice h2
  refine ⟨(tkW_gr w b k).trans h.gr, ?_, A, n, c, h1, hr, by have := h2.1; simpa using this⟩
  rw [h.gr.block _ (by rw [tkW_size]; omega) (by intro e; injection e with e; omega)]
  exact tkW_tk w b k
theorem TkM.of_set {w wy : World} {b k k' : Nat} {s : ByteArray} {xs : List Int} (kd : Int) (hb : b < w.heap.size) (h : RI (tkW w b k) b s k' xs wy) : TkM w b s k kd k' xs (wy.setCell ⟨w.heap.size, 0, none⟩ (.int .i64 kd)) := by
  obtain ⟨v, n, h1, h2⟩ := h.bk
  obtain ⟨A, c, rfl, _, hr⟩ := own_slice h2
  have h3 : wy.heap[w.heap.size]? = some (.cells #[.int .i64 0, .string ⟨#[]⟩, .int .i64 k] 102 (0, 0)) := by
    rw [h.gr.block _ (by rw [tkW_size]; omega) (by intro e; injection e with e; omega)]
    exact tkW_tk w b k
  refine ⟨gr_set ((tkW_gr w b k).trans h.gr) (Nat.le_refl _) _ _, ?_, A, n, c, ?_, rd_set hr ?_ _ _, by have := h2.1; simpa using this⟩
  · simp [World.setCell, Array.getElem?_modify, h3]
  · rw [Below.heap_setCell _ ⟨w.heap.size, 0, none⟩ _ _ (by simp only; omega)]; exact h1
  · intro a ha
    subst ha
    have := (h2.lt a.block rfl).1
    rw [tkW_size] at this
    omega
end Go.Proofs.YtpnlabjgmdhicaaGreatDoor
