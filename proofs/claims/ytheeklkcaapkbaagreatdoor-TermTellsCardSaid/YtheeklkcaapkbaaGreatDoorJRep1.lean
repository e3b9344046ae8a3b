/- sync.Once, entered alone: the first call of Do. How signs of literals are written: a table, and how long a text gets. term.escapes, strings.NewReplacer over its four pairs. -/
import Derived.Test.YtheeklkcaapkbaaGreatDoorJMem
import Derived.Defers
import Derived.Laws.Pointers
import Derived.Laws.LoneSync
import Derived.RegionCalls
import Derived.Test.YtheeklkcaapkbaaGreatDoorJTxMath
import Derived.Lib.Bytealg
namespace Go.Proofs.YtheeklkcaapkbaaGreatDoor
open Go Go.RowKit

theorem onDisable (w : World) : (callFunc 177 #[]).run Tryz.prog w = .ok (.value (.tuple #[])) w := run_call_mark0 Tryz.func177 (by kernel_rfl) (by kernel_rfl) (by kernel_rfl) .disable (by kernel_rfl) w
theorem onEnable (w : World) : (callFunc 179 #[]).run Tryz.prog w = .ok (.value (.tuple #[])) w := run_call_mark0 Tryz.func179 (by kernel_rfl) (by kernel_rfl) (by kernel_rfl) .enable (by kernel_rfl) w
theorem onAcquire (a : Addr) (w : World) : (callFunc 180 #[.pointer (some a)]).run Tryz.prog w = .ok (.value (.tuple #[])) w := run_call_marked Tryz.func180 (by kernel_rfl) (by kernel_rfl) (by kernel_rfl) .acquire (by kernel_rfl) a w
theorem onRelease (a : Addr) (w : World) : (callFunc 182 #[.pointer (some a)]).run Tryz.prog w = .ok (.value (.tuple #[])) w := run_call_marked Tryz.func182 (by kernel_rfl) (by kernel_rfl) (by kernel_rfl) .releaseMerge (by kernel_rfl) a w

/-- '(*sync/atomic.Bool).Store(true)', entered as a deferred call: the cell holds 1. -/
theorem onStore (a : Addr) (x : Value) (u : FrameMode) (w : World) (hc : w.cell? a = some x) (hz : w.frozen? a = false) :
    CallsD Tryz.prog 141 #[.pointer (some a), .bool true] u w fun e u' w' => u' = u ∧ (e = .returned (.tuple #[]) ∧ w' = w.drew.setCell a (.int .u32 1)) := by
  have hc' : w.drew.cell? a = some x := by go_simp
  have hz' : w.drew.frozen? a = false := by go_simp
  have hst := run_call_store (P := Tryz.prog) Tryz.func163 (by kernel_rfl) (by kernel_rfl) (by kernel_rfl) (by kernel_rfl) (k := .u32) (y := 1) hc' hz'
  go_enter_d Tryz.func141, Tryz.ntmps141
  go_wp2
  go_region_calls
  all_goals (go_end0; exact ⟨rfl, rfl⟩)
set_option maxRecDepth 100000 in
/-- '(*sync.Mutex).Unlock', entered as a deferred call, the lock held and nobody waiting: free. -/
theorem onUnlock (a : Addr) (u : FrameMode) (w : World) (hc : w.cell? a = some (.int .i32 1)) (hz : w.frozen? a = false) :
    CallsD Tryz.prog 140 #[.pointer (some a)] u w fun e u' w' => u' = u ∧ (e = .returned (.tuple #[]) ∧ w' = w.setCell a (.int .i32 0)) := by
  have hd := onDisable
  have he := onEnable
  have hr := onRelease
  have hadd := run_call_add (P := Tryz.prog) Tryz.func183 (by kernel_rfl) (by kernel_rfl) (by kernel_rfl) .i32 (by kernel_rfl) (y := -1) (s := 0) hc hz (by simp [go_sem]; rfl)
  have hcv := run_convert_to_unsafe (P := Tryz.prog) (src := 206) (dst := 147) Tryz.underlying206 Tryz.underlying147 (by kernel_rfl) hc
  go_enter_d Tryz.func140, Tryz.ntmps140
  go_wp2
  go_end0
  exact ⟨rfl, rfl⟩
set_option maxRecDepth 100000 in
/-- '(*sync.Mutex).Lock', the lock free: held. -/
theorem onLock (a : Addr) (w : World) (hc : w.cell? a = some (.int .i32 0)) (hz : w.frozen? a = false) :
    Calls Tryz.prog 139 #[.pointer (some a)] w fun e w' => e = .returned (.tuple #[]) ∧ w' = w.setCell a (.int .i32 1) := by
  have hd := onDisable
  have he := onEnable
  have ha := onAcquire
  have hcas := run_call_cas_hit (P := Tryz.prog) Tryz.func178 (by kernel_rfl) (by kernel_rfl) (by kernel_rfl) .i32 (by kernel_rfl) (y := 1) hc hz
  have hc' : (w.setCell a (.int .i32 1)).cell? a = some (.int .i32 1) := World.cell?_setCell_same w a _ hc
  have hcv := run_convert_to_unsafe (P := Tryz.prog) (src := 206) (dst := 147) Tryz.underlying206 Tryz.underlying147 (by kernel_rfl) hc'
  go_enter Tryz.func139, Tryz.ntmps139
  go_wp2
  first | go_end0 | (simp only [Exit.inBlock, Exit.then]; refine bodyPost_ret (results_none rfl _ _ _) rfl ?_) | refine bodyPost_ret (results_none rfl _ _ _) rfl ?_
  exact ⟨rfl, rfl⟩
/-- The world behind the first Do of f: the lock taken, f run (W2), done stored, the lock let go. -/
def onDone (b off : Nat) (W2 : World) : World := (W2.drew.setCell ⟨b, off, none⟩ (.int .u32 1)).setCell ⟨b, off + 1, none⟩ (.int .i32 0)
set_option maxRecDepth 100000 in
set_option maxHeartbeats 1600000 in
/-- '(*sync.Once).doSlow', not yet done, the lock free; f: a function with one bound argument, that leaves the Once's three cells alone. -/
theorem onSlow (b off fn : Nat) (x : Value) (w : World) (efn : ∀ args W, (callFunc fn args).run Tryz.prog W = .ok (.enter fn args) W)
    (h0 : w.cell? ⟨b, off, none⟩ = some (.int .u32 0)) (h1 : w.cell? ⟨b, off + 1, none⟩ = some (.int .i32 0))
    (_f0 : w.frozen? ⟨b, off, none⟩ = false) (f1 : w.frozen? ⟨b, off + 1, none⟩ = false)
    {Q : World → Prop} (hQ : ∀ W, Q W → W.cell? ⟨b, off, none⟩ = some (.int .u32 0) ∧ W.cell? ⟨b, off + 1, none⟩ = some (.int .i32 1) ∧ W.frozen? ⟨b, off, none⟩ = false ∧ W.frozen? ⟨b, off + 1, none⟩ = false)
    (hf : Calls Tryz.prog fn #[x] (w.setCell ⟨b, off + 1, none⟩ (.int .i32 1)) fun e w' => e = .returned (.tuple #[]) ∧ Q w') :
    Calls Tryz.prog 114 #[.pointer (some ⟨b, off, none⟩), .func (.func fn) #[x] #[]] w fun e w' => e = .returned (.tuple #[]) ∧ ∃ W2, Q W2 ∧ w' = onDone b off W2 := by
  have hl := run_call_load (P := Tryz.prog) Tryz.func138 (by kernel_rfl) (by kernel_rfl) (by kernel_rfl) .u32 (by kernel_rfl) (w := w.setCell ⟨b, off + 1, none⟩ (.int .i32 1)) (a := ⟨b, off, none⟩) (x := 0) ((World.cell?_setCell_other _ ⟨b, off + 1, none⟩ ⟨b, off, none⟩ _ (by simp)).trans h0)
  have hnot : ∀ (x : Bool) (w : World), (Op.unary .not (.bool x)).run Tryz.prog w = .ok (.bool (!x)) w := fun _ _ => rfl
  go_enter_defers Tryz.func114, Tryz.ntmps114
  go_wp2_with (first | (go_at_call 139; refine (onLock ⟨b, off + 1, none⟩ _ (by go_simp) (by go_simp)).mono ?_; rintro e w' ⟨rfl, rfl⟩) | (go_at_call 113; go_in) | (go_at_fn fn; refine hf.mono ?_; rintro e W2 ⟨rfl, hq⟩))
  obtain ⟨q0, q1, z0, z1⟩ := hQ _ hq
  refine leaves_cons (f := 141) (args := #[.pointer (some ⟨b, off, none⟩), .bool true]) (by simp) (by simp [go_sem]) ?_
  refine (onStore ⟨b, off, none⟩ (.int .u32 0) .returning _ q0 z0).mono ?_
  rintro e u' w'' ⟨rfl, rfl, rfl⟩
  refine leaves_cons (f := 140) (args := #[.pointer (some ⟨b, off + 1, none⟩)]) (by simp [settle]) (by simp [go_sem]) ?_
  refine (onUnlock ⟨b, off + 1, none⟩ _ _ ?_ (by simp [z1])).mono ?_
  · refine (World.cell?_setCell_other _ ⟨b, off, none⟩ ⟨b, off + 1, none⟩ _ (by simp)).trans ?_
    rw [World.cell?_drew]
    exact q1
  rintro e u' w'' ⟨rfl, rfl, rfl⟩
  simp only [Leaves, settle, results, Tryz.results114]
  refine ⟨_, by simp [go_sem], rfl, W2, hq, rfl⟩
set_option maxRecDepth 100000 in
set_option maxHeartbeats 1600000 in
/-- '(*sync.Once).Do', not yet done, the lock free. -/
theorem onDo (b off fn : Nat) (x : Value) (w : World) (efn : ∀ args W, (callFunc fn args).run Tryz.prog W = .ok (.enter fn args) W)
    (h0 : w.cell? ⟨b, off, none⟩ = some (.int .u32 0)) (h1 : w.cell? ⟨b, off + 1, none⟩ = some (.int .i32 0))
    (f0 : w.frozen? ⟨b, off, none⟩ = false) (f1 : w.frozen? ⟨b, off + 1, none⟩ = false)
    {Q : World → Prop} (hQ : ∀ W, Q W → W.cell? ⟨b, off, none⟩ = some (.int .u32 0) ∧ W.cell? ⟨b, off + 1, none⟩ = some (.int .i32 1) ∧ W.frozen? ⟨b, off, none⟩ = false ∧ W.frozen? ⟨b, off + 1, none⟩ = false)
    (hf : Calls Tryz.prog fn #[x] (w.setCell ⟨b, off + 1, none⟩ (.int .i32 1)) fun e w' => e = .returned (.tuple #[]) ∧ Q w') :
    Calls Tryz.prog 81 #[.pointer (some ⟨b, off, none⟩), .func (.func fn) #[x] #[]] w fun e w' => e = .returned (.tuple #[]) ∧ ∃ W2, Q W2 ∧ w' = onDone b off W2 := by
  have hl := run_call_load (P := Tryz.prog) Tryz.func138 (by kernel_rfl) (by kernel_rfl) (by kernel_rfl) .u32 (by kernel_rfl) h0
  have hnot : ∀ (x : Bool) (w : World), (Op.unary .not (.bool x)).run Tryz.prog w = .ok (.bool (!x)) w := fun _ _ => rfl
  have hs := onSlow b off fn x w efn h0 h1 f0 f1 hQ hf
  clear hQ hf efn
  go_enter Tryz.func81, Tryz.ntmps81
  go_wp2_with (first | (go_at_call 114; refine hs.mono ?_; rintro e w' ⟨rfl, hw⟩) | (go_at_call 113; go_in))
  go_end0
  exact ⟨rfl, hw⟩
end Go.Proofs.YtheeklkcaapkbaaGreatDoor
namespace Go.Proofs.YtheeklkcaapkbaaGreatDoor.Tx
open Go Go.RowKit Um Fm Lx

def rpX (j : Nat) : List UInt8 := if j = 34 then [92, 34] else if j = 92 then [92, 92] else if j = 10 then [92, 110] else if j = 13 then [92, 114] else []
def isE (c : UInt8) : Bool := !(rpX c.toNat).isEmpty
theorem rp_len {j : Nat} : (rpX j).length = 0 ∨ (rpX j).length = 2 := by
  unfold rpX; repeat' split
  all_goals simp
theorem u8_eq (c d : UInt8) : (c = d) ↔ c.toNat = d.toNat := UInt8.toNat_inj.symm
theorem litC_rp (c : UInt8) : litC c = if isE c then rpX c.toNat else [c] := by
  unfold litC isE rpX
  simp only [u8_eq]
  by_cases h1 : c.toNat = 34
  · simp [h1]
  by_cases h2 : c.toNat = 92
  · simp [h2]
  by_cases h3 : c.toNat = 10
  · simp [h3]
  by_cases h4 : c.toNat = 13
  · simp [h4]
  simp [h1, h2, h3, h4]
theorem litL_cons (c : UInt8) (t : List UInt8) : litL (c :: t) = litC c ++ litL t := by unfold litL; rw [List.flatMap_cons]
theorem litL_app (a b : List UInt8) : litL (a ++ b) = litL a ++ litL b := List.flatMap_append
theorem litL_escs : ∀ l : List UInt8, (litL l).length = l.length + l.countP isE
  | [] => rfl
  | c :: t => by
    rw [litL_cons, List.length_append, litL_escs t, litC_rp, List.countP_cons, List.length_cons]
    cases h : isE c
    · simp; omega
    · have hl : (rpX c.toNat).length = 2 := by
        rcases rp_len (j := c.toNat) with h2 | h2
        · rw [isE, List.isEmpty_iff.2 (List.length_eq_zero_iff.1 h2)] at h; cases h
        · exact h2
      simp [hl]; omega
theorem litL_same : ∀ l : List UInt8, l.countP isE = 0 → litL l = l
  | [], _ => rfl
  | c :: t, h => by
    rw [List.countP_cons] at h
    cases hc : isE c
    · rw [litL_cons, litC_rp, hc, litL_same t (by omega)]; rfl
    · rw [hc] at h; simp at h
theorem litL_snoc (l : List UInt8) (k : Nat) (c : UInt8) (h : l[k]? = some c) : litL (l.take (k + 1)) = litL (l.take k) ++ litC c := by
  rw [List.take_add_one, h, Option.toList_some, litL_app, litL_cons]
  show _ = _
  rw [show litL [] = [] from rfl, List.append_nil]
theorem escs_snoc (l : List UInt8) (k : Nat) (c : UInt8) (h : l[k]? = some c) : (l.take (k + 1)).countP isE = (l.take k).countP isE + (if isE c then 1 else 0) := by
  rw [List.take_add_one, h, Option.toList_some, List.countP_append, List.countP_cons, List.countP_nil, Nat.zero_add]
theorem escs_le (l : List UInt8) (k : Nat) : (l.take k).countP isE ≤ l.countP isE := by
  conv => rhs; rw [← List.take_append_drop k l, List.countP_append]
  exact Nat.le_add_right _ _
/-- The signs to be written otherwise, in the order in which they are looked for. -/
def rpN (i : Nat) : UInt8 := if i = 0 then 13 else if i = 1 then 10 else if i = 2 then 34 else 92
theorem escs_four (l : List UInt8) : l.countP isE = Lib.countByte l (rpN 0) + Lib.countByte l (rpN 1) + Lib.countByte l (rpN 2) + Lib.countByte l (rpN 3) := by
  have e0 : rpN 0 = 13 := rfl
  have e1 : rpN 1 = 10 := rfl
  have e2 : rpN 2 = 34 := rfl
  have e3 : rpN 3 = 92 := rfl
  rw [e0, e1, e2, e3]
  unfold Lib.countByte
  induction l with
  | nil => rfl
  | cons c t ih =>
    rw [List.countP_cons, List.count_cons, List.count_cons, List.count_cons, List.count_cons, ih]
    have hc : (if isE c = true then 1 else 0) = (if (c == 13) = true then 1 else 0) + (if (c == 10) = true then 1 else 0) + (if (c == 34) = true then 1 else 0) + (if (c == 92) = true then 1 else 0) := by
      by_cases h1 : c = 34
      · subst h1; decide
      by_cases h2 : c = 92
      · subst h2; decide
      by_cases h3 : c = 10
      · subst h3; decide
      by_cases h4 : c = 13
      · subst h4; decide
      have h5 : isE c = false := by
        unfold isE rpX
        have g1 : ¬ c.toNat = 34 := fun e => h1 ((u8_eq _ _).2 e)
        have g2 : ¬ c.toNat = 92 := fun e => h2 ((u8_eq _ _).2 e)
        have g3 : ¬ c.toNat = 10 := fun e => h3 ((u8_eq _ _).2 e)
        have g4 : ¬ c.toNat = 13 := fun e => h4 ((u8_eq _ _).2 e)
        rw [if_neg g1, if_neg g2, if_neg g3, if_neg g4]; rfl
      simp [h1, h2, h3, h4, h5]
    rw [hc]; omega
def cntK (l : List UInt8) : Nat → Nat
  | 0 => 0
  | k + 1 => cntK l k + Lib.countByte l (rpN k)
theorem cnt_four (l : List UInt8) : cntK l 4 = l.countP isE := by
  rw [escs_four]
  simp only [cntK, Nat.zero_add]
theorem cnt_le (l : List UInt8) : ∀ k, cntK l k ≤ k * l.length
  | 0 => by simp [cntK]
  | k + 1 => by
    have h1 := cnt_le l k
    have h2 : Lib.countByte l (rpN k) ≤ l.length := List.count_le_length
    rw [cntK, Nat.succ_mul]; omega
/-- The table, k signs of it laid. -/
def rpT (k j : Nat) : List UInt8 := if (j = 13 ∧ 0 < k) ∨ (j = 10 ∧ 1 < k) ∨ (j = 34 ∧ 2 < k) ∨ (j = 92 ∧ 3 < k) then rpX j else []
theorem rpT_zero (j : Nat) : rpT 0 j = [] := by unfold rpT; rw [if_neg (by omega)]
theorem rpT_four (j : Nat) : rpT 4 j = rpX j := by
  unfold rpT rpX
  by_cases h1 : j = 34
  · simp [h1]
  by_cases h2 : j = 92
  · simp [h2]
  by_cases h3 : j = 10
  · simp [h3]
  by_cases h4 : j = 13
  · simp [h4]
  simp [h1, h2, h3, h4]
theorem rpT_succ (k j : Nat) (hk : k < 4) : rpT (k + 1) j = if j = (rpN k).toNat then rpX j else rpT k j := by
  match k, hk with
  | 0, _ => unfold rpT; rw [show (rpN 0).toNat = 13 from rfl]; by_cases h : j = 13 <;> simp [h] <;> omega
  | 1, _ => unfold rpT; rw [show (rpN 1).toNat = 10 from rfl]; by_cases h : j = 10 <;> simp [h]
  | 2, _ => unfold rpT; rw [show (rpN 2).toNat = 34 from rfl]; by_cases h : j = 34 <;> simp [h]
  | 3, _ => unfold rpT; rw [show (rpN 3).toNat = 92 from rfl]; by_cases h : j = 92 <;> simp [h]
end Go.Proofs.YtheeklkcaapkbaaGreatDoor.Tx
namespace Go.Proofs.YtheeklkcaapkbaaGreatDoor
open Go Go.RowKit Um Fm Tx

theorem strInfo8 : (Tryz.prog.info? 9).map (fun i => (i.zero, i.size, i.bytes)) = some (some (.string ⟨#[]⟩), 1, 16) := by kernel_rfl
abbrev escL : List ByteArray := [⟨#[92]⟩, ⟨#[92, 92]⟩, ⟨#[34]⟩, ⟨#[92, 34]⟩, ⟨#[10]⟩, ⟨#[92, 110]⟩, ⟨#[13]⟩, ⟨#[92, 114]⟩]
/-- A replacer of these pairs, not yet built, in block b. -/
def RepAt (B b : Nat) (w : World) : Prop := B ≤ b ∧ ∃ (v : Value), w.heap[b]? = some (.cells #[.int .u32 0, .int .i32 0, .int .u32 0, .nilIface, v] 106 (0, 0)) ∧ w.ownsRow B 9 1 v 8 (escL.map Value.string)
theorem own_down {w : World} {B B' : Nat} {e : TypeId} {s : Nat} {v : Value} {n : Nat} {xs : List Value} (h : w.ownsRow B e s v n xs) (hb : B' ≤ B) : w.ownsRow B' e s v n xs :=
  ⟨h.1, h.2.imp id fun ⟨g, cap, cur, hv, hB, r⟩ => ⟨g, cap, cur, hv, Nat.le_trans hb hB, r⟩⟩
set_option maxRecDepth 100000 in
theorem newReplacer (g : Nat) (w : World) (hA : Rd w (some ⟨g, 0, none⟩) (escL.map Value.string)) :
    Calls Tryz.prog 80 #[.slice (some ⟨g, 0, none⟩) 8 8] w fun e w' => ∃ b, e = .returned (.pointer (some ⟨b, 0, none⟩)) ∧ RepAt w.heap.size b w' ∧ Below w.heap.size w w' := by
  have hown : w.ownsRow w.heap.size 9 1 (.slice none 0 0) 0 [] := World.ownsRow_nil _ _ _ _
  have H1 : ∀ u ∈ escL.map Value.string, u.oneCell' = true := by
    intro u hu; obtain ⟨x, _, rfl⟩ := List.mem_map.1 hu; rfl
  go_enter Tryz.func80, Tryz.ntmps80
  go_wp2_with (at_builtin; refine wpList_app (m := 8) rfl rfl Tryz.underlying49 strInfo8 rfl (by omega) rfl hown rfl hA rfl H1 (by omega) (by omega) (by omega) ?_; intro v1 w1 own1 hb1; obtain ⟨A1, c1, rfl, _, _⟩ := own_slice own1)
  go_ret
  rw [Nat.zero_add, List.nil_append] at own1
  exact ⟨_, rfl, ⟨hb1.size, _, heap_alloc_new w1 _, own1.alloc _⟩, hb1.alloc hb1.size _⟩
set_option maxRecDepth 100000 in
theorem termEscapes (w : World) : Calls Tryz.prog 51 #[] w fun e w' => ∃ b, e = .returned (.pointer (some ⟨b, 0, none⟩)) ∧ RepAt w.heap.size b w' ∧ Below w.heap.size w w' := by
  have hb : Below w.heap.size w (w.alloc (.cells (escL.map Value.string).toArray 9)) := (by repeat (first | exact Below.refl _ _ | assumption | exact (Below.refl _ _).alloc (Nat.le_refl _) _ | refine below_tr ?_ (by assumption) | refine below_alloc ?_ | refine below_tr ?_ (below_regrown _ _ _)))
  have h := newReplacer w.heap.size _ (Rd.of_block (heap_alloc_new w (.cells (escL.map Value.string).toArray 9)) rfl)
  have HB := Lib.hid hb
  go_enter Tryz.func51, Tryz.ntmps51
  go_wp2_with (go_at_call 80; refine h.mono ?_; rintro e w2 ⟨b, rfl, ⟨k1, v, k2, k3⟩, k4⟩)
  go_ret
  have hs := HB.out.size
  exact ⟨b, rfl, ⟨by omega, v, k2, own_down k3 (by omega)⟩, below_tr HB.out k4⟩
end Go.Proofs.YtheeklkcaapkbaaGreatDoor
