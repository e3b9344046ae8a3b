/- The program's package check, walked: Query. The program's package check, walked: Needs, Told. The program's package check, walked: Told. The kit's marks. -/
import Derived.Test.YtfijpdmkdoccjaaGreatDoorJChk6
import Derived.Test.YtfijpdmkdoccjaaGreatDoorJFilProg
namespace Go.Proofs.YtfijpdmkdoccjaaGreatDoor
open Go Go.RowKit Go.Maps Go.ChangeMaps Go.Shelf Um Fm Mt Mp
attribute [local go_sem] Oper.semAt_some

/-- Why a query may not be asked. -/
def errOf {n : Nat} (q : Qy n) : Int := errQ (rightQ q) q.vars (keysN q.ord) (usedN n q.fils) (varsN q.pats)
theorem errOf_no {n : Nat} {q : Qy n} (h : rightQ q = false) : errOf q = 2 := by unfold errOf errQ; rw [h]; rfl
theorem errOf_twice {n : Nat} {q : Qy n} (h : rightQ q = true) (h2 : (dupB q.vars || dupB (keysN q.ord)) = true) : errOf q = 9 := by unfold errOf errQ; rw [h, h2]; rfl
theorem errOf_lack {n : Nat} {q : Qy n} (h : rightQ q = true) (h2 : (dupB q.vars || dupB (keysN q.ord)) = false) : errOf q = if lackB (varsN q.pats) (saidQ q) then 15 else 0 := by
  unfold errOf errQ saidQ; rw [h, h2, List.append_assoc]; rfl
theorem lackB_app (k a b : List ByteArray) : lackB k (a ++ b) = (lackB k a || lackB k b) := List.any_append
/-- What lies between two rounds of Query. -/
structure QryI (w : World) (Bc r : Nat) (known : List ByteArray) (W : World) : Prop where
  res : (W.cell? ⟨w.heap.size + 1, 0, none⟩).isSome = true
  fres : W.frozen? ⟨w.heap.size + 1, 0, none⟩ = false
  chk : W.cell? ⟨Bc, 0, none⟩ = some (.map (some r))
  cnt : CntOf W r (meetM [] known)
  below : Below w.heap.size w W
  lt : Bc < W.heap.size
theorem QryI.own {w : World} {Bc r : Nat} {known : List ByteArray} {S : Nat} (hrS : r < S) (hwS : w.heap.size ≤ S) {A B : World} {row : Option Nat} (h : QryI w Bc r known A) (hg : A.grownBy B row) (hr : ∀ q, row = some q → S ≤ q ∧ ∃ o : Obj, A.heap[q]? = some o ∧ o.isCells = false) : QryI w Bc r known B := by
  have hr2 : ∀ q, row = some q → ∃ o : Obj, A.heap[q]? = some o ∧ o.isCells = false := fun q e => (hr q e).2
  obtain ⟨v, hv⟩ := Option.isSome_iff_exists.1 h.res
  refine ⟨by rw [cell_kept hv hg hr2]; rfl, (frozen_kept hv hg hr2).trans h.fres, cell_kept h.chk hg hr2, ?_, h.below.grown hg h.below.size fun q e => by have := (hr q e).1; omega, Nat.lt_of_lt_of_le h.lt hg.size⟩
  have hc := h.cnt
  unfold CntOf at hc ⊢
  rw [hg.block r (Array.getElem?_eq_some_iff.1 hc).1 (fun e => by have := (hr r e.symm).1; omega)]; exact hc
theorem QryI.later {w : World} {Bc r : Nat} {known : List ByteArray} {A B : World} (h : QryI w Bc r known A) (hb : Below A.heap.size A B) : QryI w Bc r known B := by
  obtain ⟨v, hv⟩ := Option.isSome_iff_exists.1 h.res
  exact ⟨by rw [cell_on hv hb]; rfl, by rw [hb.frozen (cell_lt hv)]; exact h.fres, cell_on h.chk hb, h.cnt.on hb, below_tr h.below hb, Nat.lt_of_lt_of_le h.lt hb.size⟩
theorem chk_stored {B Bc r : Nat} {v : World} {z vs : Array Value} {T : TypeId} {m : List (ByteArray × Int)} (hz : v.heap[Bc]? = some (.cells z T (0, 0))) (hM : CntOf v r m) (hBc : B ≤ Bc) :
    (v.setRow Bc vs).heap[Bc]? = some (.cells vs T (0, 0)) ∧ CntOf (v.setRow Bc vs) r m ∧ Below B v (v.setRow Bc vs) := by
  refine ⟨setRow_heap v Bc _ vs T (0, 0) hz, ?_, below_setRow (Below.refl _ _) hBc _⟩
  unfold CntOf at hM ⊢
  rw [setRow_other _ _ _ _ (fun e => by rw [e, hz] at hM; cases hM)]; exact hM
end Go.Proofs.YtfijpdmkdoccjaaGreatDoor
namespace Go.Proofs.YtfijpdmkdoccjaaGreatDoor
open Go Go.RowKit Go.Maps Go.ChangeMaps Go.Shelf Um Fm Mt Mp

/-- What a query needs. -/
def needsOf {n : Nat} (q : Qy n) : List ByteArray := needN (varsN q.pats) (saidQ q)
theorem needN_take (known l : List ByteArray) {k : Nat} {s : ByteArray} (h : known[k]? = some s) : needN (known.take (k + 1)) l = needN (known.take k) l ++ if hasS l s then [s] else [] := by
  rw [take_snoc_of h, needN_snoc]
def NeedL (w : World) (known said : List ByteArray) (v i : Value) (wr : World) : Prop := ∃ (k : Nat) (v' : Value), k ≤ known.length ∧ i = .int .i64 k ∧ v = v' ∧ wr.ownsRow w.heap.size 9 1 v' (needN (known.take k) said).length ((needN (known.take k) said).map Value.string) ∧ Below w.heap.size w wr
theorem own_mono {w : World} {B B' : Nat} {e : TypeId} {size n : Nat} {v : Value} {xs : List Value} (h : w.ownsRow B e size v n xs) (hb : B' ≤ B) : w.ownsRow B' e size v n xs := by
  obtain ⟨h1, h2⟩ := h
  refine ⟨h1, ?_⟩
  rcases h2 with h2 | ⟨g, cap, cur, e1, e2, e3⟩
  · exact .inl h2
  · exact .inr ⟨g, cap, cur, e1, Nat.le_trans hb e2, e3⟩
end Go.Proofs.YtfijpdmkdoccjaaGreatDoor
namespace Go.Proofs.YtfijpdmkdoccjaaGreatDoor
open Go Go.RowKit Um Fm Mt

theorem intInfo' : (Tryz.prog.info? 3).map (fun i => (i.zero, i.size, i.bytes)) = some (some (.int .i64 0), 1, 8) := by kernel_rfl
def NumsR (l : List Int) (w : World) (e : Ending) (w' : World) : Prop := ∃ v, e = .returned v ∧ w'.ownsRow w.heap.size 3 1 v l.length (l.map (Value.int .i64)) ∧ Below w.heap.size w w'
end Go.Proofs.YtfijpdmkdoccjaaGreatDoor
namespace Go.Proofs.YtfijpdmkdoccjaaGreatDoor
open Go Go.RowKit Um Fm Mt

/-- The text that marks a place. -/
def mkT (k i : Int) : ByteArray := strOfNums [35, k % 256, k / 256, k / 65536, 47, i % 256, i / 256 % 256, i / 65536]
theorem conv_new' (xs : List Int) (n : Nat) (hn : xs.length = n) (W : World) (o : Obj) (c : Nat) (hr : Rd (W.alloc o) (some ⟨W.heap.size, 0, none⟩) (xs.map (Value.int .u8))) :
    (convert 98 9 (.slice (some ⟨W.heap.size, 0, none⟩) n c)).run Tryz.prog (W.alloc o) = .ok (.string (strOfNums xs)) (W.alloc o) :=
  run_conv_bytes 98 9 5 Tryz.underlying98 Tryz.underlying5 Tryz.underlying9 hr hn
set_option maxRecDepth 10000 in
theorem markTxt (k i : Int) (w : World) (hk0 : 0 ≤ k) (hk1 : k ≤ 1000) (hi0 : 0 ≤ i) (hi1 : i ≤ 1000000) :
    Calls Tryz.prog 56 #[.int .i64 k, .int .i64 i] w fun e w' => e = .returned (.string (mkT k i)) ∧ Below w.heap.size w w' := by
  have hcv := conv_new' [35, k % 256, k / 256, k / 65536, 47, i % 256, i / 256 % 256, i / 65536] 8 rfl w (.cells #[.int .u8 35, .int .u8 (k % 256), .int .u8 (k / 256), .int .u8 (k / 65536), .int .u8 47, .int .u8 (i % 256), .int .u8 (i / 256 % 256), .int .u8 (i / 65536)] 5) 8 (Rd.of_block (heap_alloc_new w _) rfl)
  rw [show strOfNums [35, k % 256, k / 256, k / 65536, 47, i % 256, i / 256 % 256, i / 65536] = mkT k i from rfl] at hcv
  generalize mkT k i = s at *
  go_enter Tryz.func56, Tryz.ntmps56
  go_wp2
  go_ret
  exact ⟨rfl, (by repeat (first | exact Below.refl _ _ | assumption | exact (Below.refl _ _).alloc (Nat.le_refl _) _ | refine below_tr ?_ (by assumption) | refine below_alloc ?_ | refine below_tr ?_ (below_regrown _ _ _)))⟩
theorem kitMark1 (i : Int) (w : World) (h0 : 0 ≤ i) (h1 : i ≤ 1000000) :
    Calls Tryz.prog 83 #[.int .i64 1, .int .i64 i] w fun e w' => e = .returned (.int .i64 (8000024 + i)) ∧ w = w' := by
  go_enter Tryz.func83, Tryz.ntmps83
  go_wp2
  go_ret
  exact ⟨by simp; try omega, rfl⟩
def mkTm (i : Int) : Tm := ⟨8000024 + i, ⟨#[]⟩, ⟨#[]⟩, ⟨#[]⟩⟩
theorem markTm (i : Int) (w : World) (h0 : 0 ≤ i) (h1 : i ≤ 1000000) :
    Calls Tryz.prog 57 #[.int .i64 1, .int .i64 i] w fun e w' => e = .returned (.agg #[.int .i64 (8000024 + i), .string ⟨#[]⟩, .string ⟨#[]⟩, .string ⟨#[]⟩]) ∧ Below w.heap.size w w' := by
  have hm := fun W => kitMark1 i W h0 h1
  generalize 8000024 + i = v at *
  go_enter Tryz.func57, Tryz.ntmps57
  go_wp2_with (refine (hm _).mono ?_; rintro e w3 ⟨rfl, rfl⟩)
  exact bodyPost_ret (v := .agg #[.int .i64 v, .string ⟨#[]⟩, .string ⟨#[]⟩, .string ⟨#[]⟩]) (by simp [results, Tryz.results57, go_sem]) rfl ⟨rfl, (by repeat (first | exact Below.refl _ _ | assumption | exact (Below.refl _ _).alloc (Nat.le_refl _) _ | refine below_tr ?_ (by assumption) | refine below_alloc ?_ | refine below_tr ?_ (below_regrown _ _ _)))⟩
def mkE (i : Int) : List Value := [.int .i64 (8000024 + i), .string ⟨#[]⟩, .int .i64 0, .string ⟨#[]⟩, .string ⟨#[]⟩, .string ⟨#[]⟩, .slice none 0 0]
theorem markEx (i : Int) (w : World) (h0 : 0 ≤ i) (h1 : i ≤ 1000000) :
    Calls Tryz.prog 55 #[.int .i64 1, .int .i64 i] w fun e w' => e = .returned (.agg (mkE i).toArray) ∧ Below w.heap.size w w' := by
  have hm := fun W => kitMark1 i W h0 h1
  unfold mkE
  generalize 8000024 + i = v at *
  go_enter Tryz.func55, Tryz.ntmps55
  go_wp2_with (refine (hm _).mono ?_; rintro e w3 ⟨rfl, rfl⟩)
  exact bodyPost_ret (v := .agg #[.int .i64 v, .string ⟨#[]⟩, .int .i64 0, .string ⟨#[]⟩, .string ⟨#[]⟩, .string ⟨#[]⟩, .slice none 0 0]) (by simp [results, Tryz.results55, go_sem]) rfl ⟨rfl, (by repeat (first | exact Below.refl _ _ | assumption | exact (Below.refl _ _).alloc (Nat.le_refl _) _ | refine below_tr ?_ (by assumption) | refine below_alloc ?_ | refine below_tr ?_ (below_regrown _ _ _)))⟩
end Go.Proofs.YtfijpdmkdoccjaaGreatDoor
