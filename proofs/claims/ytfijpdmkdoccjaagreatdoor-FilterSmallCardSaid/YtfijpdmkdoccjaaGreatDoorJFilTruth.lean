/- The program's package filter, walked: a judge's not, many. The program's package filter, walked: what a judge says of a condition. -/
import Derived.Test.YtfijpdmkdoccjaaGreatDoorJFilAlone
import Derived.Test.YtfijpdmkdoccjaaGreatDoorJSameInts
import Derived.Test.YtfijpdmkdoccjaaGreatDoorJFilTwo
namespace Go.Proofs.YtfijpdmkdoccjaaGreatDoor
open Go Go.RowKit Go.Maps Go.ChangeMaps Fm

/-- What a judge says of a condition, wherever it lies in a later world. -/
def Says (vars : List ByteArray) (row : List Tm) (b : Nat) (w : World) (n : Nat) (x : ExT n) : Prop :=
  ∀ (cs : List Value) (W : World), Below w.heap.size w W → RdE n W cs x → Calls Tryz.prog 59 #[.pointer (some ⟨b, 0, none⟩), .agg cs.toArray] W
    fun e w' => e = .returned (.int .i64 (ofI vars row n x)) ∧ Below W.heap.size W w'

set_option maxRecDepth 10000 in
set_option maxHeartbeats 1000000 in
theorem filJNot (vars : List ByteArray) (row : List Tm) (b : Nat) (k : Int) (s : ByteArray) (t : Tm) (A : Option Addr) (c n : Nat) (kids : List (ExT n)) (w : World) (hk : RdEs n w A kids) (hkl : kids.length ≤ 1353245080300)
    (ih : ∀ x ∈ kids, Says vars row b w n x) :
    Calls Tryz.prog 86 #[.pointer (some ⟨b, 0, none⟩), .agg #[.int .i64 k, .string s, .int .i64 t.k, .string t.x, .string t.l, .string t.y, .slice A kids.length c]] w
      fun e w' => e = .returned (.int .i64 (noI (kids.map (ofI vars row n)))) ∧ Below w.heap.size w w' := by
  have hl' : (kids.length : Int) ≤ 1353245080300 := by omega
  by_cases h1 : (kids.length : Int) = 1
  · obtain ⟨x, rfl⟩ : ∃ x, kids = [x] := List.length_eq_one_iff.1 (by omega)
    have hB0 : Below w.heap.size w (w.alloc (.cells #[.int .i64 k, .string s, .int .i64 t.k, .string t.x, .string t.l, .string t.y, .slice A 1 c] 31)) := (by repeat (first | exact Below.refl _ _ | assumption | exact (Below.refl _ _).alloc (Nat.le_refl _) _ | refine below_tr ?_ (by assumption) | refine below_alloc ?_ | refine below_tr ?_ (below_regrown _ _ _)))
    obtain ⟨g, o, u0, u1, u2, u3, u4, u5, u6, rfl, hR, c0, c1, c2, c3, c4, c5, c6⟩ := (RdEs.later hk hB0).at7 (j := 0) rfl
    have hS := ih x (by simp) _ _ hB0 hR
    clear ih hk hR h1
    have HB0 := Lib.hid hB0
    clear hB0
    simp only [List.map_cons, List.map_nil, noI, List.length_cons, List.length_nil, Nat.zero_add] at hl' ⊢
    simp only [Nat.zero_mul, Nat.add_zero] at c0 c1 c2 c3 c4 c5 c6
    go_enter Tryz.func86, Tryz.ntmps86
    go_wp2_with fail
    refine hS.mono ?_
    rintro e w2 ⟨rfl, hb2⟩
    go_wp2_with fail
    refine (filNot _ _).mono ?_
    rintro e w3 ⟨rfl, rfl⟩
    go_wp2
    go_ret
    exact ⟨rfl, below_tr HB0.out hb2⟩
  · have hv : noI (kids.map (ofI vars row n)) = 3 := by
      rcases kids with _ | ⟨x, _ | ⟨y, r⟩⟩
      · rfl
      · exact (h1 rfl).elim
      · rfl
    rw [hv]
    clear ih hk hv
    go_enter Tryz.func86, Tryz.ntmps86
    go_wp2
    go_ret
    exact ⟨rfl, (by repeat (first | exact Below.refl _ _ | assumption | exact (Below.refl _ _).alloc (Nat.le_refl _) _ | refine below_tr ?_ (by assumption) | refine below_alloc ?_ | refine below_tr ?_ (below_regrown _ _ _)))⟩
set_option maxRecDepth 10000 in
set_option maxHeartbeats 1000000 in
theorem filJMany (vars : List ByteArray) (row : List Tm) (b : Nat) (k : Int) (s : ByteArray) (t : Tm) (A : Option Addr) (c n : Nat) (kids : List (ExT n)) (w : World) (hk : RdEs n w A kids) (hkl : kids.length ≤ 1353245080300)
    (ih : ∀ x ∈ kids, Says vars row b w n x) :
    Calls Tryz.prog 87 #[.pointer (some ⟨b, 0, none⟩), .agg #[.int .i64 k, .string s, .int .i64 t.k, .string t.x, .string t.l, .string t.y, .slice A kids.length c]] w
      fun e w' => e = .returned (.int .i64 (if k == 4 then andI (kids.map (ofI vars row n)) else orI (kids.map (ofI vars row n)))) ∧ Below w.heap.size w w' := by
  have hl' : (kids.length : Int) ≤ 1353245080300 := by omega
  obtain ⟨v, hv⟩ : ∃ v : Int, (if k == 4 then andI (kids.map (ofI vars row n)) else orI (kids.map (ofI vars row n))) = v := ⟨_, rfl⟩
  rw [hv]
  have Hv := Lib.hid hv
  clear hv
  go_enter Tryz.func87, Tryz.ntmps87
  go_wp2
  obtain ⟨W, hW⟩ : ∃ W : World, w.alloc (.cells #[.int .i64 k, .string s, .int .i64 t.k, .string t.x, .string t.l, .string t.y, .slice A kids.length c] 31) = W := ⟨_, rfl⟩
  have hB0 : Below w.heap.size w W := by rw [← hW]; exact (by repeat (first | exact Below.refl _ _ | assumption | exact (Below.refl _ _).alloc (Nat.le_refl _) _ | refine below_tr ?_ (by assumption) | refine below_alloc ?_ | refine below_tr ?_ (below_regrown _ _ _)))
  have hz : W.heap.size = w.heap.size + 1 := by rw [← hW]; simp
  have hc0 : W.cell? ⟨w.heap.size, 0, none⟩ = some (.int .i64 k) := by rw [← hW, World.cell?, heap_alloc_new]; rfl
  simp only [hW]
  have Hz := Lib.hid hz
  have HW := Lib.hid hW
  clear hW hz
  go_loopw [5, 11] (fun vv i wr => ∃ j : Nat, j ≤ kids.length ∧ i = .int .i64 j ∧ OwnI wr W.heap.size 42 vv ((kids.take j).map (ofI vars row n)) ∧ Below W.heap.size W wr) (fun _ i _ => kids.length - (intOf i).toNat)
  case atStart => exact ⟨0, by omega, rfl, by simpa [OwnI] using World.ownsRow_nil _ _ _ _, Below.refl _ _⟩
  case round =>
    obtain ⟨j, hj, rfl, hown, hB⟩ := hrel
    by_cases hlt : j < kids.length
    · obtain ⟨x, hx⟩ : ∃ x, kids[j]? = some x := ⟨_, List.getElem?_eq_getElem hlt⟩
      obtain ⟨g, o, k', s', t', A', m', d', rfl, hR, c0, c1, c2, c3, c4, c5, c6⟩ := (RdEs.later (RdEs.later hk hB0) hB).atv hx
      have hts := take_snoc_of hx
      have hS := ih x (List.mem_of_getElem? hx) [.int .i64 k', .string s', .int .i64 t'.k, .string t'.x, .string t'.l, .string t'.y, .slice A' m' d'] (wr.alloc (.cells #[.int .i64 k', .string s', .int .i64 t'.k, .string t'.x, .string t'.l, .string t'.y, .slice A' m' d'] 31)) (below_alloc (below_tr hB0 hB)) (hR.later (by repeat (first | exact Below.refl _ _ | assumption | exact (Below.refl _ _).alloc (Nat.le_refl _) _ | refine below_tr ?_ (by assumption) | refine below_alloc ?_ | refine below_tr ?_ (below_regrown _ _ _))))
      have hlk : ((kids.take j).map (ofI vars row n)).length = j := by simp; omega
      have Hts := Lib.hid hts
      have HB0 := Lib.hid hB0
      have HR := Lib.hid hR
      unfold OwnI at hown
      rw [hlk] at hown
      have Hc0 := Lib.hid hc0
      have hle : W.heap.size ≤ wr.heap.size := hB.size
      clear hx hts hlk hR ih hc0 hB0
      go_wp2_with fail
      refine hS.mono ?_
      rintro e w2 ⟨rfl, hb2⟩
      have hb3 : Below wr.heap.size wr w2 := ((Below.refl _ _).alloc (Nat.le_refl _) _).trans (hb2.mono (by simp))
      have hbW : Below W.heap.size W w2 := hB.trans (hb3.mono hle)
      have hown2 := own_below hown hb3 (Nat.le_refl _)
      have hle2 : W.heap.size ≤ w2.heap.size := hbW.size
      clear hown hS hb3
      go_wp2_with (at_builtin; refine wpList_app rfl rfl Tryz.underlying40 truthInfo rfl (by omega) rfl (hown2.alloc _) rfl (Rd.of_block (heap_alloc_new w2 _) rfl) rfl (ints1 [_]) (by omega) (by omega) (by simp; omega) ?_; intro v' w3 hown3 hb4)
      have hB2 := (hbW.alloc hbW.size (.cells #[.int .i64 (ofI vars row n x)] 42)).trans hb4
      go_roundw
      case rel =>
        refine ⟨j+1, by omega, by go_num, ?_, hB2⟩
        rw [Hts.out]
        unfold OwnI
        rw [List.map_append, List.length_append, List.length_map, List.length_take, Nat.min_eq_left (by omega), List.map_append]
        exact hown3
      case measure => simp [intOf]; omega
    · have hk2 : kids.take j = kids := List.take_of_length_le (by omega)
      rw [hk2] at hown
      obtain ⟨A1, c1, rfl, hcc, hrt⟩ := own_open hown
      have hc := hB.cell (p := ⟨w.heap.size, 0, none⟩) (by have := Hz.out; simp; omega)
      rw [hc0] at hc
      have hlen : (kids.map (ofI vars row n)).length = kids.length := List.length_map _
      have HB := Lib.hid (below_tr hB0 hB)
      clear hown hk2 ih hk hB0 hB hc0
      have hAnd := filAnd (kids.map (ofI vars row n)) A1 c1 wr (by omega) hrt
      have hOr := filOr (kids.map (ofI vars row n)) A1 c1 wr (by omega) hrt
      rw [hlen] at hAnd hOr
      clear hlen hrt
      by_cases h4 : k = 4
      · subst h4
        go_wp2_with fail
        refine hAnd.mono ?_
        rintro e w2 ⟨rfl, hb2⟩
        go_wp2
        go_ret
        exact ⟨by rw [← Hv.out]; rfl, below_tr HB.out hb2⟩
      · go_wp2_with fail
        refine hOr.mono ?_
        rintro e w2 ⟨rfl, hb2⟩
        go_wp2
        go_ret
        refine ⟨?_, below_tr HB.out hb2⟩
        have h4' : (k == 4) = false := by simpa using h4
        rw [← Hv.out, h4']; rfl
end Go.Proofs.YtfijpdmkdoccjaaGreatDoor
namespace Go.Proofs.YtfijpdmkdoccjaaGreatDoor
open Go Go.RowKit Go.Maps Go.ChangeMaps Fm

theorem isEmpty_len {α : Type} (l : List α) : l.isEmpty = (l.length == 0) := by cases l <;> rfl
set_option maxRecDepth 10000 in
set_option maxHeartbeats 1000000 in
theorem filTruthAll (vars : List ByteArray) (row : List Tm) (b : Nat) (hv : vars.length ≤ 281474976710656) (hrl : row.length ≤ 281474976710656) (hzr : ∀ u ∈ row, u.x.size ≤ 281474976710656) (n : Nat) :
    ∀ (x : ExT n) (cs : List Value) (w : World), JudgeAt w b vars row → RdE n w cs x → szE n x →
    Calls Tryz.prog 59 #[.pointer (some ⟨b, 0, none⟩), .agg cs.toArray] w fun e w' => e = .returned (.int .i64 (ofI vars row n x)) ∧ Below w.heap.size w w' := by
  induction n with
  | zero => intro x cs w _ h; exact h.elim
  | succ n ih =>
    rintro ⟨k, s, t, kids⟩ cs w hj ⟨A, c, rfl, hcap, hk⟩ ⟨hs1, hs2, hkl, hkz⟩
    have hS : ∀ W, Below w.heap.size w W → ∀ x ∈ kids, Says vars row b W n x := fun W hW x hx cs W' hW' hr => ih x cs W' ((hj.later hW).later hW') hr (hkz x hx)
    have hkl2 : kids.length ≤ 281474976710656 := by omega
    by_cases h12 : (k == 1 || k == 2) = true
    · have hz := termP_sized vars row k s t (kids.length == 0) hs2 hzr
      have hd : doesV (.pointer (some ⟨b, 0, none⟩)) k = .func (.func 85) #[.pointer (some ⟨b, 0, none⟩)] #[] := by unfold doesV; rw [if_pos h12]
      have ho : ofI vars row (n + 1) (k, s, t, kids) = leafI (termP vars row k s t (kids.length == 0)) := by rw [ofI, if_pos h12, isEmpty_len]
      rw [ho]
      exact filTruth vars row b k s t A kids.length c w hj _ hd (enters_of Tryz.func85 (by kernel_rfl) rfl) _ fun W hW => filJAlone vars row b k s t A kids.length c W (hj.later hW) hv hrl hkl2 hz
    have h12' : (k == 1 || k == 2) = false := by simpa using h12
    by_cases h3 : (k == 3) = true
    · have hd : doesV (.pointer (some ⟨b, 0, none⟩)) k = .func (.func 86) #[.pointer (some ⟨b, 0, none⟩)] #[] := by unfold doesV; rw [if_neg h12, if_pos h3]
      have ho : ofI vars row (n + 1) (k, s, t, kids) = noI (kids.map (ofI vars row n)) := by rw [ofI, if_neg h12, if_pos h3]
      rw [ho]
      exact filTruth vars row b k s t A kids.length c w hj _ hd (enters_of Tryz.func86 (by kernel_rfl) rfl) _ fun W hW => filJNot vars row b k s t A c n kids W (RdEs.later hk hW) hkl (hS W hW)
    by_cases h45 : (k == 4 || k == 5) = true
    · have hd : doesV (.pointer (some ⟨b, 0, none⟩)) k = .func (.func 87) #[.pointer (some ⟨b, 0, none⟩)] #[] := by unfold doesV; rw [if_neg h12, if_neg h3, if_pos h45]
      have ho : ofI vars row (n + 1) (k, s, t, kids) = if k == 4 then andI (kids.map (ofI vars row n)) else orI (kids.map (ofI vars row n)) := by
        rw [ofI, if_neg h12, if_neg h3]
        by_cases h4 : (k == 4) = true
        · rw [if_pos h4, if_pos h4]
        · have h5 : (k == 5) = true := by simpa [h4] using h45
          rw [if_neg h4, if_pos h5, if_neg h4]
      rw [ho]
      exact filTruth vars row b k s t A kids.length c w hj _ hd (enters_of Tryz.func87 (by kernel_rfl) rfl) _ fun W hW => filJMany vars row b k s t A c n kids W (RdEs.later hk hW) hkl (hS W hW)
    have h45' : (k == 4 || k == 5) = false := by simpa using h45
    have h4 : ¬ (k == 4) = true := by intro h; rw [h] at h45'; cases h45'
    have h5 : ¬ (k == 5) = true := by intro h; rw [h, Bool.or_true] at h45'; cases h45'
    by_cases hc : isCmp k = true
    · have hd : doesV (.pointer (some ⟨b, 0, none⟩)) k = .func (.func 88) #[.pointer (some ⟨b, 0, none⟩)] #[] := by unfold doesV; rw [if_neg h12, if_neg h3, if_neg h45, if_pos hc]
      have ho : ofI vars row (n + 1) (k, s, t, kids) = twoI k (kids.map (termOf vars row n)) := by rw [ofI, if_neg h12, if_neg h3, if_neg h4, if_neg h5, if_pos hc]
      rw [ho]
      exact filTruth vars row b k s t A kids.length c w hj _ hd (enters_of Tryz.func88 (by kernel_rfl) rfl) _ fun W hW => filJTwo vars row b k s t A c n kids W (RdEs.later hk hW) hkl (hj.later hW) hv hrl hzr hkz
    by_cases hq : isKind k = true
    · have hd : doesV (.pointer (some ⟨b, 0, none⟩)) k = .func (.func 89) #[.pointer (some ⟨b, 0, none⟩)] #[] := by unfold doesV; rw [if_neg h12, if_neg h3, if_neg h45, if_neg hc, if_pos hq]
      have ho : ofI vars row (n + 1) (k, s, t, kids) = oneI k (kids.map (termOf vars row n)) := by rw [ofI, if_neg h12, if_neg h3, if_neg h4, if_neg h5, if_neg hc, if_pos hq]
      rw [ho]
      exact filTruth vars row b k s t A kids.length c w hj _ hd (enters_of Tryz.func89 (by kernel_rfl) rfl) _ fun W hW => filJKind vars row b k s t A c n kids W (RdEs.later hk hW) hkl (hj.later hW) hv hrl hzr hkz
    · have hd : doesV (.pointer (some ⟨b, 0, none⟩)) k = .nilFunc := by unfold doesV; rw [if_neg h12, if_neg h3, if_neg h45, if_neg hc, if_neg hq]
      have ho : ofI vars row (n + 1) (k, s, t, kids) = 3 := by rw [ofI, if_neg h12, if_neg h3, if_neg h4, if_neg h5, if_neg hc, if_neg hq]
      rw [ho]
      exact filTruthNo vars row b k s t A kids.length c w hj hd
end Go.Proofs.YtfijpdmkdoccjaaGreatDoor
