/- Layer 25's law: how great a condition is. -/
import Derived.Test.YtmdjffnelkgmpaaDoorFilKind
import Derived.Test.YtmdjffnelkgmpaaDoorExprMath
namespace Go.Proofs.YtmdjffnelkgmpaaDoor
open Go Go.RowKit Fm

def SomeB (w : World) (e : Ending) (w' : World) : Prop := ∃ b, e = .returned (.bool b) ∧ Below w.heap.size w w'
def PartR (most deep : Int) (w : World) (e : Ending) (w' : World) : Prop := ∃ r : Int, e = .returned (.int .i64 r) ∧ 1 ≤ r ∧ r ≤ (62 - deep) * (most + 1) ∧ Below w.heap.size w w'
set_option maxRecDepth 10000 in
set_option maxHeartbeats 1000000 in
theorem lawPart (n : Nat) : ∀ (x : ExT n) (cs : List Value) (deep : Int) (w : World), 0 ≤ deep → deep ≤ 61 → RdE n w cs x → szE n x →
    Calls Tryd.prog 29 #[.agg cs.toArray, .int .i64 deep] w (PartR 300 deep w) := by
  induction n with
  | zero => intro x cs deep w _ _ h; exact h.elim
  | succ n ih =>
    rintro ⟨k, s, t, kids⟩ cs deep w hd0 hd1 ⟨A, c, rfl, hcap, hk⟩ ⟨hs1, hs2, hkl, hkz⟩
    have hkl' : (kids.length : Int) ≤ 1353245080300 := by omega
    by_cases h60 : 60 < deep
    · clear ih
      go_enter Tryd.func29, Tryd.ntmps29
      go_wp2
      go_ret
      exact ⟨301, rfl, by omega, by omega, (by repeat (first | exact Below.refl _ _ | assumption | exact (Below.refl _ _).alloc (Nat.le_refl _) _ | refine below_tr ?_ (by assumption) | refine below_alloc ?_ | refine below_tr ?_ (below_regrown _ _ _)))⟩
    · go_enter Tryd.func29, Tryd.ntmps29
      go_wp2
      obtain ⟨W, hW⟩ : ∃ W : World, w.alloc (.cells #[.int .i64 k, .string s, .int .i64 t.k, .string t.x, .string t.l, .string t.y, .slice A kids.length c] 49) = W := ⟨_, rfl⟩
      have hB0 : Below w.heap.size w W := by rw [← hW]; exact (by repeat (first | exact Below.refl _ _ | assumption | exact (Below.refl _ _).alloc (Nat.le_refl _) _ | refine below_tr ?_ (by assumption) | refine below_alloc ?_ | refine below_tr ?_ (below_regrown _ _ _)))
      have hz : W.heap.size = w.heap.size + 1 := by rw [← hW]; simp
      have hc6 : W.cell? ⟨w.heap.size, 6, none⟩ = some (.slice A kids.length c) := by rw [← hW, World.cell?, heap_alloc_new]; rfl
      have hkW := RdEs.later hk hB0
      simp only [hW]
      have HW := Lib.hid hW
      clear hW hk
      go_loopw [5, 6] (fun nv i wr => ∃ j : Nat, ∃ r : Int, j ≤ kids.length ∧ i = .int .i64 j ∧ nv = .int .i64 r ∧ 1 ≤ r ∧ r ≤ (62 - deep) * 301 ∧ Below W.heap.size W wr) (fun _ i _ => kids.length - (intOf i).toNat)
      case atStart => exact ⟨0, 1, by omega, rfl, rfl, by omega, by omega, Below.refl _ _⟩
      case round =>
        obtain ⟨j, r, hj, rfl, rfl, hr1, hr2, hB⟩ := hrel
        have hc := hB.cell (p := ⟨w.heap.size, 6, none⟩) (by simp; omega)
        rw [hc6] at hc
        have Hz := Lib.hid hz
        clear hz hc6
        by_cases hlt : j < kids.length
        · by_cases hr3 : r ≤ 300
          · obtain ⟨y, hy⟩ : ∃ y, kids[j]? = some y := ⟨_, List.getElem?_eq_getElem hlt⟩
            have hzy := hkz y (List.mem_of_getElem? hy)
            obtain ⟨g, o, u0, u1, u2, u3, u4, u5, u6, rfl, hR, c0, c1, c2, c3, c4, c5, c6⟩ := (RdEs.later hkW hB).at7 hy
            clear hy
            have hih := ih y [u0, u1, u2, u3, u4, u5, u6] (deep + 1) wr (by omega) (by omega) hR hzy
            clear ih
            go_wp2_with (refine hih.mono ?_; rintro e w2 ⟨r2, rfl, hr4, hr5, hB2⟩)
            go_roundw
            case rel => exact ⟨j + 1, r + r2, by omega, by go_num, rfl, by omega, by omega, below_tr hB hB2⟩
            case measure => simp [intOf]; omega
          · clear ih
            go_wp2
            go_ret
            exact ⟨r, rfl, by omega, by omega, below_tr hB0 hB⟩
        · clear ih
          go_wp2
          go_ret
          exact ⟨r, rfl, by omega, by omega, below_tr hB0 hB⟩

set_option maxRecDepth 10000 in
set_option maxHeartbeats 1000000 in
theorem lawGreat (n : Nat) (l : List (ExT n)) (A A1 A2 : Option Addr) (c n1 c1 n2 c2 : Nat) (w : World) (hr : RdEs n w A l) (hl : l.length ≤ 1353245080300) (h1 : n1 ≤ 281474976710656) (h2 : n2 ≤ 281474976710656) (hz : ∀ x ∈ l, szE n x) :
    Calls Tryd.prog 12 #[.slice A l.length c, .slice A1 n1 c1, .slice A2 n2 c2] w (SomeB w) := by
  have hl' : (l.length : Int) ≤ 1353245080300 := by omega
  have h1' : (n1 : Int) ≤ 281474976710656 := by omega
  have h2' : (n2 : Int) ≤ 281474976710656 := by omega
  go_enter Tryd.func12, Tryd.ntmps12
  go_wp2
  go_loopw [7, 8] (fun nv i wr => ∃ j : Nat, ∃ r : Int, j ≤ l.length ∧ i = .int .i64 j ∧ nv = .int .i64 r ∧ 0 ≤ r ∧ r ≤ 1000000000000000 ∧ Below w.heap.size w wr) (fun _ i _ => l.length - (intOf i).toNat)
  case atStart => exact ⟨0, (l.length : Int) + n1 + n2, by omega, rfl, rfl, by omega, by omega, Below.refl _ _⟩
  case round =>
    obtain ⟨j, r, hj, rfl, rfl, hr1, hr2, hB⟩ := hrel
    by_cases hlt : j < l.length
    · by_cases hr3 : r ≤ 300
      · obtain ⟨y, hy⟩ : ∃ y, l[j]? = some y := ⟨_, List.getElem?_eq_getElem hlt⟩
        have hzy := hz y (List.mem_of_getElem? hy)
        obtain ⟨g, o, u0, u1, u2, u3, u4, u5, u6, rfl, hR, c0, c1, c2, c3, c4, c5, c6⟩ := (RdEs.later hr hB).at7 hy
        clear hy
        have hih := lawPart n y [u0, u1, u2, u3, u4, u5, u6] 0 wr (by omega) (by omega) hR hzy
        go_wp2_with (refine hih.mono ?_; rintro e w2 ⟨r2, rfl, hr4, hr5, hB2⟩)
        go_roundw
        case rel => exact ⟨j + 1, r + r2, by omega, by go_num, rfl, by omega, by omega, below_tr hB hB2⟩
        case measure => simp [intOf]; omega
      · go_wp2
        go_ret
        exact ⟨_, rfl, hB⟩
    · go_wp2
      all_goals (go_ret; exact ⟨_, rfl, hB⟩)

set_option maxRecDepth 10000 in
set_option maxHeartbeats 1000000 in
theorem lawHas (v : ByteArray) (n : Nat) : ∀ (x : ExT n) (cs : List Value) (w : World), RdE n w cs x → szE n x →
    Calls Tryd.prog 16 #[.agg cs.toArray, .string v] w fun e w' => e = .returned (.bool (hasV v n x)) ∧ Below w.heap.size w w' := by
  induction n with
  | zero => intro x cs w h; exact h.elim
  | succ n ih =>
    rintro ⟨k, s, t, kids⟩ cs w ⟨A, c, rfl, hcap, hk⟩ ⟨hs1, hs2, hkl, hkz⟩
    have hkl' : (kids.length : Int) ≤ 1353245080300 := by omega
    obtain ⟨q, hq⟩ : ∃ q, hasV v (n + 1) (k, s, t, kids) = q := ⟨_, rfl⟩
    rw [hq]
    have Hq : Hid (q = (kids.any (hasV v n) || (k == 1 && s.toList == v.toList))) := by show _ = _; rw [← hq, hasV]
    clear hq
    obtain ⟨W, hW⟩ : ∃ W : World, w.alloc (.cells #[.int .i64 k, .string s, .int .i64 t.k, .string t.x, .string t.l, .string t.y, .slice A kids.length c] 49) = W := ⟨_, rfl⟩
    have hB0 : Below w.heap.size w W := by rw [← hW]; exact (by repeat (first | exact Below.refl _ _ | assumption | exact (Below.refl _ _).alloc (Nat.le_refl _) _ | refine below_tr ?_ (by assumption) | refine below_alloc ?_ | refine below_tr ?_ (below_regrown _ _ _)))
    have hz : W.heap.size = w.heap.size + 1 := by rw [← hW]; simp
    have hbx : ∀ (i : Nat) v, #[Value.int .i64 k, .string s, .int .i64 t.k, .string t.x, .string t.l, .string t.y, .slice A kids.length c][i]? = some v → W.cell? ⟨w.heap.size, i, none⟩ = some v := by
      intro i v hv; rw [← hW, World.cell?, heap_alloc_new]; exact hv
    have hkW := RdEs.later hk hB0
    have Hz := Lib.hid hz
    clear hz hk
    go_enter Tryd.func16, Tryd.ntmps16
    go_wp2
    try simp only [hW]
    have HW := Lib.hid hW
    clear hW
    go_loopw [5] (fun i wr => ∃ j : Nat, j ≤ kids.length ∧ i = .int .i64 j ∧ Hid (kids.any (hasV v n) = (kids.drop j).any (hasV v n)) ∧ Below W.heap.size W wr) (fun i _ => kids.length - (intOf i).toNat)
    case atStart => exact ⟨0, by omega, rfl, rfl, Below.refl _ _⟩
    case round =>
      obtain ⟨j, hj, rfl, H, hB⟩ := hrel
      have b0 := cell_on (hbx 0 _ rfl) hB
      have b1 := cell_on (hbx 1 _ rfl) hB
      have b6 := cell_on (hbx 6 _ rfl) hB
      have HB0 := Lib.hid hB0
      clear hbx hB0
      by_cases hlt : j < kids.length
      · obtain ⟨y, hy⟩ : ∃ y, kids[j]? = some y := ⟨_, List.getElem?_eq_getElem hlt⟩
        have hzy := hkz y (List.mem_of_getElem? hy)
        have hd := drop_cons_of hy
        obtain ⟨g, o, u0, u1, u2, u3, u4, u5, u6, rfl, hR, c0, c1, c2, c3, c4, c5, c6⟩ := (RdEs.later hkW hB).at7 hy
        have hih := ih y [u0, u1, u2, u3, u4, u5, u6] wr hR hzy
        have H2 : Hid (kids.any (hasV v n) = (hasV v n y || (kids.drop (j+1)).any (hasV v n))) := by show _ = _; rw [H.out, hd, List.any_cons]
        have HBB := Lib.hid hB
        clear ih hy hd H hR hkz hkW hB
        generalize hasV v n y = p at *
        cases p
        · go_wp2_with (refine hih.mono ?_; rintro e w2 ⟨rfl, hB2⟩)
          go_roundw
          case rel => exact ⟨j + 1, by omega, by go_num, by show _ = _; rw [H2.out]; rfl, below_tr HBB.out hB2⟩
          case measure => simp [intOf]; omega
        · go_wp2_with (refine hih.mono ?_; rintro e w2 ⟨rfl, hB2⟩)
          go_ret
          exact ⟨by rw [Hq.out, H2.out]; simp, below_tr (below_tr HB0.out HBB.out) hB2⟩
      · have H2 : Hid (kids.any (hasV v n) = false) := by show _ = _; rw [H.out, List.drop_eq_nil_of_le (by omega)]; rfl
        have HBB := Lib.hid (below_tr HB0.out hB)
        clear ih H hkz hkW hB
        by_cases h1 : k = 1
        · subst h1
          go_wp2
          go_ret
          exact ⟨by rw [Hq.out, H2.out]; simp, HBB.out⟩
        · go_wp2
          go_ret
          exact ⟨by rw [Hq.out, H2.out]; simp [h1], HBB.out⟩
end Go.Proofs.YtmdjffnelkgmpaaDoor
