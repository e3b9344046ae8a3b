/- Layer 9's laws, walked: same, LexBlanks. -/
import Derived.Test.YtjigcembbigbnaaDoorJLaw09c
namespace Go.Proofs.YtjigcembbigbnaaDoor
open Go Go.RowKit Um Lx

theorem shT_cell (d : Nat) (t : Tok) : tokC (shT d t) = [.int .i64 t.k, .string t.x, .int .i64 ((t.p + d : Nat) : Int)] := rfl
set_option maxRecDepth 10000 in
set_option maxHeartbeats 4000000 in
theorem lawSame9 (ts : List Tok) (off : Nat) (A1 : Option Addr) (c1 : Nat) (A2 : Option Addr) (c2 : Nat) (w : World) (hl : ts.length ≤ 1000000) (ho : off ≤ 1000000) (hp : ∀ t ∈ ts, t.p ≤ 1000000) (hr1 : RdTk w A1 (ts.map (shT off))) (hr2 : RdTk w A2 ts) :
    Calls Tryd.prog 13 #[.slice A1 ts.length c1, .slice A2 ts.length c2, .int .i64 off] w fun e w' => e = .returned (.bool true) ∧ Below w.heap.size w w' := by
  obtain ⟨N, hN⟩ : ∃ N, ts.length = N := ⟨_, rfl⟩
  rw [hN] at hl ⊢
  have HN := Lib.hid hN
  have HR := Lib.hid (And.intro hr1 hr2)
  have HP := Lib.hid hp
  clear hN hr1 hr2 hp
  go_enter Tryd.func13, Tryd.ntmps13
  go_wp2
  go_loopw [7] (fun i wr => ∃ k : Nat, k ≤ N ∧ i = .int .i64 k ∧ Below w.heap.size w wr) (fun i _ => N - (intOf i).toNat)
  case atStart => exact ⟨0, by omega, rfl, Below.refl _ _⟩
  case round =>
    obtain ⟨k, hk, rfl, hB⟩ := hrel
    by_cases hlt : k < N
    · have hd1 : decide (k < N) = true := by simp; omega
      obtain ⟨t, ht⟩ : ∃ t, ts[k]? = some t := ⟨_, List.getElem?_eq_getElem (by rw [HN.out]; exact hlt)⟩
      obtain ⟨g, o, rfl, a1, a2, a3⟩ := (HR.out.1.later hB).at3 (i := k) (t := shT off t) (by rw [List.getElem?_map, ht]; rfl)
      obtain ⟨p, q, rfl, b1, b2, b3⟩ := (HR.out.2.later hB).at3 ht
      have htp := HP.out t (List.mem_of_getElem? ht)
      simp only [shT] at a1 a2 a3
      have e3 : ((t.p + off : Nat) : Int) = (t.p : Int) + off := by omega
      rw [e3] at a3
      have HBr := Lib.hid hB
      clear ht hB e3
      go_wp2
      go_quiet (fail)
      go_wp2
      go_roundw
      case rel => exact ⟨k + 1, by omega, by go_num, HBr.out.os, HBr.out.tape, HBr.out.output, HBr.out.size, HBr.out.block⟩
      case measure => simp [intOf]; omega
    · have hd1 : decide (k < N) = false := by simp; omega
      have HBr := Lib.hid hB
      clear hB
      go_wp2
      go_ret
      exact ⟨rfl, HBr.out⟩
theorem kitPick9 (x n : Int) (w : World) (h0 : 1 ≤ n) (h1 : n ≤ 1000) :
    Calls Tryd.prog 12 #[.int .i64 x, .int .i64 n] w fun e w' => ∃ k : Nat, e = .returned (.int .i64 k) ∧ (k : Int) < n ∧ w = w' := by
  have b1 : -n < x.tmod n := Int.lt_tmod_of_pos x (by omega)
  have b2 : x.tmod n < n := Int.tmod_lt_of_pos x (by omega)
  go_enter Tryd.func12, Tryd.ntmps12
  go_wp2
  · go_ret
    exact ⟨(x.tmod n + n).toNat, by congr 1; show Value.int .i64 _ = Value.int .i64 _; congr 1; omega, by omega, rfl⟩
  · go_ret
    exact ⟨(x.tmod n).toNat, by congr 1; show Value.int .i64 _ = Value.int .i64 _; congr 1; omega, by omega, rfl⟩
end Go.Proofs.YtjigcembbigbnaaDoor
