/- The program's package lex, walked: number. -/
import Derived.Test.YtjigcembbigbnaaDoorJLexPU
namespace Go.Proofs.YtjigcembbigbnaaDoor
open Go Go.RowKit Um Lx

theorem below_bytes (w : World) (t : ByteArray) : Below w.heap.size w (Lib.bytesWorld w 5 t) := by
  exact Lib.bytesWorld_below w _ t
theorem parse16_some (t : ByteArray) (n : Nat) (hne : t.size ≠ 0) (hmax : t.size ≤ 8) (w : World) (h : hexN t.data.toList 0 = some n) :
    Calls Tryd.prog 70 #[.string t, .int .i64 16, .int .i64 32] w fun e w' => e = .returned (.tuple #[.int .u64 (n : Int), .nilIface]) ∧ Below w.heap.size w w' := by
  have hp := parse16i t hne hmax w
  rw [h] at hp
  have HB := Lib.hid (below_bytes w t)
  clear h
  go_enter Tryd.func70, Tryd.ntmps70
  go_wp2_with (go_at_call 76; refine hp.mono ?_; rintro e w1 ⟨rfl, rfl⟩; simp only [PuV])
  go_ret2
  exact ⟨rfl, HB.out⟩
theorem parse16_none (t : ByteArray) (hne : t.size ≠ 0) (hmax : t.size ≤ 8) (w : World) (hE : ErrV w) (h : hexN t.data.toList 0 = none) :
    Calls Tryd.prog 70 #[.string t, .int .i64 16, .int .i64 32] w fun e w' => (∃ ty p, e = .returned (.tuple #[.int .u64 0, .iface ty p])) ∧ Below w.heap.size w w' := by
  have hp := parse16i t hne hmax w
  rw [h] at hp
  have hb := below_bytes w t
  have HB := Lib.hid hb
  obtain ⟨ev, h1, h2⟩ := hE.step hb
  have he := fun fn => Tryd.strconv_toError_syntax fn t 16 32 ev (Lib.bytesWorld w 5 t) (by omega) h1 h2
  clear h hb h1 h2 hE
  go_enter Tryd.func70, Tryd.ntmps70
  go_wp2_with (first
    | (go_at_call 76; refine hp.mono ?_; rintro e w1 ⟨rfl, rfl⟩; simp only [PuV])
    | (go_at_call 77; refine (he _).mono ?_; rintro e w2 ⟨N, rfl, _, _, hb2⟩))
  go_ret2
  exact ⟨⟨_, _, rfl⟩, below_tr HB.out hb2⟩
end Go.Proofs.YtjigcembbigbnaaDoor
