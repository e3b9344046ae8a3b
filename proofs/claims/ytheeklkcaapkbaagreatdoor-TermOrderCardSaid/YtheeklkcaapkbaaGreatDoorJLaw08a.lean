/- The law's awake and size of layer 08. -/
import Derived.Test.YtheeklkcaapkbaaGreatDoorJTx6
import Derived.Test.YtheeklkcaapkbaaGreatDoorJTx1
namespace Go.Proofs.YtheeklkcaapkbaaGreatDoor
open Go Go.RowKit Um Fm Tx

theorem smallT_of {t : Tm} (h : t.x.size + t.l.size + t.y.size ≤ 1000000) : smallT t := by unfold smallT; omega
theorem termIri (s : ByteArray) (w : World) : Calls Tryz.prog 27 #[.string s] w fun e w' => e = .returned (tA ⟨1, s, ⟨#[]⟩, ⟨#[]⟩⟩) ∧ Below w.heap.size w w' := by
  go_enter Tryz.func27, Tryz.ntmps27
  go_wp2
  refine bodyPost_ret (v := tA ⟨1, s, ⟨#[]⟩, ⟨#[]⟩⟩) (by simp [results, Tryz.results27, go_sem]) rfl ⟨rfl, (by repeat (first | exact Below.refl _ _ | assumption | exact (Below.refl _ _).alloc (Nat.le_refl _) _ | refine below_tr ?_ (by assumption) | refine below_alloc ?_ | refine below_tr ?_ (below_regrown _ _ _)))⟩
theorem lit_ab : lowS ⟨#[69, 110]⟩ = ⟨#[101, 110]⟩ := by decide
theorem showIri : showP ⟨1, ⟨#[97, 32, 98]⟩, ⟨#[]⟩, ⟨#[]⟩⟩ = (⟨#[60, 97, 92, 117, 48, 48, 50, 48, 98, 62]⟩, 0) := by kernel_rfl
theorem showTag : showP ⟨3, ⟨#[97, 34, 98]⟩, ⟨#[101, 110]⟩, ⟨#[]⟩⟩ = (⟨#[34, 97, 92, 34, 98, 34, 64, 101, 110]⟩, 0) := by kernel_rfl
set_option maxHeartbeats 1000000 in
set_option maxRecDepth 20000 in
theorem lawAwake (w : World) (hC : CtxT w) : Calls Tryz.prog 9 #[] w fun e w' => e = .returned (.bool true) ∧ Below w.heap.size w w' := by
  have h1 := termIri ⟨#[97, 32, 98]⟩ w
  have h2 := fun W (hB : Below w.heap.size w W) => termShow ⟨1, ⟨#[97, 32, 98]⟩, ⟨#[]⟩, ⟨#[]⟩⟩ W (hC.step hB) (smallT_of (by decide))
  have h3 := fun W => termTagged ⟨#[97, 34, 98]⟩ ⟨#[69, 110]⟩ W (by decide)
  have h4 := fun W (hB : Below w.heap.size w W) => termShow ⟨3, ⟨#[97, 34, 98]⟩, ⟨#[101, 110]⟩, ⟨#[]⟩⟩ W (hC.step hB) (smallT_of (by decide))
  rw [showIri] at h2
  rw [showTag] at h4
  rw [lit_ab] at h3
  go_enter Tryz.func9, Tryz.ntmps9
  go_wp2_with (first | (go_at_call 27; with_reducible refine h1.mono ?_; rintro e w1 ⟨rfl, b1⟩) | (go_at_call 23; with_reducible refine (h3 _).mono ?_; rintro e w3 ⟨rfl, b3⟩) | (go_at_call 19; with_reducible refine (h2 _ (by assumption)).mono ?_; rintro e w2 ⟨rfl, b2⟩; have c2 := below_tr b1 b2) | (go_at_call 19; with_reducible refine (h4 _ (below_tr c2 b3)).mono ?_; rintro e w4 ⟨rfl, b4⟩))
  go_ret
  exact ⟨rfl, below_tr (below_tr c2 b3) b4⟩
end Go.Proofs.YtheeklkcaapkbaaGreatDoor
