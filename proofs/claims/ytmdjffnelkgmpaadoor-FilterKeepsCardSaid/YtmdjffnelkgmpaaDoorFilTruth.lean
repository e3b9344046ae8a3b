/- The program's package filter, walked: what a judge says of a condition. -/
import Derived.Test.YtmdjffnelkgmpaaDoorFilTwo
import Derived.Test.YtmdjffnelkgmpaaDoorFilMany
namespace Go.Proofs.YtmdjffnelkgmpaaDoor
open Go Go.RowKit Go.Maps Go.ChangeMaps Fm

theorem isEmpty_len {α : Type} (l : List α) : l.isEmpty = (l.length == 0) := by cases l <;> rfl
set_option maxRecDepth 10000 in
set_option maxHeartbeats 1000000 in
theorem filTruthAll (vars : List ByteArray) (row : List Tm) (b : Nat) (hv : vars.length ≤ 281474976710656) (hrl : row.length ≤ 281474976710656) (hzr : ∀ u ∈ row, u.x.size ≤ 281474976710656) (n : Nat) :
    ∀ (x : ExT n) (cs : List Value) (w : World), JudgeAt w b vars row → RdE n w cs x → szE n x →
    Calls Tryd.prog 31 #[.pointer (some ⟨b, 0, none⟩), .agg cs.toArray] w fun e w' => e = .returned (.int .i64 (ofI vars row n x)) ∧ Below w.heap.size w w' := by
  induction n with
  | zero => intro x cs w _ h; exact h.elim
  | succ n ih =>
    rintro ⟨k, s, t, kids⟩ cs w hj ⟨A, c, rfl, hcap, hk⟩ ⟨hs1, hs2, hkl, hkz⟩
    have hS : ∀ W, Below w.heap.size w W → ∀ x ∈ kids, Says vars row b W n x := fun W hW x hx cs W' hW' hr => ih x cs W' ((hj.later hW).later hW') hr (hkz x hx)
    have hkl2 : kids.length ≤ 281474976710656 := by omega
    by_cases h12 : (k == 1 || k == 2) = true
    · have hz := termP_sized vars row k s t (kids.length == 0) hs2 hzr
      have hd : doesV (.pointer (some ⟨b, 0, none⟩)) k = .func (.func 54) #[.pointer (some ⟨b, 0, none⟩)] #[] := by unfold doesV; rw [if_pos h12]
      have ho : ofI vars row (n + 1) (k, s, t, kids) = leafI (termP vars row k s t (kids.length == 0)) := by rw [ofI, if_pos h12, isEmpty_len]
      rw [ho]
      exact filTruth vars row b k s t A kids.length c w hj _ hd (enters_of Tryd.func54 (by kernel_rfl) rfl) _ fun W hW => filJAlone vars row b k s t A kids.length c W (hj.later hW) hv hrl hkl2 hz
    have h12' : (k == 1 || k == 2) = false := by simpa using h12
    by_cases h3 : (k == 3) = true
    · have hd : doesV (.pointer (some ⟨b, 0, none⟩)) k = .func (.func 55) #[.pointer (some ⟨b, 0, none⟩)] #[] := by unfold doesV; rw [if_neg h12, if_pos h3]
      have ho : ofI vars row (n + 1) (k, s, t, kids) = noI (kids.map (ofI vars row n)) := by rw [ofI, if_neg h12, if_pos h3]
      rw [ho]
      exact filTruth vars row b k s t A kids.length c w hj _ hd (enters_of Tryd.func55 (by kernel_rfl) rfl) _ fun W hW => filJNot vars row b k s t A c n kids W (RdEs.later hk hW) hkl (hS W hW)
    by_cases h45 : (k == 4 || k == 5) = true
    · have hd : doesV (.pointer (some ⟨b, 0, none⟩)) k = .func (.func 56) #[.pointer (some ⟨b, 0, none⟩)] #[] := by unfold doesV; rw [if_neg h12, if_neg h3, if_pos h45]
      have ho : ofI vars row (n + 1) (k, s, t, kids) = if k == 4 then andI (kids.map (ofI vars row n)) else orI (kids.map (ofI vars row n)) := by
        rw [ofI, if_neg h12, if_neg h3]
        by_cases h4 : (k == 4) = true
        · rw [if_pos h4, if_pos h4]
        · have h5 : (k == 5) = true := by simpa [h4] using h45
          rw [if_neg h4, if_pos h5, if_neg h4]
      rw [ho]
      exact filTruth vars row b k s t A kids.length c w hj _ hd (enters_of Tryd.func56 (by kernel_rfl) rfl) _ fun W hW => filJMany vars row b k s t A c n kids W (RdEs.later hk hW) hkl (hS W hW)
    have h45' : (k == 4 || k == 5) = false := by simpa using h45
    have h4 : ¬ (k == 4) = true := by intro h; rw [h] at h45'; cases h45'
    have h5 : ¬ (k == 5) = true := by intro h; rw [h, Bool.or_true] at h45'; cases h45'
    by_cases hc : isCmp k = true
    · have hd : doesV (.pointer (some ⟨b, 0, none⟩)) k = .func (.func 57) #[.pointer (some ⟨b, 0, none⟩)] #[] := by unfold doesV; rw [if_neg h12, if_neg h3, if_neg h45, if_pos hc]
      have ho : ofI vars row (n + 1) (k, s, t, kids) = twoI k (kids.map (termOf vars row n)) := by rw [ofI, if_neg h12, if_neg h3, if_neg h4, if_neg h5, if_pos hc]
      rw [ho]
      exact filTruth vars row b k s t A kids.length c w hj _ hd (enters_of Tryd.func57 (by kernel_rfl) rfl) _ fun W hW => filJTwo vars row b k s t A c n kids W (RdEs.later hk hW) hkl (hj.later hW) hv hrl hzr hkz
    by_cases hq : isKind k = true
    · have hd : doesV (.pointer (some ⟨b, 0, none⟩)) k = .func (.func 58) #[.pointer (some ⟨b, 0, none⟩)] #[] := by unfold doesV; rw [if_neg h12, if_neg h3, if_neg h45, if_neg hc, if_pos hq]
      have ho : ofI vars row (n + 1) (k, s, t, kids) = oneI k (kids.map (termOf vars row n)) := by rw [ofI, if_neg h12, if_neg h3, if_neg h4, if_neg h5, if_neg hc, if_pos hq]
      rw [ho]
      exact filTruth vars row b k s t A kids.length c w hj _ hd (enters_of Tryd.func58 (by kernel_rfl) rfl) _ fun W hW => filJKind vars row b k s t A c n kids W (RdEs.later hk hW) hkl (hj.later hW) hv hrl hzr hkz
    · have hd : doesV (.pointer (some ⟨b, 0, none⟩)) k = .nilFunc := by unfold doesV; rw [if_neg h12, if_neg h3, if_neg h45, if_neg hc, if_neg hq]
      have ho : ofI vars row (n + 1) (k, s, t, kids) = 3 := by rw [ofI, if_neg h12, if_neg h3, if_neg h4, if_neg h5, if_neg hc, if_neg hq]
      rw [ho]
      exact filTruthNo vars row b k s t A kids.length c w hj hd
end Go.Proofs.YtmdjffnelkgmpaaDoor
