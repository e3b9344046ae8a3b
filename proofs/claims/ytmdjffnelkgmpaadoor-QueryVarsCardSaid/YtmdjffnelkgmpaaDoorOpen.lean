/- What arguments that can be read as data are: lists, terms, conditions, in memory. -/
import Derived.Test.YtmdjffnelkgmpaaDoorTms
import Derived.OpenShut
import Derived.SizedLaws
import Derived.Carry
import Derived.Lib.SmallJoins
namespace Go.Proofs.YtmdjffnelkgmpaaDoor
open Go Go.ChangeShapes Go.WideShapes Go.ChangeAt Go.RowKit Go.Lib Go.Joins Go.Deep Fm

section
variable {H : Type} {enc : TypeId × Value → H} {P : Program}

/-- No string, no slice of a datum is longer than the reach. -/
def Sized (P : Program) (t : TypeId) (d : DataW H) : Prop := ∀ m ∈ d.weights P t, m ≤ reachBytes
/-- Cells that can be read, with this fuel, as a type's datum, are what R says. -/
def Opens (enc : TypeId × Value → H) (P : Program) (w : World) (f : Nat) (t : TypeId) (sz : Nat) {α : Type} (R : List Value → α → Prop) (Z : α → Prop) : Prop :=
  ∀ (cs : List Value) (d : DataW H) (ps : List MemPlace), DataW.trod enc P w 0 (fun _ => true) true f t cs = some (d, ps) → Sized P t d → ∃ a, R cs a ∧ cs.length = sz ∧ Z a

theorem weightsAll_mem {e : TypeId} : ∀ {l : List (DataW H)} {d : DataW H}, d ∈ l → ∀ m ∈ d.weights P e, m ∈ DataW.weightsAll P e l
  | x :: r, d, hd, m, hm => by
    rw [DataW.weightsAll, List.mem_append]
    rcases List.mem_cons.1 hd with h | h
    · left; rw [← h]; exact hm
    · right; exact weightsAll_mem h m hm
theorem weightsEach_mem : ∀ {ts : List TypeId} {ds : List (DataW H)} {i : Nat} {t : TypeId} {d : DataW H}, ts[i]? = some t → ds[i]? = some d → ∀ m ∈ d.weights P t, m ∈ DataW.weightsEach P ts ds := fun ht hd m hm => DataW.weights_mem_each ht hd m hm
theorem Sized.field {t u : TypeId} {fs : Array Field} {parts : List (DataW H)} (h : Sized P t (.agg parts)) (hu : P.underlying t = some (.struct fs)) {i : Nat} {d : DataW H} (ht : (fs.toList.map (·.type))[i]? = some u) (hd : parts[i]? = some d) : Sized P u d := by
  intro m hm
  refine h m ?_
  simp only [DataW.weights, hu]
  exact weightsEach_mem ht hd m hm
theorem sized_str {t : TypeId} {s : ByteArray} (h : Sized P t (.lit (.string s.data.toList) : DataW H)) : s.size ≤ 140737488351232 := by
  have := h s.data.toList.length (by simp [DataW.weights])
  rw [size_toList] at this
  exact Nat.le_trans this (by decide)

/-- A slice, opened: a list. -/
theorem open_list {w : World} {f F : Nat} {t e : TypeId} {sz : Nat} {α : Type} {R : List Value → α → Prop} {Z : α → Prop} (ht : P.underlying t = some (.slice e)) (hc : P.cellsOf e = sz) (hsz : 0 < sz) (hf : f ≤ F + 1)
    (he : Opens enc P w F e sz R Z) {cs : List Value} {d : DataW H} {ps : List MemPlace} (h : DataW.trod enc P w 0 (fun _ => true) true f t cs = some (d, ps)) (hs : Sized P t d) :
    ∃ (l : List α) (A : Option Addr) (c : Nat), cs = [.slice A l.length c] ∧ l.length ≤ c ∧ RdL sz R w A l ∧ (∀ a ∈ l, Z a) ∧ c * P.bytesOf e ≤ reachBytes := by
  rcases DataW.trod_slice ht h with ⟨hv, hx⟩ | ⟨a, len, cap, elems, rest, n, rfl, rfl, hx, hb, hl, hm, hlen, hel, hsp, hns⟩
  · exact ⟨[], none, 0, hv, Nat.le_refl _, RdL.nil _ _ _ _, (by intro a ha; simp at ha), (by simp)⟩
  · have hd : d = .slice (elems.map (·.1)) (rest.map (·.1)) := congrArg Prod.fst hx
    subst hd
    have hcap : cap * P.bytesOf e ≤ reachBytes := by
      have := hs (((elems.map (·.1)).length + (rest.map (·.1)).length) * P.bytesOf e) (by simp [DataW.weights, ht])
      rw [List.length_map, List.length_map, hlen, (hsp rfl).1] at this
      rwa [show len + (cap - len) = cap by omega] at this
    by_cases h0 : len = 0
    · subst h0
      exact ⟨[], some a, cap, rfl, hl, RdL.nil _ _ _ _, (by intro a ha; simp at ha), hcap⟩
    have hspot : ∃ b o, a = ⟨b, o, none⟩ := by
      obtain ⟨y, hy⟩ : ∃ y, elems[0]? = some y := ⟨_, List.getElem?_eq_getElem (by omega)⟩
      have hk2 := hel 0 (by omega)
      rw [hy, Option.bind_eq_some_iff] at hk2
      obtain ⟨ds, hcs, htr⟩ := hk2
      obtain ⟨_, hdl, hcell⟩ := World.cells?_some hcs
      have h1 := hcell 0 (by omega)
      rw [List.getElem?_eq_getElem (by omega)] at h1
      have h2 := World.cell?_spot h1
      obtain ⟨b, o, s⟩ := a
      have h3 : s = none := by simpa [Addr.add] using h2
      exact ⟨b, o, by rw [h3]⟩
    obtain ⟨b, o, rfl⟩ := hspot
    have step : ∀ k, k ≤ len → ∃ (l : List α) (xs : List Value), l.length = k ∧ All sz R xs l ∧ (∀ a ∈ l, Z a) ∧ ∀ j u, xs[j]? = some u → w.cell? ⟨b, o + j, none⟩ = some u := by
      intro k
      induction k with
      | zero => exact fun _ => ⟨[], [], rfl, rfl, (by intro a ha; simp at ha), fun j u hu => by simp at hu⟩
      | succ k ih =>
        intro hk
        obtain ⟨l, xs, h1, h2, h3, h4⟩ := ih (by omega)
        obtain ⟨y, hy⟩ : ∃ y, elems[k]? = some y := ⟨_, List.getElem?_eq_getElem (by omega)⟩
        have hk2 := hel k (by omega)
        rw [hy, Option.bind_eq_some_iff] at hk2
        obtain ⟨ds, hcs, htr⟩ := hk2
        obtain ⟨_, hdl, hcell⟩ := World.cells?_some hcs
        have hsy : Sized P e y.1 := fun m hm => hs m (by
          simp only [DataW.weights, ht, List.mem_cons, List.mem_append]
          exact .inr (.inl (weightsAll_mem (List.mem_map_of_mem (List.mem_of_getElem? hy)) m hm)))
        obtain ⟨x, hx1, hx2, hx3⟩ := he ds y.1 y.2 (DataW.trod_le (by omega) htr) hsy
        rw [hc] at hdl hcell
        refine ⟨l ++ [x], xs ++ ds, by simp [h1], h2.append (All.one hx2 hx1), ?_, ?_⟩
        · intro z hz
          rcases List.mem_append.1 hz with hz | hz
          · exact h3 z hz
          · simp only [List.mem_singleton] at hz; rw [hz]; exact hx3
        · intro j u hu
          have hxl : xs.length = k * sz := by rw [h2.len, h1]
          by_cases hj : j < k * sz
          · rw [List.getElem?_append_left (by omega)] at hu
            exact h4 j u hu
          · rw [List.getElem?_append_right (by omega), hxl] at hu
            have hj2 : j - k * sz < sz := by
              have := (List.getElem?_eq_some_iff.1 hu).1
              omega
            have h5 := hcell (j - k * sz) hj2
            rw [hu, add_zero_spot, add_zero_spot] at h5
            rw [show o + j = o + k * sz + (j - k * sz) by omega]
            exact h5
    obtain ⟨l, xs, h1, h2, h3, h4⟩ := step len (Nat.le_refl _)
    subst h1
    exact ⟨l, some ⟨b, o, none⟩, cap, rfl, hl, ⟨xs, .inr ⟨b, o, rfl, h4⟩, h2⟩, h3, hcap⟩
end
end Go.Proofs.YtmdjffnelkgmpaaDoor
