/- Layer 25's law, walked: FilterKeeps. -/
import Derived.Test.YtmdjffnelkgmpaaDoorFilOf
import Derived.Test.YtmdjffnelkgmpaaDoorLaw25a
import Derived.Test.YtmdjffnelkgmpaaDoorLaw25g
namespace Go.Proofs.YtmdjffnelkgmpaaDoor
open Go Go.RowKit Go.Maps Go.ChangeMaps Fm

theorem stringInfo : (Tryd.prog.info? 9).map (fun i => (i.zero, i.size, i.bytes)) = some (some (.string ⟨#[]⟩), 1, 16) := by kernel_rfl
theorem termInfo : (Tryd.prog.info? 30).map (fun i => (i.zero, i.size, i.bytes)) = some (some (.agg #[.int .i64 0, .string ⟨#[]⟩, .string ⟨#[]⟩, .string ⟨#[]⟩]), 4, 56) := by kernel_rfl
theorem strs1 (l : List ByteArray) : ∀ u ∈ l.map Value.string, u.oneCell' = true := by intro u hu; obtain ⟨x, _, rfl⟩ := List.mem_map.1 hu; rfl
theorem tms1 (l : List Tm) : ∀ u ∈ l.flatMap tmC, u.oneCell' = true := by
  intro u hu
  obtain ⟨t, _, ht⟩ := List.mem_flatMap.1 hu
  simp only [tmC, List.mem_cons, List.not_mem_nil, or_false] at ht
  rcases ht with rfl | rfl | rfl | rfl <;> rfl
theorem RdTs.flat {w : World} {A : Option Addr} {l : List Tm} : RdTs w A l ↔ Rd w A (l.flatMap tmC) := by
  constructor
  · rintro ⟨xs, h, ha⟩
    rw [← ha.flat]; exact h
  · intro h
    exact ⟨_, h, All.of_flat l fun _ _ => rfl⟩
theorem tms_len (l : List Tm) : (l.flatMap tmC).length = l.length * 4 := by
  induction l with
  | nil => rfl
  | cons a r ih => simp [List.flatMap_cons, ih, tmC, Nat.add_mul]
theorem fails_snoc {vars : List ByteArray} {row : List Tm} {n : Nat} {l : List (ExT n)} {j : Nat} {y : ExT n} (h : l[j]? = some y) : (!failsI vars row n (l.take (j + 1))) = (!failsI vars row n (l.take j) && (ofI vars row n y == 1)) := by
  rw [take_snoc_of h]
  unfold failsI
  simp [List.any_append, Bool.not_or]

set_option maxRecDepth 100000 in
set_option maxHeartbeats 8000000 in
theorem lawFilterKeeps (n : Nat) (l : List (ExT n)) (A : Option Addr) (c : Nat) (vars : List ByteArray) (A1 : Option Addr) (c1 : Nat) (row : List Tm) (A2 : Option Addr) (c2 : Nat) (t : Tm) (w : World)
    (hr : RdEs n w A l) (hl : l.length ≤ 1353245080300) (hz : ∀ x ∈ l, szE n x) (hr1 : Rd w A1 (vars.map Value.string)) (hv : vars.length ≤ 8796093021952) (hr2 : RdTs w A2 row) (hrl : row.length ≤ 2513169434843) (hzr : ∀ u ∈ row, u.x.size ≤ 281474976710656) (hzt : t.x.size ≤ 281474976710656) :
    Calls Tryd.prog 4 #[.slice A l.length c, .slice A1 vars.length c1, .slice A2 row.length c2, .agg #[.int .i64 t.k, .string t.x, .string t.l, .string t.y]] w fun e w' => e = .returned (.bool true) ∧ Below w.heap.size w w' := by
  have hl' : (l.length : Int) ≤ 1353245080300 := by omega
  have hv2 : vars.length ≤ 281474976710656 := by omega
  have hrl2 : row.length ≤ 281474976710656 := by omega
  obtain ⟨W, hW⟩ : ∃ W : World, w.alloc (.cells #[.int .i64 t.k, .string t.x, .string t.l, .string t.y] 30) = W := ⟨_, rfl⟩
  have hB0 : Below w.heap.size w W := by rw [← hW]; exact (by repeat (first | exact Below.refl _ _ | assumption | exact (Below.refl _ _).alloc (Nat.le_refl _) _ | refine below_tr ?_ (by assumption) | refine below_alloc ?_ | refine below_tr ?_ (below_regrown _ _ _)))
  have hT : TmAt W w.heap.size t := by rw [← hW]; exact tmAt_alloc _ _ _
  go_enter Tryd.func4, Tryd.ntmps4
  go_wp2_with fail
  try simp only [hW]
  have HW := Lib.hid hW
  clear hW
  refine (lawAwake _).mono ?_
  rintro e w1 ⟨rfl, hb1⟩
  go_wp2_with fail
  have hB1 := below_tr hB0 hb1
  refine (lawGreat n l A A1 A2 c vars.length c1 row.length c2 w1 (RdEs.later hr hB1) hl hv2 hrl2 hz).mono ?_
  rintro e w2 ⟨g, rfl, hb2⟩
  have hB2 := below_tr hB1 hb2
  have hT2 := (hT.on hb1).on hb2
  clear hB0 hB1 hb1 hb2 hT
  cases g
  · have q0 := RdEs.later hr hB2
    have q1 := hr1.later hB2
    have q2 := RdTs.later hr2 hB2
    have HB2 := Lib.hid hB2
    clear hB2 hr hr1 hr2
    go_wp2
    go_loopw [9, 10] (fun a i wr => ∃ j : Nat, j ≤ l.length ∧ i = .int .i64 j ∧ a = .bool (!failsI vars row n (l.take j)) ∧ Below w2.heap.size w2 wr) (fun _ i _ => l.length - (intOf i).toNat)
    case atStart => exact ⟨0, by omega, rfl, rfl, Below.refl _ _⟩
    case round =>
      obtain ⟨j, hj, rfl, rfl, hB⟩ := hrel
      by_cases hlt : j < l.length
      · obtain ⟨y, hy⟩ : ∃ y, l[j]? = some y := ⟨_, List.getElem?_eq_getElem hlt⟩
        have hzy := hz y (List.mem_of_getElem? hy)
        have Hsn := Lib.hid (fails_snoc (vars := vars) (row := row) hy)
        obtain ⟨g, o, k', s', t', A', m', d', rfl, hR, c0, c1', c2', c3, c4, c5, c6⟩ := (RdEs.later q0 hB).atv hy
        have hO := filOf vars row hv2 hrl2 hzr n y _ A1 A2 c1 c2 wr (q1.later hB) (RdTs.later q2 hB) hR hzy
        have hO2 := fun (W : World) (b : Nat) (hb : Below wr.heap.size wr W) (a : RdE (n + 1) W [.int .i64 3, .string ⟨#[]⟩, .int .i64 0, .string ⟨#[]⟩, .string ⟨#[]⟩, .string ⟨#[]⟩, .slice (some ⟨b, 0, none⟩) 1 1] (3, ⟨#[]⟩, zTm, [y])) => filOf vars row hv2 hrl2 hzr (n + 1) (3, ⟨#[]⟩, zTm, [y]) [.int .i64 3, .string ⟨#[]⟩, .int .i64 0, .string ⟨#[]⟩, .string ⟨#[]⟩, .string ⟨#[]⟩, .slice (some ⟨b, 0, none⟩) 1 1] A1 A2 c1 c2 W (q1.later (below_tr hB hb)) (RdTs.later q2 (below_tr hB hb)) a ⟨by decide, by decide, by simp, by simpa using hzy⟩
        have ho2 : ofI vars row (n + 1) (3, ⟨#[]⟩, zTm, [y]) = notI (ofI vars row n y) := rfl
        have hrg := ofI_range vars row n y
        rw [ho2] at hO2
        have HR := Lib.hid hR
        have HBB := Lib.hid hB
        clear hy hzy hR ho2 hB q0 q1 q2 hz hzr
        generalize ofI vars row n y = v at *
        obtain ⟨hv1, hv3⟩ := hrg
        generalize failsI vars row n (l.take j) = p at *
        go_wp2_with fail
        refine hO.mono ?_
        rintro e w3 ⟨rfl, hb3⟩
        have d0 := cell_on c0 hb3
        have d1 := cell_on c1' hb3
        have d2 := cell_on c2' hb3
        have d3 := cell_on c3 hb3
        have d4 := cell_on c4 hb3
        have d5 := cell_on c5 hb3
        have d6 := cell_on c6 hb3
        clear c0 c1' c2' c3 c4 c5 c6 hO
        go_wp2_with fail
        have hb4 : Below w3.heap.size w3 (w3.alloc (.cells #[.int .i64 k', .string s', .int .i64 t'.k, .string t'.x, .string t'.l, .string t'.y, .slice A' m' d'] 49)) := (by repeat (first | exact Below.refl _ _ | assumption | exact (Below.refl _ _).alloc (Nat.le_refl _) _ | refine below_tr ?_ (by assumption) | refine below_alloc ?_ | refine below_tr ?_ (below_regrown _ _ _)))
        have hb34 := below_tr hb3 hb4
        have HR2 := HR.out.later hb34
        refine (hO2 _ _ hb34 ⟨_, 1, rfl, Nat.le_refl _, ⟨_, Rd.of_block (heap_alloc_new w3 _) rfl, All.one rfl HR2⟩⟩).mono ?_
        rintro e w4 ⟨rfl, hb5⟩
        have HB4 := Lib.hid (below_tr hb34 hb5)
        clear hO2 hb3 hb4 hb34 hb5 HR2 d0 d1 d2 d3 d4 d5 d6
        have hN := fun W => filNot v W
        generalize notI v = nv at *
        have HBr := Lib.hid (below_tr HBB.out HB4.out)
        by_cases hv1' : v = 1
        · subst hv1'
          cases p
          all_goals
            go_wp2_with (refine (hN _).mono ?_; rintro e w5 ⟨rfl, rfl⟩)
            go_roundw
            case rel => exact ⟨j + 1, by omega, by go_num, by rw [Hsn.out]; rfl, HBr.out⟩
            case measure => simp [intOf]; omega
        · have hvb : (v == 1) = false := by simpa using hv1'
          cases p
          all_goals
            go_wp2_with (refine (hN _).mono ?_; rintro e w5 ⟨rfl, rfl⟩)
            go_roundw
            case rel => exact ⟨j + 1, by omega, by go_num, by rw [Hsn.out, hvb]; rfl, HBr.out⟩
            case measure => simp [intOf]; omega
      · have hk2 : l.take j = l := List.take_of_length_le (by omega)
        rw [hk2]
        have hK := filKeeps vars row hv2 hrl2 hzr n l A A1 A2 c c1 c2 wr (q1.later hB) (RdTs.later q2 hB) (RdEs.later q0 hB) hl hz
        have ht2 := hT2.on hB
        have HB3 := Lib.hid (below_tr HB2.out hB)
        have r0 := RdEs.later q0 hB
        have r1 := q1.later hB
        have r2 := RdTs.later q2 hB
        generalize hfb : failsI vars row n l = p at *
        clear hk2 q0 q1 q2 hB hT2 hfb
        go_wp2_with fail
        refine hK.mono ?_
        rintro e w3 ⟨rfl, hb3⟩
        have s0 := RdEs.later r0 hb3
        have s1 := r1.later hb3
        have s2 := RdTs.later r2 hb3
        have ht3 := ht2.on hb3
        have HB4 := Lib.hid (below_tr HB3.out hb3)
        clear r0 r1 r2 ht2 hb3 hK
        have own1 := own_new (w := w3) (base := w3.heap.size) (e := 9) (size := 1) (n := 1) (cs := #[.string ⟨#[32]⟩]) (Nat.le_refl _) rfl rfl (by decide)
        have hba : Below w3.heap.size w3 (w3.alloc (.cells #[.string ⟨#[32]⟩] 9)) := (by repeat (first | exact Below.refl _ _ | assumption | exact (Below.refl _ _).alloc (Nat.le_refl _) _ | refine below_tr ?_ (by assumption) | refine below_alloc ?_ | refine below_tr ?_ (below_regrown _ _ _)))
        have z1 := Rd.later s1 hba
        have hl4 : row.length * 4 = (row.flatMap tmC).length := (tms_len row).symm
        have Hl4 := Lib.hid hl4
        clear hl4
        have y3 := RdTs.flat.1 s2
        go_wp2_with (first
          | (at_builtin; refine wpList_app rfl rfl Tryd.underlying22 stringInfo rfl (by omega) rfl own1 rfl z1 (by rw [List.length_map]; omega) (strs1 _) (by omega) (by omega) (by simp) ?_; intro v4 w4 own4 hb4; have hb34 := hba.trans hb4; obtain ⟨t0, t1, t2, t3⟩ := ht3.on hb34; have own2 := own_new (w := w4) (base := w4.heap.size) (e := 30) (size := 4) (n := 1) (cs := #[.int .i64 t.k, .string t.x, .string t.l, .string t.y]) (Nat.le_refl _) rfl rfl (by decide); have hbb : Below w4.heap.size w4 (w4.alloc (.cells #[.int .i64 t.k, .string t.x, .string t.l, .string t.y] 30)) := below_alloc (Below.refl _ _); have z2 := (y3.later hb34).later hbb)
          | (at_builtin; refine wpList_app rfl rfl Tryd.underlying43 termInfo rfl (by omega) rfl own2 rfl z2 Hl4.out.symm (tms1 _) (by omega) (by omega) (by simp) ?_; intro v5 w5 own5 hb5))
        have hb45 := hbb.trans hb5
        obtain ⟨A4, c4, rfl, _, hr4⟩ := own_slice own4
        obtain ⟨A5, c5, rfl, _, hr5⟩ := own_slice own5
        have hr4' : Rd w5 A4 ((⟨#[32]⟩ :: vars).map Value.string) := Rd.later hr4 hb45
        have hr5' : RdTs w5 A5 (t :: row) := RdTs.flat.2 hr5
        have hb35 := hb34.trans (hb45.mono hb34.size)
        have f0 := RdEs.later s0 hb35
        have f1 := Rd.later s1 hb35
        have f2 := RdTs.later s2 hb35
        have HB5 := Lib.hid (below_tr HB4.out hb35)
        have Ho := fun y hy W a b cs hR => filOf vars row hv2 hrl2 hzr n y cs A1 A2 c1 c2 W a b hR (hz y hy)
        have hzm : ∀ u ∈ t :: row, u.x.size ≤ 281474976710656 := by
          intro u hu
          rcases List.mem_cons.1 hu with h | hu
          · rw [h]; exact hzt
          · exact hzr u hu
        have Hm := fun y hy W a b cs hR => filOf (⟨#[32]⟩ :: vars) (t :: row) (by simp; omega) (by simp; omega) hzm n y cs A4 A5 c4 c5 W a b hR (hz y hy)
        have Hh := fun y hy W cs hR => lawHas ⟨#[32]⟩ n y cs W hR (hz y hy)
        rw [show (⟨#[32]⟩ :: vars : List ByteArray).length = 1 + vars.length by simp; omega, show (t :: row).length = 1 + row.length by simp; omega] at Hm
        clear hz hzr hzt hzm hr4 hr5 own4 own5 own1 own2 s0 s1 s2 hb35 hb45 hb34 hb4 hb5 hba hbb y3 z1 z2 ht3 t0 t1 t2 t3 Hl4
        go_loopw [15] (fun i wr => ∃ j : Nat, j ≤ l.length ∧ i = .int .i64 j ∧ Below w5.heap.size w5 wr) (fun i _ => l.length - (intOf i).toNat)
        case atStart => exact ⟨0, by omega, rfl, Below.refl _ _⟩
        case round =>
          obtain ⟨j, hj, rfl, hB⟩ := hrel
          by_cases hlt : j < l.length
          · obtain ⟨y, hy⟩ : ∃ y, l[j]? = some y := ⟨_, List.getElem?_eq_getElem hlt⟩
            have hmem := List.mem_of_getElem? hy
            obtain ⟨g, o, k', s', t', A', m', d', rfl, hR, c0, c1', c2', c3, c4', c5', c6⟩ := (RdEs.later f0 hB).atv hy
            have e1 := Rd.later f1 hB
            have e2 := RdTs.later f2 hB
            have e4 := Rd.later hr4' hB
            have e5 := RdTs.later hr5' hB
            have q0 := fun d os => cell_regrown c0 d os
            have q1 := fun d os => cell_regrown c1' d os
            have q2 := fun d os => cell_regrown c2' d os
            have q3 := fun d os => cell_regrown c3 d os
            have q4 := fun d os => cell_regrown c4' d os
            have q5 := fun d os => cell_regrown c5' d os
            have q6 := fun d os => cell_regrown c6 d os
            have kh := fun d os => Hh y hmem (Sort.grow (redrawn wr d) os) _ (hR.later (below_regrown wr d os))
            have ko := fun d os => Ho y hmem (Sort.grow (redrawn wr d) os) (e1.later (below_regrown wr d os)) (RdTs.later e2 (below_regrown wr d os)) _ (hR.later (below_regrown wr d os))
            have km := fun d os => Hm y hmem (Sort.grow (redrawn wr d) os) (e4.later (below_regrown wr d os)) (RdTs.later e5 (below_regrown wr d os)) _ (hR.later (below_regrown wr d os))
            have hmore := ofI_more (v := ⟨#[32]⟩) (t := t) (vars := vars) (row := row) y
            have HBB := Lib.hid hB
            clear hy hmem hR e1 e2 e4 e5 f0 f1 f2 hr4' hr5' Hh Ho Hm hB c0 c1' c2' c3 c4' c5' c6
            generalize hasV ⟨#[32]⟩ n y = p at *
            cases p
            · rw [hmore rfl] at km
              clear hmore
              generalize ofI vars row n y = v at *
              go_wp2
              refine wp_region_quiet_below (by kernel_rfl) (by kernel_rfl) ?_; (repeat (any_goals (go_big_quiet_step ((first | (go_at_call 16; with_reducible exact Calls.regrown_of (kh _ _)) | (go_at_call 13; with_reducible exact Calls.regrown_of (ko _ _)) | (go_at_call 13; with_reducible exact Calls.regrown_of (km _ _))))))); all_goals (refine wpQuiet_nil ?_; intro _ hw9; obtain ⟨⟨d9, os9⟩, hw8⟩ := hw9; subst hw8)
              have hB2 := below_tr HBB.out (below_regrown wr d9 os9)
              clear q0 q1 q2 q3 q4 q5 q6 kh ko km
              go_wp2
              go_roundw
              case rel => exact ⟨j + 1, by omega, by go_num, hB2⟩
              case measure => simp [intOf]; omega
            · clear hmore
              go_wp2
              refine wp_region_quiet_below (by kernel_rfl) (by kernel_rfl) ?_; (repeat (any_goals (go_big_quiet_step ((first | (go_at_call 16; with_reducible exact Calls.regrown_of (kh _ _)) | (go_at_call 13; with_reducible exact Calls.regrown_of (ko _ _)) | (go_at_call 13; with_reducible exact Calls.regrown_of (km _ _))))))); all_goals (refine wpQuiet_nil ?_; intro _ hw9; obtain ⟨⟨d9, os9⟩, hw8⟩ := hw9; subst hw8)
              have hB2 := below_tr HBB.out (below_regrown wr d9 os9)
              clear q0 q1 q2 q3 q4 q5 q6 kh ko km
              go_wp2
              go_roundw
              case rel => exact ⟨j + 1, by omega, by go_num, hB2⟩
              case measure => simp [intOf]; omega
          · have HB6 := Lib.hid (below_tr HB5.out hB)
            clear Hh Ho Hm f0 f1 f2 hr4' hr5' hB
            go_wp2
            go_ret
            exact ⟨rfl, HB6.out⟩
  · go_wp2
    go_ret
    exact ⟨rfl, hB2⟩
end Go.Proofs.YtmdjffnelkgmpaaDoor
