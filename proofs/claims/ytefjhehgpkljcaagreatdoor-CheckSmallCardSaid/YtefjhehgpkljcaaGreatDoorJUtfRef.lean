/- The answer for query (ossuaryref22): patterns' variables. The answer for term (ossuaryref08), in plain words: valid texts, small tags. The reference's functions of layer 7, walked. -/
import Derived.Test.YtefjhehgpkljcaaGreatDoorJR22e
import Derived.Test.YtefjhehgpkljcaaGreatDoorJQSlot
import Derived.Lib.TrimUEq
import Derived.Lib.TrimAscii
import Derived.Lib.MapLaws
import Derived.Test.YtefjhehgpkljcaaGreatDoorJMetMath
import Derived.Test.YtefjhehgpkljcaaGreatDoorJUtfProg3
import Derived.Test.YtefjhehgpkljcaaGreatDoorJRegion2
namespace Go.Proofs.YtefjhehgpkljcaaGreatDoor
open Go Go.RowKit Um Fm Mt
theorem RowOn.cell {a b : Value} {w w1 : World} (h : RowOn a b w w1) {p : Addr} {u : Value} (hne : a.ownBlock ≠ some p.block) (hc : w.cell? p = some u) : w1.cell? p = some u := by
  have hlt := cell_lt hc
  have h1 := h.1 p.block w.heap[p.block] hne (Array.getElem?_eq_getElem hlt)
  rw [World.cell?, h1]
  rw [World.cell?, Array.getElem?_eq_getElem hlt] at hc
  exact hc
def VarsFl (l : List Pat) (w : World) (v i : Value) (wr : World) : Prop := ∃ (k : Nat) (l' : List ByteArray) (v' : Value), k ≤ l.length ∧ i = .int .i64 k ∧ v' = v ∧ wr.ownsRow w.heap.size 9 1 v' l'.length (l'.map Value.string) ∧ Hid (l' = metsN [] ((l.take k).flatMap occP)) ∧ Below w.heap.size w wr
def SlotsFl (ss : List Sl) (w W1 : World) (v1 : Value) (l1 : List ByteArray) (v i : Value) (wr : World) : Prop := ∃ (j : Nat) (l' : List ByteArray) (v' : Value), j ≤ 3 ∧ i = .int .i64 j ∧ v' = v ∧ wr.ownsRow w.heap.size 9 1 v' l'.length (l'.map Value.string) ∧ Hid (l' = metsN l1 (occS (ss.take j))) ∧ Below w.heap.size W1 wr ∧ RowOn v1 v' W1 wr
set_option maxRecDepth 20000 in
set_option maxHeartbeats 4000000 in
theorem r22Vars (l : List Pat) (A : Option Addr) (c : Nat) (w : World) (hr : RdPat w A l) (hl : l.length ≤ 300000) :
    Calls Tryz.prog 72 #[.slice A l.length c] w (NamesR (varsN l) w) := by
  have hnl : (l.length : Int) ≤ 300000 := by omega
  go_enter Tryz.func72, Tryz.ntmps72
  go_wp2
  go_loopw [3, 4] (VarsFl l w) (fun _ i _ => l.length - (intOf i).toNat)
  case atStart => exact ⟨0, [], _, by omega, rfl, rfl, World.ownsRow_nil _ _ _ _, rfl, Below.refl _ _⟩
  case round =>
    obtain ⟨k, l1, vv, hk, rfl, rfl, own1, Hl1, hB⟩ := hrel
    by_cases hlt : k < l.length
    · obtain ⟨x, hs⟩ : ∃ x, l[k]? = some x := ⟨_, List.getElem?_eq_getElem hlt⟩
      obtain ⟨g, o, cs, rfl, -, rfl, hx⟩ := (RdL.mono hr hB (fun _ _ _ h => h)).at_ (by omega) hs
      have q0 : wr.cell? ⟨g, o + k * 15, none⟩ = some (.string x.s.v) := hx 0 _ rfl
      have q1 : wr.cell? ⟨g, o + k * 15 + 1, none⟩ = some (.int .i64 x.s.t.k) := hx 1 _ rfl
      have q2 : wr.cell? ⟨g, o + k * 15 + 2, none⟩ = some (.string x.s.t.x) := hx 2 _ rfl
      have q3 : wr.cell? ⟨g, o + k * 15 + 3, none⟩ = some (.string x.s.t.l) := hx 3 _ rfl
      have q4 : wr.cell? ⟨g, o + k * 15 + 4, none⟩ = some (.string x.s.t.y) := hx 4 _ rfl
      have q5 : wr.cell? ⟨g, o + k * 15 + 5, none⟩ = some (.string x.p.v) := hx 5 _ rfl
      have q6 : wr.cell? ⟨g, o + k * 15 + 6, none⟩ = some (.int .i64 x.p.t.k) := hx 6 _ rfl
      have q7 : wr.cell? ⟨g, o + k * 15 + 7, none⟩ = some (.string x.p.t.x) := hx 7 _ rfl
      have q8 : wr.cell? ⟨g, o + k * 15 + 8, none⟩ = some (.string x.p.t.l) := hx 8 _ rfl
      have q9 : wr.cell? ⟨g, o + k * 15 + 9, none⟩ = some (.string x.p.t.y) := hx 9 _ rfl
      have q10 : wr.cell? ⟨g, o + k * 15 + 10, none⟩ = some (.string x.o.v) := hx 10 _ rfl
      have q11 : wr.cell? ⟨g, o + k * 15 + 11, none⟩ = some (.int .i64 x.o.t.k) := hx 11 _ rfl
      have q12 : wr.cell? ⟨g, o + k * 15 + 12, none⟩ = some (.string x.o.t.x) := hx 12 _ rfl
      have q13 : wr.cell? ⟨g, o + k * 15 + 13, none⟩ = some (.string x.o.t.l) := hx 13 _ rfl
      have q14 : wr.cell? ⟨g, o + k * 15 + 14, none⟩ = some (.string x.o.t.y) := hx 14 _ rfl
      have hln : l1.length ≤ 900000 := by
        have h1 := metsN_len ((l.take k).flatMap occP) []
        have h2 := occ_len (l.take k)
        rw [List.length_take] at h2
        rw [Hl1.out]
        rw [List.length_nil] at h1; omega
      have Hn : Hid (metsN [] ((l.take (k + 1)).flatMap occP) = metsN l1 (occS [x.s, x.p, x.o])) := by
        show _ = _
        rw [flat_take hs, metsN_app, Hl1.out]; rfl
      have HB := Lib.hid hB
      clear hs hr hx hB
      go_wp2
      refine Rh.wp_region_plan wr.heap.size [(true, [0, 1, 2, 3, 4, 5, 6, 7, 8, 9, 10, 11, 12, 13, 14]), (false, [15]), (true, [16])] _ (by kernel_rfl) (by kernel_rfl) (by simp only [List.map_cons, List.map_nil, Rg.pickOps, List.getElem?_toArray, List.getElem?_cons_zero, List.getElem?_cons_succ, Option.getD_some]; rfl) (fun K wd hK hwd => ?_)
      have hbd : Below wr.heap.size wr wd := by rw [hwd]; exact (Below.refl _ _).drew
      clear hwd
      have s0 := cellL q0 hbd
      have s1 := cellL q1 hbd
      have s2 := cellL q2 hbd
      have s3 := cellL q3 hbd
      have s4 := cellL q4 hbd
      have s5 := cellL q5 hbd
      have s6 := cellL q6 hbd
      have s7 := cellL q7 hbd
      have s8 := cellL q8 hbd
      have s9 := cellL q9 hbd
      have s10 := cellL q10 hbd
      have s11 := cellL q11 hbd
      have s12 := cellL q12 hbd
      have s13 := cellL q13 hbd
      have s14 := cellL q14 hbd
      clear q0 q1 q2 q3 q4 q5 q6 q7 q8 q9 q10 q11 q12 q13 q14
      refine Rh.plan_quiet ?_
      iterate 15 go_big_quiet_step (fail)
      refine wpQuiet_nil (Rh.plan_chain ?_)
      clear s0 s1 s2 s3 s4 s5 s6 s7 s8 s9 s10 s11 s12 s13 s14
      go_wp2_with fail
      refine ⟨(Below.refl _ _).alloc hbd.size _, Rh.plan_quiet ?_⟩
      iterate 1 go_big_quiet_step (fail)
      refine wpQuiet_nil (Rh.plan_end ?_)
      refine hK _ _ ?_
      clear hK
      obtain ⟨W5, hW5⟩ : ∃ W : World, wd.alloc (.cells #[.string x.s.v, .int .i64 x.s.t.k, .string x.s.t.x, .string x.s.t.l, .string x.s.t.y, .string x.p.v, .int .i64 x.p.t.k, .string x.p.t.x, .string x.p.t.l, .string x.p.t.y, .string x.o.v, .int .i64 x.o.t.k, .string x.o.t.x, .string x.o.t.l, .string x.o.t.y] 55) = W := ⟨_, rfl⟩
      have hss : RdSl W5 (some ⟨wd.heap.size, 0, none⟩) [x.s, x.p, x.o] := ⟨[x.s, x.p, x.o].flatMap slC, by rw [← hW5]; exact Rd.of_block (heap_alloc_new wd _) rfl, All.of_flat (f := slC) _ fun _ _ => rfl⟩
      have Bs : Below wr.heap.size wr W5 := by rw [← hW5]; exact hbd.alloc hbd.size _
      have own5 := own_below own1 Bs (Nat.le_refl _)
      have Hvb : Hid (vv.ownBlock ≠ some wd.heap.size) := own_row_lt own1 hbd.size
      obtain ⟨gs, hgs⟩ : ∃ g : Nat, wd.heap.size = g := ⟨_, rfl⟩
      rw [hgs] at hss Hvb
      simp only [hW5, hgs]
      have HBs := Lib.hid (HB.out.trans (Bs.mono HB.out.size))
      clear hW5 hgs hbd own1 Bs
      have Hss := Lib.hid hss
      clear hss
      go_wp2
      go_loopw [3, 6] (SlotsFl [x.s, x.p, x.o] w W5 vv l1) (fun _ i _ => 3 - (intOf i).toNat)
      case atStart => exact ⟨0, l1, vv, by omega, rfl, rfl, own5, rfl, Below.refl _ _, RowOn.refl _ _⟩
      case round =>
        obtain ⟨j, l2, vs, hj, rfl, rfl, own2, Hl2, hB2, hOn⟩ := hrel
        clear own5
        by_cases hlt2 : j < 3
        · obtain ⟨y, hy⟩ : ∃ y, [x.s, x.p, x.o][j]? = some y := ⟨_, List.getElem?_eq_getElem (by simpa using hlt2)⟩
          obtain ⟨g', o', cs', hg', -, rfl, hx'⟩ := Hss.out.at_ (by omega) hy
          injection hg' with hg'
          injection hg' with hg' ho'
          subst hg' ho'
          have d0 : wr.cell? ⟨gs, 0 + j * 5, none⟩ = some (.string y.v) := hOn.cell Hvb.out (hx' 0 _ rfl)
          have hsn := occS_snoc hy
          have hl2n : l2.length ≤ 900003 := by
            have h1 := metsN_len (occS ([x.s, x.p, x.o].take j)) l1
            have h2 := occS_len ([x.s, x.p, x.o].take j)
            rw [List.length_take] at h2
            rw [Hl2.out]; omega
          have hW := r22WithR w.heap.size l2 y.v vs wr (by omega) (Nat.le_trans HBs.out.size hB2.size) own2
          have HOn := Lib.hid hOn
          have HB2 := Lib.hid hB2
          rw [Nat.zero_add] at d0
          cases he : y.v.toList.isEmpty
          · have Hn2 : Hid (metN l2 y.v = metsN l1 (occS ([x.s, x.p, x.o].take (j + 1)))) := by
              show _ = _
              rw [hsn, occS_one he, metsN_app, ← Hl2.out]; rfl
            clear hy hx' hsn hOn hB2 own2
            go_wp2_with (go_at_call 124; refine hW.mono ?_; rintro e w2 ⟨v2, rfl, own3, hb3, hon3⟩)
            go_roundw
            case rel => exact ⟨j + 1, _, v2, by omega, by go_num, rfl, own3, Hn2, HB2.out.trans hb3, HOn.out.trans hon3 HB2.out.size⟩
            case measure => simp [intOf]; omega
          · have Hn2 : Hid (l2 = metsN l1 (occS ([x.s, x.p, x.o].take (j + 1)))) := by
              show _ = _
              rw [hsn, occS_one_no he, List.append_nil]; exact Hl2.out
            clear hy hx' hsn hOn hB2 hW
            go_wp2
            go_roundw
            case rel => exact ⟨j + 1, _, vs, by omega, by go_num, rfl, own2, Hn2, HB2.out, HOn.out⟩
            case measure => simp [intOf]; omega
        · obtain rfl : j = 3 := by omega
          have Hl3 : Hid (l2 = metsN [] ((l.take (k + 1)).flatMap occP)) := by
            show _ = _
            rw [Hn.out]; exact Hl2.out
          have HB2 := Lib.hid hB2
          clear hOn hB2
          go_wp2
          go_roundw
          case rel => exact ⟨k + 1, l2, vs, by omega, by go_num, rfl, own2, Hl3, HBs.out.trans HB2.out⟩
          case measure => simp [intOf]; omega
    · obtain rfl : k = l.length := by omega
      have hH := Hl1.out
      rw [List.take_length] at hH
      have hH2 : l1 = varsN l := hH
      subst hH2
      clear Hl1 hr hH
      obtain ⟨A5, m5, rfl, _, _⟩ := own_slice own1
      go_wp2
      go_ret
      exact ⟨_, rfl, own1, hB⟩
end Go.Proofs.YtefjhehgpkljcaaGreatDoor
namespace Go.Proofs.YtefjhehgpkljcaaGreatDoor
open Go Go.RowKit Um Fm

theorem sgn_valid : ∀ (n : Nat) (l : List UInt8), l.length ≤ n → (sgn l).2.2 = Lib.validD l
  | 0, l, h => by
    have : l = [] := List.eq_nil_of_length_eq_zero (by omega)
    subst this; rfl
  | n + 1, l, h => by
    by_cases hne : l = []
    · subst hne; rfl
    · have hl : 0 < l.length := List.length_pos_iff.2 hne
      have hp := decodeN_pos l.length (l.getD 0 0).toNat (l.getD 1 0).toNat (l.getD 2 0).toNat (l.getD 3 0).toNat
      rw [Lib.validD_step l hne, Lib.decodeL_N]
      have hnx : nx l = if Lib.decodeN l.length (l.getD 0 0).toNat (l.getD 1 0).toNat (l.getD 2 0).toNat (l.getD 3 0).toNat = (65533, 1) then (0, 0) else Lib.decodeN l.length (l.getD 0 0).toNat (l.getD 1 0).toNat (l.getD 2 0).toNat (l.getD 3 0).toNat := by
        unfold nx; rw [if_neg (by omega)]
      generalize Lib.decodeN l.length (l.getD 0 0).toNat (l.getD 1 0).toNat (l.getD 2 0).toNat (l.getD 3 0).toNat = d at *
      obtain ⟨a, b⟩ := d
      by_cases hb : a = 65533 ∧ b = 1
      · obtain ⟨rfl, rfl⟩ := hb
        rw [if_pos rfl] at hnx
        rw [sgn_bad l (by omega) (by rw [hnx])]
        simp
      · rw [if_neg (by simpa using hb)] at hnx
        rw [sgn_cons l (by omega) (by rw [hnx]; simp only at hp ⊢; omega), hnx]
        rw [if_neg (by simpa using hb)]
        exact sgn_valid n _ (by simp only at hp ⊢; rw [List.length_drop]; omega)
/-- What Signs says of a text is whether it is valid. -/
theorem sigR_valid (s : ByteArray) : ((sigR s.data.toList).2.2 == 0) = validB s := by
  unfold sigR validB
  rw [← sgn_valid _ s.data.toList (Nat.le_refl _)]
  cases (sgn s.data.toList).2.2 <;> rfl
theorem sigR_of_valid {s : ByteArray} (h : validB s = true) : (sigR s.data.toList).2.2 = 0 := by rw [← sigR_valid] at h; exact eq_of_beq h
theorem sigR_of_not {s : ByteArray} (h : validB s = false) : (sigR s.data.toList).2.2 = 11 := by
  rw [← sigR_valid] at h
  revert h
  unfold sigR
  split <;> simp

def upB (b : UInt8) : Bool := decide (65 ≤ b.toNat) && decide (b.toNat ≤ 90)
def smallB (l : List UInt8) : Bool := l.all fun b => !upB b
theorem mapLow_cons (b : UInt8) (t : List UInt8) (h : b.toNat < 128) : Lib.mapD lowI (b :: t) = (if upB b then UInt8.ofNat (b.toNat + 32) else b) :: Lib.mapD lowI t := by
  rw [Lib.mapD_step lowI (b :: t) (by simp), Lib.decodeL_ascii b t h]
  have hlow : 0 ≤ lowI (b.toNat : Int) ∧ lowI (b.toNat : Int) ≤ 127 := by unfold lowI; split <;> omega
  have he : Lib.encodeRune (lowI (b.toNat : Int)) = [(lowI (b.toNat : Int)).toNat.toUInt8] := by unfold Lib.encodeRune; rw [Lib.encodeRuneZ_one hlow.1 hlow.2]; rfl
  simp only [List.drop_succ_cons, List.drop_zero]
  rw [if_pos hlow.1, he]
  simp only [List.cons_append, List.nil_append, List.cons.injEq, and_true]
  unfold lowI upB
  by_cases h1 : 65 ≤ b.toNat
  · by_cases h2 : b.toNat ≤ 90
    · rw [if_pos (by omega)]
      simp only [h1, h2, decide_true, Bool.and_self, if_true]
      congr 1
    · rw [if_neg (by omega)]
      simp [h2]
  · rw [if_neg (by omega)]
    simp [h1]
theorem mapLow_small : ∀ (l : List UInt8), (∀ b ∈ l, b.toNat < 128) → (decide (Lib.mapD lowI l = l)) = smallB l
  | [], _ => rfl
  | b :: t, h => by
    have hb := h b (by simp)
    have ih := mapLow_small t fun x hx => h x (by simp [hx])
    rw [mapLow_cons b t hb]
    unfold smallB at ih ⊢
    rw [List.all_cons, ← ih]
    cases hu : upB b
    · simp
    · have hne : UInt8.ofNat (b.toNat + 32) ≠ b := by
        intro e
        have h1 := congrArg UInt8.toNat e
        unfold upB at hu
        simp at hu
        rw [UInt8.toNat_ofNat'] at h1
        omega
      simp
/-- A tag is small just if none of A to Z is in it. -/
theorem tagB_small (s : ByteArray) : tagB s = (((tag s.data.toList : Int) == s.size) && smallB s.data.toList) := by
  unfold tagB
  cases h : ((tag s.data.toList : Int) == s.size)
  · rfl
  · have hp := tag_plain h
    rw [Bool.true_and, Bool.true_and, ← mapLow_small]
    · rw [ByteArray.toList_mk, ByteArray.toList_eq]
      rw [Bool.eq_iff_iff]; simp
    · intro b hb
      obtain ⟨i, hi, e⟩ := List.getElem_of_mem hb
      have := hp i (by rw [← size_toList]; exact hi)
      have e2 : s[i]'(by rw [← size_toList]; exact hi) = b := by rw [← e]; cases s; rfl
      rw [e2] at this; exact this
end Go.Proofs.YtefjhehgpkljcaaGreatDoor
namespace Go.Proofs.YtefjhehgpkljcaaGreatDoor
open Go Go.RowKit Um

theorem refIs (n : Int) (w : World) :
    Calls Tryz.prog 243 #[.int .i64 n] w fun e w' => e = .returned (.bool (isB n)) ∧ w = w' := by
  go_enter Tryz.func243, Tryz.ntmps243
  go_wp2
  all_goals
    go_ret
    refine ⟨?_, rfl⟩
    simp [isB, *]
  all_goals omega

theorem refIn (n : Int) (l : List Int) (A : Option Addr) (c : Nat) (w : World) (hl : l.length ≤ 1000000) (hc : Rd w A (l.map (Value.int .i64))) :
    Calls Tryz.prog 221 #[.int .i64 n, .slice A l.length c] w fun e w' => e = .returned (.bool (inB n l)) ∧ w = w' := by
  go_enter Tryz.func221, Tryz.ntmps221
  go_wp2
  go_loop [5] (fun i => ∃ k : Nat, k ≤ l.length + 1 ∧ i = .int .i64 k ∧ Hid (inB n (l.drop k) = inB n l)) (fun i => l.length + 2 - (intOf i).toNat)
  case atStart => exact ⟨0, by omega, rfl, rfl⟩
  case round =>
    obtain ⟨k, hk, rfl, H⟩ := hrel
    by_cases hlt : k + 1 < l.length
    · obtain ⟨x, hx⟩ : ∃ x, l[k]? = some x := ⟨_, List.getElem?_eq_getElem (by omega)⟩
      obtain ⟨y, hy⟩ : ∃ x, l[k+1]? = some x := ⟨_, List.getElem?_eq_getElem (by omega)⟩
      have hd := inB_drop n x y l k hx hy
      rw [H.out] at hd
      have Hd := Lib.hid hd
      clear hd H
      obtain ⟨g, o, rfl, hcc⟩ := hc.resolve_left (by intro h; simp at h; subst h; simp at hx)
      have h0 := hcc k (.int .i64 x) (by simp [hx])
      have h1 := hcc (k+1) (.int .i64 y) (by simp [hy])
      clear hx hy hc hcc
      go_wp2
      · go_ret
        exact ⟨by rw [Hd.out]; simp [*], rfl⟩
      · go_round
        case rel => exact ⟨k+2, by omega, by go_num, by show _ = _; rw [Hd.out]; simp; omega⟩
        case measure => simp [intOf]; omega
      · go_round
        case rel => exact ⟨k+2, by omega, by go_num, by show _ = _; rw [Hd.out]; simp; omega⟩
        case measure => simp [intOf]; omega
    · have he := inB_end n l k hlt
      rw [H.out] at he
      have Hd := Lib.hid he
      clear he H
      go_wp2
      go_ret
      exact ⟨by rw [Hd.out]; rfl, rfl⟩

theorem refFirst (n : Int) (w : World) :
    Calls Tryz.prog 220 #[.int .i64 n] w fun e w' => e = .returned (.bool (firstB n)) ∧ Below w.heap.size w w' := by
  have hin := fun W hW => refIn n firstL (some ⟨w.heap.size, 0, none⟩) 28 W (by decide) hW
  go_enter Tryz.func220, Tryz.ntmps220
  go_wp2_with (go_at_call 221; refine (hin _ ?_).mono ?_; exact Rd.of_block (heap_alloc_new w _) rfl; rintro e w' ⟨rfl, rfl⟩)
  go_ret
  exact ⟨rfl, (Below.refl _ _).alloc (Nat.le_refl _) _⟩

theorem refLetter (n : Int) (w : World) :
    Calls Tryz.prog 222 #[.int .i64 n] w fun e w' => e = .returned (.bool (letterB n)) ∧ Below w.heap.size w w' := by
  have hf := refFirst n w
  have hin := fun (W : World) (g : Nat) hW => refIn n letterL (some ⟨g, 0, none⟩) 14 W (by decide) hW
  unfold letterB
  generalize firstB n = b at hf
  go_enter Tryz.func222, Tryz.ntmps222
  cases b
  · go_wp2_with (first
      | (go_at_call 220; refine hf.mono ?_; rintro e w1 ⟨rfl, hb⟩)
      | (go_at_call 221; refine (hin _ _ ?_).mono ?_; exact Rd.of_block (heap_alloc_new w1 _) rfl; rintro e w' ⟨rfl, rfl⟩))
    go_ret
    exact ⟨by simp, hb.alloc hb.size _⟩
  · go_wp2_with (first
      | (go_at_call 220; refine hf.mono ?_; rintro e w1 ⟨rfl, hb⟩))
    go_ret
    exact ⟨by simp, hb⟩

/-- The bytes of a sign, in a block of their own. -/
theorem refBytes (n : Int) (w : World) (hn : isB n = true) :
    Calls Tryz.prog 244 #[.int .i64 n] w fun e w' => e = .returned (.slice (some ⟨w.heap.size, 0, none⟩) (Lib.runeCells n).length (Lib.runeCells n).length) ∧
      w' = w.alloc (.cells (Lib.runeCells n).toArray 5) := by
  rw [isB_iff] at hn
  obtain ⟨⟨h0, h9⟩, hs⟩ := hn
  by_cases c1 : n ≤ 127
  · have e := Lib.encodeRuneZ_one h0 c1
    unfold Lib.runeCells
    rw [e]
    clear e hs
    go_enter Tryz.func244, Tryz.ntmps244
    go_wp2
    go_ret
    exact ⟨rfl, rfl⟩
  · by_cases c2 : n ≤ 2047
    · have e := Lib.encodeRuneZ_two (by omega : 128 ≤ n) c2
      unfold Lib.runeCells
      rw [e]
      clear e hs
      go_enter Tryz.func244, Tryz.ntmps244
      go_wp2
      go_ret
      exact ⟨rfl, rfl⟩
    · by_cases c3 : n ≤ 65535
      · have e := Lib.encodeRuneZ_three (r := n) (by omega)
        unfold Lib.runeCells
        rw [e]
        clear e hs
        go_enter Tryz.func244, Tryz.ntmps244
        go_wp2
        go_ret
        exact ⟨rfl, rfl⟩
      · have e := Lib.encodeRuneZ_four (r := n) (by omega) (by omega)
        unfold Lib.runeCells
        rw [e]
        clear e hs
        go_enter Tryz.func244, Tryz.ntmps244
        go_wp2
        go_ret
        exact ⟨rfl, rfl⟩
def encS (n : Int) : ByteArray := ⟨(Lib.encodeRune n).toArray⟩
theorem encS_toList (n : Int) : (encS n).toList = Lib.encodeRune n := by unfold encS; rw [ByteArray.toList_mk]

theorem runeCells_nums (n : Int) : Lib.runeCells n = (Lib.encodeRuneZ n).map (Value.int .u8) := rfl

theorem refBytesStr (n : Int) (w : World) (hn : isB n = true) :
    Calls Tryz.prog 244 #[.int .i64 n] w fun e w' => ∃ g, e = .returned (.slice (some ⟨g, 0, none⟩) (Lib.runeCells n).length (Lib.runeCells n).length) ∧
      Below w.heap.size w w' ∧ (∀ W, Below w'.heap.size w' W → (convert 132 9 (.slice (some ⟨g, 0, none⟩) (Lib.runeCells n).length (Lib.runeCells n).length)).run Tryz.prog W = .ok (.string (encS n)) W) := by
  refine (refBytes n w hn).mono ?_
  rintro e w' ⟨rfl, rfl⟩
  refine ⟨_, rfl, (Below.refl _ _).alloc (Nat.le_refl _) _, ?_⟩
  intro W hW
  have := run_convert_bytes_arg (P := Tryz.prog) W 132 5 Tryz.underlying132 Tryz.underlying5 w.heap.size 0
    (Lib.runeCells n).length (Lib.runeCells n).length (Lib.encodeRuneZ n) (by simp [Lib.runeCells]) ?_ 9 Tryz.underlying9
  · rw [this]
    congr 2
  · intro i hi
    have hb : (w.alloc (.cells (Lib.runeCells n).toArray 5)).heap[w.heap.size]? = some (.cells (Lib.runeCells n).toArray 5) := heap_alloc_new w _
    rw [← hW.block w.heap.size (by simp)] at hb
    simp only [World.cell?, hb, Nat.zero_add]
    simp [Lib.runeCells] at hi ⊢
    simp [hi]

theorem cand_bn (s : ByteArray) (k : Nat) :
    cand (from_ s k) 1 = bn s k ∧ cand (from_ s k) 2 = 64 * (bn s k - 192) + bn s (k+1) - 128 ∧
    cand (from_ s k) 3 = 64 * (64 * (bn s k - 224) + bn s (k+1) - 128) + bn s (k+2) - 128 ∧
    cand (from_ s k) 4 = 64 * (64 * (64 * (bn s k - 240) + bn s (k+1) - 128) + bn s (k+2) - 128) + bn s (k+3) - 128 := by
  simp only [cand, from_, bn_drop, Nat.add_zero, and_self]

/-- A candidate is right just if nx says so. -/
theorem cand_yes (l : List UInt8) (k : Nat) (_h1 : 1 ≤ k) (hk : k ≤ l.length) (h : isB (cand l k) = true ∧ l.take k = Lib.encodeRune (cand l k)) : nx l = ((cand l k).toNat, k) :=
  nx_of_enc _ l h.1 k h.2 hk
theorem cand_no (l : List UInt8) (k : Nat) (h1 : 1 ≤ k) (h : ¬ (isB (cand l k) = true ∧ l.take k = Lib.encodeRune (cand l k))) : (nx l).2 ≠ k := by
  intro e
  apply h
  have := nx_enc l (by omega)
  rw [e] at this
  rw [this.2.2.2.1]
  exact ⟨this.1, this.2.2.1⟩
end Go.Proofs.YtefjhehgpkljcaaGreatDoor
