/- What the library's variables hold, out of a row's list. The library's slices.Index, Contains over texts. Names, each once, as they came, in plain words. The program's package query, walked: met.meet: names, each once, behind a pointer. Patterns' variables, conditions' variables, in plain words. -/
import Derived.Test.YtefjhehgpkljcaaGreatDoorJClose2b
import Derived.Test.YtefjhehgpkljcaaGreatDoorJFilMath
import Derived.Lib.SlicesS
import Derived.Lib.Small
import Derived.Maps.AppendAt
import Derived.RangeFuncBox
import Derived.Test.YtefjhehgpkljcaaGreatDoorJQWalk
namespace Go.Proofs.YtefjhehgpkljcaaGreatDoor
open Go Go.ChangeShapes Go.WideShapes Go.ChangeAt Go.RowKit Go.Lib
theorem ctx_of {W : World} (hL : laidMetH Tryz.prog laidList W) (hsh : W.ShapedOpen Tryz.prog) : Ctx W := by
  refine ⟨?_, Go.Proofs.cell_of_shapedOpen_int (zero := #[.int .i64 0]) (t := 3) hsh (of_decide_eq_true (by kernel_rfl)) (by kernel_rfl) rfl (by kernel_rfl) (by kernel_rfl) Tryz.underlying3⟩
  have h1 := Lib.laidMet.reads hL (.tail _ (.head _))
  have h2 := Lib.laidMet.reads hL (.head _)
  rw [first_same] at h1
  rw [accept_same] at h2
  exact utf8Tabs_of_reads Tryz.lays260 ⟨by kernel_rfl, by kernel_rfl, by kernel_rfl, by kernel_rfl, by kernel_rfl, by kernel_rfl, by kernel_rfl⟩ h1 h2
end Go.Proofs.YtefjhehgpkljcaaGreatDoor
namespace Go.Proofs.YtefjhehgpkljcaaGreatDoor
open Go Go.RowKit

theorem beq_str (x y : ByteArray) : (x.toList == y.toList) = decide (y = x) := by
  by_cases h : y = x
  · subst h; simp
  · simp only [h, decide_false]; rw [Lib.bytes_beq_false_iff]; exact fun e => h e.symm
theorem idxTxt (l : List ByteArray) (x : ByteArray) (A : Option Addr) (c : Nat) (w : World) (hl : l.length ≤ 281474976710656) (hr : Rd w A (l.map Value.string)) :
    Calls Tryz.prog 66 #[.slice A l.length c, .string x] w fun e w' => e = .returned (.int .i64 (Lib.idxOfS l x)) ∧ w = w' := by
  go_enter Tryz.func66, Tryz.ntmps66
  go_wp2
  go_loop [8] (fun i => ∃ k : Nat, k ≤ l.length ∧ i = .int .i64 k ∧ Hid (Lib.idxOfS l x = Lib.idxFromS (l.drop k) x k)) (fun i => l.length - (intOf i).toNat)
  case atStart => exact ⟨0, by omega, rfl, rfl⟩
  case round =>
    obtain ⟨k, hk, rfl, H⟩ := hrel
    by_cases hlt : k < l.length
    · obtain ⟨y, hx⟩ : ∃ x, l[k]? = some x := ⟨_, List.getElem?_eq_getElem hlt⟩
      obtain ⟨g, o, rfl, hcx⟩ := hr.at_ (j := k) (u := .string y) (by simp [hx])
      have hd : l.drop k = y :: l.drop (k + 1) := by
        rw [List.drop_eq_getElem_cons hlt]
        rw [List.getElem?_eq_getElem hlt] at hx
        injection hx with hx; rw [hx]
      have H2 : Hid (Lib.idxOfS l x = if (x.toList == y.toList) then (k : Int) else Lib.idxFromS (l.drop (k+1)) x (k+1)) := by
        show Lib.idxOfS l x = _
        rw [H.out, hd, Lib.idxFromS, beq_str]; simp
      clear hx hd H hr
      cases hx0 : (x.toList == y.toList)
      · rw [hx0] at H2
        go_wp2
        go_round
        case rel => exact ⟨k+1, by omega, by go_num, H2⟩
        case measure => simp [intOf]; omega
      · rw [hx0] at H2
        go_wp2
        go_ret
        exact ⟨by rw [H2.out]; rfl, rfl⟩
    · have H2 : Hid (Lib.idxOfS l x = -1) := by
        show Lib.idxOfS l x = _
        rw [H.out, List.drop_eq_nil_of_le (by omega)]; rfl
      clear H
      go_wp2
      go_ret
      exact ⟨by rw [H2.out]; rfl, rfl⟩
end Go.Proofs.YtefjhehgpkljcaaGreatDoor
namespace Go.Proofs.YtefjhehgpkljcaaGreatDoor.Mt
open Go

def hasS (l : List ByteArray) (s : ByteArray) : Bool := decide (0 ≤ Lib.idxOfS l s)
theorem hasS_iff {l : List ByteArray} {s : ByteArray} : hasS l s = true ↔ s ∈ l := by unfold hasS; rw [decide_eq_true_iff, Lib.idxOfS_nonneg_iff]
theorem hasS_no {l : List ByteArray} {s : ByteArray} : hasS l s = false ↔ s ∉ l := by unfold hasS; rw [decide_eq_false_iff_not, Lib.idxOfS_nonneg_iff]
/-- A name behind others, if it is not among them. -/
def metN (l : List ByteArray) (s : ByteArray) : List ByteArray := if hasS l s then l else l ++ [s]
def metsN (l names : List ByteArray) : List ByteArray := names.foldl metN l
theorem metsN_nil (l : List ByteArray) : metsN l [] = l := rfl
theorem metsN_cons (l : List ByteArray) (s : ByteArray) (r : List ByteArray) : metsN l (s :: r) = metsN (metN l s) r := rfl
theorem metsN_app (l a b : List ByteArray) : metsN l (a ++ b) = metsN (metsN l a) b := List.foldl_append
theorem metsN_one (l : List ByteArray) (s : ByteArray) : metsN l [s] = metN l s := rfl
theorem metN_has {l : List ByteArray} {s : ByteArray} (h : hasS l s = true) : metN l s = l := by unfold metN; rw [if_pos h]
theorem metN_new {l : List ByteArray} {s : ByteArray} (h : hasS l s = false) : metN l s = l ++ [s] := by unfold metN; rw [h]; rfl
theorem metN_ext (l : List ByteArray) (s : ByteArray) : ∃ r, metN l s = l ++ r ∧ r.length ≤ 1 := by
  unfold metN; split
  · exact ⟨[], by simp, by simp⟩
  · exact ⟨[s], rfl, by simp⟩
theorem metsN_ext : ∀ (names l : List ByteArray), ∃ r, metsN l names = l ++ r ∧ r.length ≤ names.length
  | [], l => ⟨[], by simp [metsN_nil], by simp⟩
  | s :: t, l => by
    obtain ⟨r1, h1, k1⟩ := metN_ext l s
    obtain ⟨r2, h2, k2⟩ := metsN_ext t (metN l s)
    exact ⟨r1 ++ r2, by rw [metsN_cons, h2, h1, List.append_assoc], by simp; omega⟩
theorem metN_mem {l : List ByteArray} {s x : ByteArray} : x ∈ metN l s ↔ x ∈ l ∨ x = s := by
  unfold metN; split
  · rename_i h
    rw [hasS_iff] at h
    exact ⟨.inl, fun e => e.elim id fun e => e ▸ h⟩
  · simp
theorem metsN_mem {x : ByteArray} : ∀ (names l : List ByteArray), x ∈ metsN l names ↔ x ∈ l ∨ x ∈ names
  | [], l => by simp [metsN_nil]
  | s :: t, l => by rw [metsN_cons, metsN_mem t, metN_mem, List.mem_cons, or_assoc]
theorem metN_nodup {l : List ByteArray} (s : ByteArray) (h : l.Nodup) : (metN l s).Nodup := by
  unfold metN; split
  · exact h
  · rename_i hs
    have : s ∉ l := hasS_no.1 (by simpa using hs)
    rw [List.nodup_append]
    exact ⟨h, by simp, fun a ha b hb e => by simp at hb; subst hb; subst e; exact this ha⟩
theorem metsN_nodup : ∀ (names : List ByteArray) {l : List ByteArray}, l.Nodup → (metsN l names).Nodup
  | [], _, h => h
  | _ :: t, _, h => by rw [metsN_cons]; exact metsN_nodup t (metN_nodup _ h)
theorem metsN_len (names l : List ByteArray) : (metsN l names).length ≤ l.length + names.length := by
  obtain ⟨r, h, k⟩ := metsN_ext names l
  rw [h, List.length_append]; omega
theorem metN_len (l : List ByteArray) (s : ByteArray) : (metN l s).length ≤ l.length + 1 := by
  obtain ⟨r, h, k⟩ := metN_ext l s
  rw [h, List.length_append]; omega
/-- Two lists without doublings that have the same are as long. -/
theorem nodup_len {a b : List ByteArray} (ha : a.Nodup) (hb : b.Nodup) (h : ∀ x, x ∈ a ↔ x ∈ b) : a.length = b.length :=
  ((List.perm_ext_iff_of_nodup ha hb).2 h).length_eq
theorem mets_same {a b : List ByteArray} (h : ∀ x, x ∈ a ↔ x ∈ b) : (metsN [] a).length = (metsN [] b).length :=
  nodup_len (metsN_nodup a List.nodup_nil) (metsN_nodup b List.nodup_nil) fun x => by rw [metsN_mem, metsN_mem, h]
/-- What is met first stands first. -/
theorem mets_pre (a b : List ByteArray) : metsN [] (a ++ b) = metsN [] a ++ (metsN [] (a ++ b)).drop (metsN [] a).length := by
  obtain ⟨r, h, _⟩ := metsN_ext b (metsN [] a)
  rw [metsN_app, h, List.drop_left]
theorem mets_take (a b : List ByteArray) : (metsN [] (a ++ b)).take (metsN [] a).length = metsN [] a := by
  obtain ⟨r, h, _⟩ := metsN_ext b (metsN [] a)
  rw [metsN_app, h, List.take_left]
theorem mets_next {a b : List ByteArray} {s : ByteArray} (h : hasS (metsN [] a) s = false) : (metsN [] (a ++ [s] ++ b))[(metsN [] a).length]? = some s ∧ (metsN [] a).length < (metsN [] (a ++ [s] ++ b)).length := by
  obtain ⟨r, hr, _⟩ := metsN_ext b (metsN [] (a ++ [s]))
  have e : metsN [] (a ++ [s]) = metsN [] a ++ [s] := by rw [metsN_app, metsN_one, metN_new h]
  rw [metsN_app, hr, e]
  refine ⟨?_, by simp⟩
  rw [List.append_assoc, List.getElem?_append_right (Nat.le_refl _)]; simp
theorem nodup_has {l : List ByteArray} (h : l.Nodup) {i : Nat} {s : ByteArray} (hs : l[i]? = some s) : hasS (l.take i) s = false := by
  rw [hasS_no]
  intro hm
  obtain ⟨hlt, hge⟩ := List.getElem?_eq_some_iff.1 hs
  obtain ⟨j, hj, he⟩ := List.getElem_of_mem hm
  rw [List.getElem_take] at he
  have hj' : j < i := by simp at hj; omega
  have := List.pairwise_iff_getElem.1 h j i (by omega) hlt hj'
  exact this (by rw [he, hge])
end Go.Proofs.YtefjhehgpkljcaaGreatDoor.Mt
namespace Go.Proofs.YtefjhehgpkljcaaGreatDoor
open Go Go.RowKit Mt

theorem stringInfo' : (Tryz.prog.info? 9).map (fun i => (i.zero, i.size, i.bytes)) = some (some (.string ⟨#[]⟩), 1, 16) := by kernel_rfl
/-- slices.Contains over texts. -/
theorem hasTxt (l : List ByteArray) (x : ByteArray) (A : Option Addr) (c : Nat) (w : World) (hl : l.length ≤ 281474976710656) (hr : Rd w A (l.map Value.string)) :
    Calls Tryz.prog 186 #[.slice A l.length c, .string x] w fun e w' => e = .returned (.bool (hasS l x)) ∧ w = w' := by
  have hI := idxTxt l x A c w hl hr
  unfold hasS
  generalize Lib.idxOfS l x = i at *
  clear hr hl
  go_enter Tryz.func186, Tryz.ntmps186
  go_wp2_with (refine hI.mono ?_; rintro e w' ⟨rfl, rfl⟩)
  go_ret
  exact ⟨rfl, rfl⟩

/-- Names met, behind a pointer to block b: v, of the call's own. -/
structure MetAt (base b : Nat) (w : World) (v : Value) (l : List ByteArray) : Prop where
  cell : w.cell? ⟨b, 0, none⟩ = some v
  fr : w.frozen? ⟨b, 0, none⟩ = false
  own : w.ownsRow base 9 1 v l.length (l.map Value.string)
  lo : base ≤ b
  ne : v.ownBlock ≠ some b
/-- What meeting keeps. -/
structure MetKeeps (base b : Nat) (w : World) (v : Value) (w' : World) (v' : Value) : Prop where
  below : Below base w w'
  keep : ∀ k, k < w.heap.size → k ≠ b → some k ≠ v.ownBlock → w'.heap[k]? = w.heap[k]?
  size : w.heap.size ≤ w'.heap.size
  blk : v'.ownBlock = v.ownBlock ∨ ∀ k, v'.ownBlock = some k → w.heap.size ≤ k
theorem MetKeeps.refl (base b : Nat) (w : World) (v : Value) : MetKeeps base b w v w v := ⟨Below.refl _ _, fun _ _ _ _ => rfl, Nat.le_refl _, .inl rfl⟩
theorem MetKeeps.trans {base b : Nat} {w w1 w2 : World} {v v1 v2 : Value} (h : MetKeeps base b w v w1 v1) (k : MetKeeps base b w1 v1 w2 v2) : MetKeeps base b w v w2 v2 := by
  refine ⟨h.below.trans k.below, fun j hj hjb hjv => ?_, Nat.le_trans h.size k.size, ?_⟩
  · rw [k.keep j (Nat.lt_of_lt_of_le hj h.size) hjb ?_, h.keep j hj hjb hjv]
    rcases h.blk with e | e
    · rw [e]; exact hjv
    · intro e2
      have := e j e2.symm
      omega
  · rcases k.blk with e | e
    · rw [e]; exact h.blk
    · exact .inr fun j hj => Nat.le_trans h.size (e j hj)
theorem MetKeeps.of_below {base b : Nat} {w w' : World} (v : Value) (h : Below w.heap.size w w') (hb : base ≤ w.heap.size) : MetKeeps base b w v w' v :=
  ⟨h.mono hb, fun k hk _ _ => h.block k hk, h.size, .inl rfl⟩
theorem MetKeeps.cell {base b : Nat} {w w' : World} {v v' : Value} (h : MetKeeps base b w v w' v') {p : Addr} {u : Value} (hc : w.cell? p = some u) (h1 : p.block ≠ b) (h2 : some p.block ≠ v.ownBlock) : w'.cell? p = some u := by
  rw [World.cell?, h.keep _ (cell_lt hc) h1 h2]; exact hc
theorem MetKeeps.rd {base b : Nat} {w w' : World} {v v' : Value} (h : MetKeeps base b w v w' v') {A : Option Addr} {xs : List Value} (hr : Rd w A xs) (hA : ∀ a, A = some a → a.block ≠ b ∧ some a.block ≠ v.ownBlock) : Rd w' A xs := by
  rcases hr with h0 | ⟨g, o, rfl, hx⟩
  · exact .inl h0
  · obtain ⟨h1, h2⟩ := hA _ rfl
    exact .inr ⟨g, o, rfl, fun j u hu => h.cell (hx j u hu) h1 h2⟩
theorem MetAt.later {base b : Nat} {w w' : World} {v : Value} {l : List ByteArray} (h : MetAt base b w v l) (hb : Below w.heap.size w w') : MetAt base b w' v l :=
  ⟨cell_on h.cell hb, by rw [hb.frozen (cell_lt h.cell)]; exact h.fr, own_below h.own hb (Nat.le_refl _), h.lo, h.ne⟩
theorem MetAt.open_ {base b : Nat} {w : World} {v : Value} {l : List ByteArray} (h : MetAt base b w v l) : ∃ A c, v = .slice A l.length c ∧ l.length ≤ c ∧ Rd w A (l.map Value.string) ∧ w.cell? ⟨b, 0, none⟩ = some (.slice A l.length c) := by
  obtain ⟨A, c, rfl, hc, hr⟩ := own_slice h.own
  exact ⟨A, c, rfl, hc, hr, h.cell⟩
/-- What comes of meeting names. -/
def MeetR (base b : Nat) (v : Value) (l : List ByteArray) (w : World) (e : Ending) (w' : World) : Prop := (∃ u, e = .returned u) ∧ ∃ v', MetAt base b w' v' l ∧ MetKeeps base b w v w' v'
def MeetL (base b : Nat) (v : Value) (l names : List ByteArray) (w : World) (i : Value) (wr : World) : Prop := ∃ (k : Nat) (v' : Value), k ≤ names.length ∧ i = .int .i64 k ∧ MetAt base b wr v' (metsN l (names.take k)) ∧ MetKeeps base b w v wr v'
set_option maxRecDepth 10000 in
set_option maxHeartbeats 1000000 in
theorem qMeet (base b : Nat) (v : Value) (l names : List ByteArray) (A : Option Addr) (c : Nat) (w : World) (hm : MetAt base b w v l) (hr : Rd w A (names.map Value.string)) (hA : ∀ a, A = some a → a.block ≠ b ∧ some a.block ≠ v.ownBlock)
    (hbase : base ≤ w.heap.size) (hl : l.length + names.length ≤ 1000000) :
    Calls Tryz.prog 157 #[.pointer (some ⟨b, 0, none⟩), .slice A names.length c] w (MeetR base b v (metsN l names) w) := by
  have hnl : (names.length : Int) ≤ 1000000 := by omega
  go_enter Tryz.func157, Tryz.ntmps157
  go_wp2
  go_loopw [8] (MeetL base b v l names w) (fun i _ => names.length - (intOf i).toNat)
  case atStart => exact ⟨0, v, by omega, rfl, hm, MetKeeps.refl _ _ _ _⟩
  case round =>
    obtain ⟨k, v', hk, rfl, hM, hK⟩ := hrel
    by_cases hlt : k < names.length
    · obtain ⟨s, hs⟩ : ∃ x, names[k]? = some x := ⟨_, List.getElem?_eq_getElem hlt⟩
      obtain ⟨g, o, rfl, c0⟩ := (hK.rd hr hA).at_ (j := k) (u := .string s) (by simp [hs])
      obtain ⟨A1, c1, rfl, hc1, hr1, hv1⟩ := hM.open_
      have hfr := hM.fr
      have hlen : (metsN l (names.take k)).length ≤ 1000000 := by
        have := metsN_len (names.take k) l
        rw [List.length_take] at this; omega
      have hH := hasTxt (metsN l (names.take k)) s A1 c1 wr (by omega) hr1
      have Hs : Hid (metsN l (names.take (k + 1)) = metN (metsN l (names.take k)) s) := by
        show _ = _
        rw [take_snoc_of hs, metsN_app]; rfl
      have hbw : b < wr.heap.size := cell_lt hv1
      have hbs : base ≤ wr.heap.size := Nat.le_trans hbase hK.size
      have hlen2 : (metN (metsN l (names.take k)) s).length ≤ 1000000 + 1 := Nat.le_trans (metN_len _ _) (by omega)
      have Hlen2 := Lib.hid hlen2
      generalize metsN l (names.take k) = m at *
      cases hq : hasS m s
      · rw [hq] at hH
        have hmn := metN_new hq
        have Hmn := Lib.hid hmn
        have HM := Lib.hid hM
        have HK := Lib.hid hK
        have hba : Below wr.heap.size wr (wr.alloc (.cells #[.string s] 9)) := (by repeat (first | exact Below.refl _ _ | assumption | exact (Below.refl _ _).alloc (Nat.le_refl _) _ | refine below_tr ?_ (by assumption) | refine below_alloc ?_ | refine below_tr ?_ (below_regrown _ _ _)))
        have own0 := own_below hM.own hba (Nat.le_refl _)
        have hbne := hM.ne
        have own0' := Lib.hid hM.own.lt
        have hnew : ∀ (j : Nat) (u : Value), [Value.string s][j]? = some u → (wr.alloc (.cells #[.string s] 9)).cell? ((⟨wr.heap.size, 0, none⟩ : Addr).add j) = some u := by
          intro j u hu
          rw [add_zero_spot, Nat.zero_add, World.cell?, heap_alloc_new]
          simpa using hu
        obtain ⟨i, hi, hz, hsize, hby⟩ := info_parts stringInfo'
        clear hs hr hA hr1 hq hmn hlen2 hM hK hm
        go_wp2_with (first
          | (go_at_call 186; refine hH.mono ?_; rintro e w2 ⟨rfl, rfl⟩)
          | (at_builtin; (refine wpList_append_own_at _ rfl _ _ 24 rfl base 9 i _ 1 16 Tryz.underlying24 hi hz hsize hby rfl (by omega) _ m.length (m.map Value.string) rfl own0 ⟨wr.heap.size, 0, none⟩ 1 1 [.string s] rfl rfl hnew (by intro u hu; simp at hu; subst hu; rfl) (by unfold maxLen; omega) (by omega) (by simp; omega) ?_; intro v4 w4 own4 hg4 _ hbk4; obtain ⟨A4, c4, rfl, _, _⟩ := own_slice own4; have d0 := (hg4.cell_far ⟨b, 0, none⟩ (by simp; omega) (fun e => hbne e.symm)).trans ((hba.cell (p := ⟨b, 0, none⟩) hbw).trans hv1); have d1 := (hg4.frozen_far ⟨b, 0, none⟩ (by simp; omega) (fun e => hbne e.symm)).trans ((hba.frozen (p := ⟨b, 0, none⟩) hbw).trans hfr))))
        go_roundw
        case rel =>
          have hM' := HM.out
          have hz4 := hg4.size
          have hblk : (Value.slice A4 (m.length + 1) c4).ownBlock = (Value.slice A1 m.length c1).ownBlock ∨ ∀ k, (Value.slice A4 (m.length + 1) c4).ownBlock = some k → wr.heap.size ≤ k := by
            rcases hbk4 with e | e
            · exact .inl e
            · exact .inr fun k hk => by rw [e] at hk; injection hk with hk; simp at hk; omega
          have hne4 : (Value.slice A4 (m.length + 1) c4).ownBlock ≠ some b := by
            rcases hblk with e | e
            · rw [e]; exact hbne
            · intro e2; have := e b e2; omega
          have hgs := grownBy_setCell' w4 b (.slice A4 (m.length + 1) c4)
          have own5 := own4.kept hgs (.inr hne4)
          refine ⟨k + 1, .slice A4 (m.length + 1) c4, by omega, by go_num, ⟨World.cell?_setCell_same' _ _ _ (by rw [d0]; rfl), by rw [World.frozen?_setCell]; exact d1, ?_, hM'.lo, hne4⟩, HK.out.trans ⟨?_, ?_, ?_, ?_⟩⟩
          · rw [Hs.out, Hmn.out, List.length_append, List.map_append]; exact own5
          · refine Below.setCell ?_ (p := ⟨b, 0, none⟩) hM'.lo _
            exact Below.grown ((Below.refl _ _).alloc hbs _) hg4 (by simp; omega) fun q e => (own0'.out q e).1
          · intro q hq hqb hqv
            rw [hgs.block q (by simp at hz4; omega) (fun e => hqb (by injection e)), hg4.block q (by simp; omega) hqv, Below.heap_alloc _ _ _ hq]
          · simp at hz4
            have := hgs.size
            omega
          · rcases hblk with e | e
            · exact .inl e
            · exact .inr fun q hq => e q hq
        case measure => simp [intOf]; omega
      · rw [hq] at hH
        have hmn := metN_has hq
        rw [hmn] at Hs
        have HM := Lib.hid hM
        have HK := Lib.hid hK
        clear hs hr hA hr1 hq hmn hM hK hm
        go_wp2_with (go_at_call 186; refine hH.mono ?_; rintro e w2 ⟨rfl, rfl⟩)
        go_roundw
        case rel => exact ⟨k + 1, _, by omega, by go_num, by rw [Hs.out]; exact HM.out, HK.out⟩
        case measure => simp [intOf]; omega
    · have hk2 : names.take k = names := List.take_of_length_le (by omega)
      rw [hk2] at hM
      go_wp2
      go_end0
      exact ⟨⟨_, rfl⟩, v', hM, hK⟩
end Go.Proofs.YtefjhehgpkljcaaGreatDoor
namespace Go.Proofs.YtefjhehgpkljcaaGreatDoor
open Go Go.RowKit Um Fm Mt

/-- The names of places that have one. -/
def occS (l : List Sl) : List ByteArray := (l.map (·.v)).filter fun v => !v.toList.isEmpty
def occP (p : Pat) : List ByteArray := occS [p.s, p.p, p.o]
def varsN (l : List Pat) : List ByteArray := metsN [] (l.flatMap occP)
theorem occS_cons (x : Sl) (l : List Sl) : occS (x :: l) = (if x.v.toList.isEmpty then [] else [x.v]) ++ occS l := by
  unfold occS
  rw [List.map_cons, List.filter_cons]
  cases x.v.toList.isEmpty <;> simp
theorem occS_len (l : List Sl) : (occS l).length ≤ l.length := by
  unfold occS
  exact Nat.le_trans (List.length_filter_le _ _) (by simp)
theorem occP_len (p : Pat) : (occP p).length ≤ 3 := occS_len _
theorem occ_len : ∀ l : List Pat, (l.flatMap occP).length ≤ 3 * l.length
  | [] => by simp
  | p :: l => by
    have h1 := occ_len l
    have h2 := occP_len p
    rw [List.flatMap_cons, List.length_append, List.length_cons]; omega
theorem varsN_len (l : List Pat) : (varsN l).length ≤ 3 * l.length := by
  have h1 := metsN_len (l.flatMap occP) []
  have h2 := occ_len l
  unfold varsN
  rw [List.length_nil] at h1; omega
theorem varsN_more (l : List Pat) (p : Pat) : ∃ r, varsN (l ++ [p]) = varsN l ++ r ∧ r.length ≤ 3 := by
  unfold varsN
  rw [List.flatMap_append, metsN_app]
  obtain ⟨r, h, k⟩ := metsN_ext ([p].flatMap occP) (metsN [] (l.flatMap occP))
  have := occP_len p
  exact ⟨r, h, by rw [List.flatMap_cons, List.flatMap_nil, List.append_nil] at k; omega⟩
theorem varsN_turn (l : List Pat) : (varsN l.reverse).length = (varsN l).length := mets_same fun x => by simp
theorem varsN_mem {l : List Pat} {x : ByteArray} : x ∈ varsN l ↔ ∃ p ∈ l, x ∈ occP p := by
  unfold varsN; rw [metsN_mem]; simp
theorem varsN_turn_mem {l : List Pat} {x : ByteArray} : x ∈ varsN l.reverse ↔ x ∈ varsN l := by rw [varsN_mem, varsN_mem]; simp
theorem occS_ne {l : List Sl} {x : ByteArray} (h : x ∈ occS l) : x.toList.isEmpty = false := by
  unfold occS at h
  simpa using (List.mem_filter.1 h).2
theorem varsN_ne {l : List Pat} {x : ByteArray} (h : x ∈ varsN l) : x.toList.isEmpty = false := by
  obtain ⟨p, _, hp⟩ := varsN_mem.1 h
  exact occS_ne hp
theorem varsN_nodup (l : List Pat) : (varsN l).Nodup := metsN_nodup _ List.nodup_nil
/-- The names of parts that are variables. -/
def ptV : Pt → List ByteArray
  | ⟨0, _⟩ => []
  | ⟨_ + 1, (k, s, _, _)⟩ => if k == 1 then [s] else []
def usedN (n : Nat) (l : List (ExT n)) : List ByteArray := metsN [] ((l.flatMap (preE n)).flatMap ptV)
theorem usedN_nodup (n : Nat) (l : List (ExT n)) : (usedN n l).Nodup := metsN_nodup _ List.nodup_nil
theorem ptV_len (p : Pt) : (ptV p).length ≤ 1 := by
  obtain ⟨n, x⟩ := p
  cases n with
  | zero => simp [ptV]
  | succ n => obtain ⟨k, s, t, kids⟩ := x; simp only [ptV]; split <;> simp
/-- How many there are so far. -/
def nAt (pre : List ByteArray) : Nat := (metsN [] pre).length
theorem occ_empty {x : Sl} (r : List Sl) (h : x.v.toList.isEmpty = true) : occS (x :: r) = occS r := by rw [occS_cons, h]; rfl
theorem occ_named {x : Sl} (r : List Sl) (h : x.v.toList.isEmpty = false) : occS (x :: r) = x.v :: occS r := by rw [occS_cons, h]; rfl
theorem nAt_take {all pre post : List ByteArray} (h : all = pre ++ post) : (metsN [] all).take (nAt pre) = metsN [] pre ∧ nAt pre ≤ (metsN [] all).length := by
  subst h
  refine ⟨mets_take _ _, ?_⟩
  obtain ⟨r, hr, _⟩ := metsN_ext post (metsN [] pre)
  unfold nAt
  rw [metsN_app, hr, List.length_append]; omega
theorem nAt_has {pre : List ByteArray} {s : ByteArray} (h : hasS (metsN [] pre) s = true) : nAt (pre ++ [s]) = nAt pre := by
  unfold nAt; rw [metsN_app, metsN_one, metN_has h]
theorem nAt_new {all pre post : List ByteArray} {s : ByteArray} (h : all = pre ++ s :: post) (hs : hasS (metsN [] pre) s = false) : (metsN [] all)[nAt pre]? = some s ∧ nAt pre < (metsN [] all).length ∧ nAt (pre ++ [s]) = nAt pre + 1 := by
  have e : all = pre ++ [s] ++ post := by rw [h]; simp
  subst e
  refine ⟨(mets_next hs).1, (mets_next hs).2, ?_⟩
  unfold nAt; rw [metsN_app, metsN_one, metN_new hs]; simp
theorem ptV_flat : ∀ l : List Pt, (l.flatMap ptV).length ≤ l.length
  | [] => by simp
  | p :: l => by have h1 := ptV_flat l; have h2 := ptV_len p; rw [List.flatMap_cons, List.length_append, List.length_cons]; omega
theorem usedN_len (n : Nat) (l : List (ExT n)) : (usedN n l).length ≤ (l.flatMap (preE n)).length := by
  have h1 := metsN_len ((l.flatMap (preE n)).flatMap ptV) []
  have h2 := ptV_flat (l.flatMap (preE n))
  rw [List.length_nil] at h1
  unfold usedN; omega
end Go.Proofs.YtefjhehgpkljcaaGreatDoor
