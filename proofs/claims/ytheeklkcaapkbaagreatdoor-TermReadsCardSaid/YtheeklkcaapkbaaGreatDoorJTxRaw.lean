/- The program's package term, walked: raw. Printed by gen/txraw.py. -/
import Derived.Test.YtheeklkcaapkbaaGreatDoorJWr2
import Derived.Test.YtheeklkcaapkbaaGreatDoorJUtfRaw
import Derived.Test.YtheeklkcaapkbaaGreatDoorJTxPU
import Derived.Lib.UnsafeStr
namespace Go.Proofs.YtheeklkcaapkbaaGreatDoor
open Go Go.RowKit Um Fm Lx Tx

theorem bTy : WTy 60 2 := ⟨by kernel_rfl, by decide⟩
/-- A builder in block b, with the bytes acc. -/
abbrev BI (B b : Nat) (acc : List UInt8) (w : World) : Prop := WIs 60 [] B b (Lib.byteCells acc) w
theorem bWrite (B b : Nat) (acc : List UInt8) (s : ByteArray) (w : World) (h : BI B b acc w) (ha : acc.length ≤ 1000000000) (hs : s.size ≤ 1000000000) (hBw : B ≤ w.heap.size) :
    Calls Tryz.prog 75 #[.pointer (some ⟨b, 0, none⟩), .string s] w fun e w' => (∃ u, e = .returned u) ∧ BI B b (acc ++ s.data.toList) w' ∧ Below B w w' := by
  refine (wString bTy B b _ s w h (by rw [Lib.byteCells_length]; omega) hBw).mono ?_
  rintro e w' ⟨rfl, h1, h2, _⟩
  rw [Lib.strCells_eq, ← Lib.byteCells_append] at h1
  exact ⟨⟨_, rfl⟩, .inr h1, h2⟩
theorem bByte (B b : Nat) (acc : List UInt8) (x : Nat) (hx : x < 256) (w : World) (h : BI B b acc w) (ha : acc.length ≤ 1000000000) (hBw : B ≤ w.heap.size) :
    Calls Tryz.prog 97 #[.pointer (some ⟨b, 0, none⟩), .int .u8 (x : Int)] w fun e w' => (∃ u, e = .returned u) ∧ BI B b (acc ++ [UInt8.ofNat x]) w' ∧ Below B w w' := by
  refine (wByte bTy B b _ (x : Int) w h (by rw [Lib.byteCells_length]; omega) hBw).mono ?_
  rintro e w' ⟨rfl, h1, h2, _⟩
  have e1 : Lib.byteCells acc ++ [.int .u8 (x : Int)] = Lib.byteCells (acc ++ [UInt8.ofNat x]) := by
    rw [Lib.byteCells_append]
    congr 1
    simp [Lib.byteCells]; omega
  rw [e1] at h1
  exact ⟨⟨_, rfl⟩, .inr h1, h2⟩
theorem z10 : (10 : Int) = ((10 : Nat) : Int) := rfl
theorem z13 : (13 : Int) = ((13 : Nat) : Int) := rfl
theorem z117 : (117 : Int) = ((117 : Nat) : Int) := rfl
theorem bByteI (B b : Nat) (acc : List UInt8) (z : Int) (x : Nat) (hz : z = x) (hx : x < 256) (w : World) (h : BI B b acc w) (ha : acc.length ≤ 1000000000) (hBw : B ≤ w.heap.size) :
    Calls Tryz.prog 97 #[.pointer (some ⟨b, 0, none⟩), .int .u8 z] w fun e w' => (∃ u, e = .returned u) ∧ BI B b (acc ++ [UInt8.ofNat x]) w' ∧ Below B w w' := by
  subst hz; exact bByte B b acc x hx w h ha hBw
set_option maxRecDepth 100000 in
theorem bStr0 (b : Nat) (w : World) (c1 : w.cell? ⟨b, 1, none⟩ = some (.slice none 0 0)) :
    Calls Tryz.prog 53 #[.pointer (some ⟨b, 0, none⟩)] w fun e w' => e = .returned (.string ⟨#[]⟩) ∧ Below w.heap.size w w' := by
  have hUS := fun W q => Lib.run_unsafeString_none (P := Tryz.prog) (w := W) 108 3 9 q
  have hSD : (Builtin.unsafeSliceData_ #[47] 108 #[.slice none 0 0]).run Tryz.prog w.drew = .ok (.pointer none) w.drew := rfl
  have c1' : w.drew.cell? ⟨b, 1, none⟩ = some (.slice none 0 0) := c1
  have mixed : Tryz.prog.follows Departure.mixedOrders = true := by kernel_rfl
  go_enter Tryz.func53, Tryz.ntmps53
  go_wp2
  go_region_o
  all_goals (go_wp2; go_ret; exact ⟨rfl, Below.drew (Below.refl _ _)⟩)
theorem pu8_lt {l : List UInt8} {n : Nat} (h : pu8 l = some n) : n < 256 := by
  unfold pu8 at h
  split at h
  · cases h
  · cases hx : hexN l 0 with
    | none => rw [hx] at h; cases h
    | some m =>
      rw [hx, Option.bind_some] at h
      split at h
      · injection h with h; omega
      · cases h
def strSz : Value → Nat
  | .string t => t.size
  | _ => 0
theorem ba_nil {t : ByteArray} (h : t.size = 0) : t.toList.isEmpty = true := by
  rw [ByteArray.toList_eq]
  have : t.data.toList.length = 0 := by rw [size_toList]; exact h
  rw [List.isEmpty_iff]; exact List.eq_nil_of_length_eq_zero this
theorem ba_pos {t : ByteArray} (h : t.size ≠ 0) : t.toList.isEmpty = false := by
  rw [ByteArray.toList_eq]
  cases he : t.data.toList.isEmpty
  · rfl
  · rw [List.isEmpty_iff] at he
    have := size_toList t
    rw [he] at this
    exact absurd this.symm h
/-- What the loop keeps: the text that is left, what has been written. -/
def RawI (s : ByteArray) (w : World) (v : Value) (wr : World) : Prop :=
  ∃ (t : ByteArray) (acc : List UInt8), v = .string t ∧ t.size ≤ 1000000 ∧ acc.length + t.size ≤ 2000000 ∧ BI w.heap.size w.heap.size acc wr ∧ Below w.heap.size w wr ∧ Hid (rdG puP s.data.toList = acc ++ rdG puP t.data.toList) ∧
    Hid (acc ≠ [] ∨ t.size ≠ 0 ∨ wr.cell? ⟨w.heap.size, 1, none⟩ = some (.slice none 0 0))
set_option maxHeartbeats 8000000 in
set_option maxRecDepth 100000 in
theorem termRaw (s : ByteArray) (w : World) (hE : ErrB w) (hs : s.size ≤ 1000000) :
    Calls Tryz.prog 72 #[.string s] w fun e w' => e = .returned (.string (mkS (rdG puP s.data.toList))) ∧ Below w.heap.size w w' := by
  have hBI : BI w.heap.size w.heap.size [] (w.alloc (.cells #[.pointer none, .slice none 0 0] 60)) := .inl (WAt.new w 60 [])
  have hB0 : Below w.heap.size w (w.alloc (.cells #[.pointer none, .slice none 0 0] 60)) := (Below.refl _ _).alloc (Nat.le_refl _) _
  have hc0 : (w.alloc (.cells #[.pointer none, .slice none 0 0] 60)).cell? ⟨w.heap.size, 1, none⟩ = some (.slice none 0 0) := by rw [World.cell?, heap_alloc_new]; rfl
  have HBI := Lib.hid hBI
  have HB0 := Lib.hid hB0
  have Hc0 := Lib.hid hc0
  have HE := Lib.hid hE
  clear hBI hB0 hc0 hE
  go_enter Tryz.func72, Tryz.ntmps72
  go_wp2
  go_loopw [0] (fun v wr => RawI s w v wr) (fun v _ => strSz v)
  case atStart => exact ⟨s, [], rfl, hs, by simp; omega, HBI.out, HB0.out, rfl, .inr (.inr Hc0.out)⟩
  case round =>
    obtain ⟨t, acc, rfl, ht, hal, hW, hB, Hr, Hn⟩ := hrel
    by_cases h0 : t.size = 0
    · have hemp := ba_nil h0
      have hnil : t.data.toList = [] := by
        rw [← ByteArray.toList_eq]; rwa [List.isEmpty_iff] at hemp
      have HR : Hid (rdG puP s.data.toList = acc) := by show _ = _; rw [Hr.out, hnil, rdG_nil, List.append_nil]
      clear Hr hnil
      by_cases ha : acc = []
      · have hc1 : wr.cell? ⟨w.heap.size, 1, none⟩ = some (.slice none 0 0) := by
          rcases Hn.out with h | h | h
          · exact absurd ha h
          · exact absurd h0 h
          · exact h
        have hst := bStr0 w.heap.size wr hc1
        have HB := Lib.hid hB
        clear hc1 Hn hW hB
        go_wp2_with (go_at_call 53; refine hst.mono ?_; rintro e w2 ⟨rfl, k1⟩)
        go_ret
        exact ⟨by rw [HR.out, ha]; rfl, below_tr HB.out k1⟩
      · have hst := wStr w.heap.size w.heap.size acc wr hW ha
        have HB := Lib.hid hB
        clear Hn hW hB ha
        go_wp2_with (go_at_call 53; refine hst.mono ?_; rintro e w2 ⟨rfl, _, k1⟩)
        go_ret
        exact ⟨by rw [HR.out]; rfl, HB.out.trans k1⟩
    · have hemp := ba_pos h0
      have hix := fun W => Tryz.strings_IndexByte t 92 W
      rw [show (92 : Int).toNat.toUInt8 = (92 : UInt8) from rfl, slash_index] at hix
      have hlen := size_toList t
      have hsl := slash_le t.data.toList
      have HB := Lib.hid hB
      have hw0 := hB.size
      clear hB Hn
      by_cases h1 : slashN t.data.toList + 1 < t.data.toList.length
      · rw [if_pos (by omega)] at hix
        obtain ⟨c, r, e1, e2, e3, e4, e5⟩ := rdG_step puP t.data.toList h1
        rw [hlen] at h1
        have hbc : bn t (slashN t.data.toList + 1) = c.toNat := by unfold bn; rw [e3]
        have hrl : (t.extract (slashN t.data.toList + 2) t.size).data.toList = r := by
          rw [extract_toList, e2, List.take_of_length_le]
          rw [← e2, List.length_drop]; omega
        have htk : (t.extract 0 (slashN t.data.toList)).data.toList = t.data.toList.take (slashN t.data.toList) := by rw [extract_toList, List.drop_zero, Nat.sub_zero]
        have hws := bWrite w.heap.size w.heap.size acc (t.extract 0 (slashN t.data.toList)) wr hW (by omega) (by rw [ByteArray.size_extract]; omega) hw0
        rw [htk] at hws
        have htl : (t.data.toList.take (slashN t.data.toList)).length = slashN t.data.toList := by rw [List.length_take]; omega
        generalize t.data.toList.take (slashN t.data.toList) = a at *
        generalize slashN t.data.toList = k at *
        obtain ⟨u, hu⟩ : ∃ u, t.extract (k + 2) t.size = u := ⟨_, rfl⟩
        have huz : u.size = t.size - (k + 2) := by rw [← hu, ByteArray.size_extract]; omega
        rw [hu] at hrl
        have hrz : r.length = u.size := by rw [← hrl, size_toList]
        have hq : (u.extract 0 (min 4 (u.size : Int)).toNat).data.toList = r.take 4 := by
          rw [extract_toList, List.drop_zero, Nat.sub_zero, hrl]
          rcases Nat.le_total 4 u.size with h | h
          · congr 1; omega
          · rw [List.take_of_length_le (by omega), List.take_of_length_le (by omega)]
        have hqz : (u.extract 0 (min 4 (u.size : Int)).toNat).size ≤ 8 := by rw [ByteArray.size_extract]; omega
        have hpu := fun W hb => parse8 _ hqz W (HE.out.step (w' := W) hb)
        rw [hq] at hpu
        have hc256 : c.toNat < 256 := c.toNat_lt
        have E4 := Lib.hid e4
        have E5 := Lib.hid e5
        have HX : ∀ x : Nat, c.toNat = x → c = UInt8.ofNat x := fun x h => by rw [← h]; simp
        have halA := Lib.hid (show (acc ++ a).length ≤ 1000000000 by rw [List.length_append, htl]; omega)
        have hrd4 : (u.extract 4 u.size).data.toList = r.drop 4 := by rw [extract_toList, hrl, List.take_of_length_le (by rw [List.length_drop]; omega)]
        have Hrd4 := Lib.hid hrd4
        have Hrl := Lib.hid hrl
        have hx4 : 3 < u.size → (u.extract 4 u.size).size = u.size - 4 := fun h => by rw [ByteArray.size_extract]; omega
        have key5 : (c.toNat ≠ 117 ∨ puP r = none) → Hid (rdG puP s.data.toList = (acc ++ a ++ [UInt8.ofNat (if c.toNat = 110 then 10 else if c.toNat = 114 then 13 else c.toNat)]) ++ rdG puP u.data.toList) := fun h => by
          show _ = _
          rw [Hr.out, E5.out (h.imp (fun h e => h (by rw [e]; rfl)) id), Hrl.out, List.append_assoc, List.append_assoc]
          congr 2
          simp only [List.singleton_append, List.cons.injEq, and_true]
          by_cases h1 : c = 110
          · subst h1; rfl
          by_cases h2 : c = 114
          · subst h2; rfl
          rw [if_neg h1, if_neg h2, if_neg (fun e => h1 (HX _ e)), if_neg (fun e => h2 (HX _ e))]
          simp
        have key4 : ∀ n, c.toNat = 117 → puP r = some n → Hid (rdG puP s.data.toList = (acc ++ a ++ [UInt8.ofNat n]) ++ rdG puP (u.extract 4 u.size).data.toList) := fun n h hp => by
          show _ = _
          rw [Hr.out, E4.out n (HX _ h) hp, Hrd4.out, List.append_assoc, List.append_assoc]; rfl
        have hpuP : puP r = if 3 < u.size then pu8 (r.take 4) else none := by unfold puP; rw [hrz]
        clear E4 E5 HX Hrd4 Hrl hrd4 hrl Hr
        generalize c.toNat = x at *
        have hq1 : ((k : Int) + 1 == (t.size : Int)) = false := by simp; omega
        cases hp : pu8 (r.take 4) with
        | some n =>
          rw [hp] at hpu hpuP
          have hn : n < 256 := pu8_lt hp
          by_cases h117 : x = 117
          · subst h117
            by_cases h3 : 3 < u.size
            · have HR := key4 n rfl (by rw [hpuP, if_pos h3])
              have hx4' := hx4 h3
              clear key4 key5 hpuP hp hx4
              have HZ := Lib.hid (And.intro huz htl)
              have HZ4 := Lib.hid hx4'
              clear huz htl hlen hsl hrz hqz hx4'
              go_wp2_with (first | (go_at_call 103; with_reducible refine (hix _).mono ?_; rintro e w1 ⟨rfl, rfl⟩) | (go_at_call 75; with_reducible refine hws.mono ?_; rintro e w2 ⟨⟨u2, rfl⟩, k1, k2⟩))
              go_quiet (fail)
              have k1q := WIs.step k1 (below_drewN' (Below.refl _ _) nq)
              have k2q := below_drewN' k2 nq
              have k2z := Nat.le_trans hw0 k2q.size
              generalize w2.drewN nq = w2q at *
              go_wp2_with (first | (go_at_call 104; refine (hpu _ (HB.out.trans k2q)).mono ?_; rintro e w3 ⟨he, k3⟩; replace he : e = _ := he; subst he; have k4 := k1q.step k3; have k5 := (HB.out.trans k2q).trans (k3.mono k2z); have k6 := k5.size) | (go_at_call 97; with_reducible refine (bByteI w.heap.size w.heap.size (acc ++ a) _ n rfl hn _ k4 halA.out k6).mono ?_; rintro e w4 ⟨⟨u4, rfl⟩, k7, k8⟩))
              go_roundw
              case rel => obtain ⟨huz, htl⟩ := HZ.out; have hx4' := HZ4.out; exact ⟨u.extract 4 u.size, acc ++ a ++ [UInt8.ofNat n], rfl, by omega, by rw [List.length_append, List.length_append, htl]; simp only [List.length_cons, List.length_nil]; omega, k7, k5.trans k8, HR, .inl (by simp)⟩
              case measure => obtain ⟨huz, htl⟩ := HZ.out; have hx4' := HZ4.out; show ByteArray.size (u.extract 4 u.size) < ByteArray.size t; omega
            · have HR := key5 (.inr (by rw [hpuP, if_neg h3]))
              simp only [show ¬ (117 : Nat) = 110 by omega, show ¬ (117 : Nat) = 114 by omega, if_false] at HR
              clear key4 key5 hpuP hp hx4
              have HZ := Lib.hid (And.intro huz htl)
              clear huz htl hlen hsl hrz hqz
              go_wp2_with (first | (go_at_call 103; with_reducible refine (hix _).mono ?_; rintro e w1 ⟨rfl, rfl⟩) | (go_at_call 75; with_reducible refine hws.mono ?_; rintro e w2 ⟨⟨u2, rfl⟩, k1, k2⟩))
              go_quiet (fail)
              have k1q := WIs.step k1 (below_drewN' (Below.refl _ _) nq)
              have k2q := below_drewN' k2 nq
              have k2z := Nat.le_trans hw0 k2q.size
              generalize w2.drewN nq = w2q at *
              go_wp2_with (first | (go_at_call 104; refine (hpu _ (HB.out.trans k2q)).mono ?_; rintro e w3 ⟨he, k3⟩; replace he : e = _ := he; subst he; have k4 := k1q.step k3; have k5 := (HB.out.trans k2q).trans (k3.mono k2z); have k6 := k5.size) | (go_at_call 97; with_reducible refine (bByteI w.heap.size w.heap.size (acc ++ a) _ 117 z117 (by omega) _ k4 halA.out k6).mono ?_; rintro e w4 ⟨⟨u4, rfl⟩, k7, k8⟩))
              go_roundw
              case rel => obtain ⟨huz, htl⟩ := HZ.out; exact ⟨u, acc ++ a ++ [UInt8.ofNat 117], rfl, by omega, by rw [List.length_append, List.length_append, htl]; simp only [List.length_cons, List.length_nil]; omega, k7, k5.trans k8, HR, .inl (by simp)⟩
              case measure => obtain ⟨huz, htl⟩ := HZ.out; show ByteArray.size (u) < ByteArray.size t; omega
          · have HR := key5 (.inl h117)
            clear key4 key5 hpuP hp hx4
            by_cases h110 : x = 110
            · subst h110
              simp only [if_true] at HR
              have HZ := Lib.hid (And.intro huz htl)
              clear huz htl hlen hsl hrz hqz
              go_wp2_with (first | (go_at_call 103; with_reducible refine (hix _).mono ?_; rintro e w1 ⟨rfl, rfl⟩) | (go_at_call 75; with_reducible refine hws.mono ?_; rintro e w2 ⟨⟨u2, rfl⟩, k1, k2⟩))
              go_quiet (fail)
              have k1q := WIs.step k1 (below_drewN' (Below.refl _ _) nq)
              have k2q := below_drewN' k2 nq
              have k2z := Nat.le_trans hw0 k2q.size
              generalize w2.drewN nq = w2q at *
              go_wp2_with (first | (go_at_call 104; refine (hpu _ (HB.out.trans k2q)).mono ?_; rintro e w3 ⟨he, k3⟩; replace he : e = _ := he; subst he; have k4 := k1q.step k3; have k5 := (HB.out.trans k2q).trans (k3.mono k2z); have k6 := k5.size) | (go_at_call 97; with_reducible refine (bByteI w.heap.size w.heap.size (acc ++ a) _ 10 z10 (by omega) _ k4 halA.out k6).mono ?_; rintro e w4 ⟨⟨u4, rfl⟩, k7, k8⟩))
              go_roundw
              case rel => obtain ⟨huz, htl⟩ := HZ.out; exact ⟨u, acc ++ a ++ [UInt8.ofNat 10], rfl, by omega, by rw [List.length_append, List.length_append, htl]; simp only [List.length_cons, List.length_nil]; omega, k7, k5.trans k8, HR, .inl (by simp)⟩
              case measure => obtain ⟨huz, htl⟩ := HZ.out; show ByteArray.size (u) < ByteArray.size t; omega
            by_cases h114 : x = 114
            · subst h114
              simp only [show ¬ (114 : Nat) = 110 by omega, if_true, if_false] at HR
              have HZ := Lib.hid (And.intro huz htl)
              clear huz htl hlen hsl hrz hqz
              go_wp2_with (first | (go_at_call 103; with_reducible refine (hix _).mono ?_; rintro e w1 ⟨rfl, rfl⟩) | (go_at_call 75; with_reducible refine hws.mono ?_; rintro e w2 ⟨⟨u2, rfl⟩, k1, k2⟩))
              go_quiet (fail)
              have k1q := WIs.step k1 (below_drewN' (Below.refl _ _) nq)
              have k2q := below_drewN' k2 nq
              have k2z := Nat.le_trans hw0 k2q.size
              generalize w2.drewN nq = w2q at *
              go_wp2_with (first | (go_at_call 104; refine (hpu _ (HB.out.trans k2q)).mono ?_; rintro e w3 ⟨he, k3⟩; replace he : e = _ := he; subst he; have k4 := k1q.step k3; have k5 := (HB.out.trans k2q).trans (k3.mono k2z); have k6 := k5.size) | (go_at_call 97; with_reducible refine (bByteI w.heap.size w.heap.size (acc ++ a) _ 13 z13 (by omega) _ k4 halA.out k6).mono ?_; rintro e w4 ⟨⟨u4, rfl⟩, k7, k8⟩))
              go_roundw
              case rel => obtain ⟨huz, htl⟩ := HZ.out; exact ⟨u, acc ++ a ++ [UInt8.ofNat 13], rfl, by omega, by rw [List.length_append, List.length_append, htl]; simp only [List.length_cons, List.length_nil]; omega, k7, k5.trans k8, HR, .inl (by simp)⟩
              case measure => obtain ⟨huz, htl⟩ := HZ.out; show ByteArray.size (u) < ByteArray.size t; omega
            simp only [h110, h114, if_false] at HR
            have HZ := Lib.hid (And.intro huz htl)
            clear huz htl hlen hsl hrz hqz
            go_wp2_with (first | (go_at_call 103; with_reducible refine (hix _).mono ?_; rintro e w1 ⟨rfl, rfl⟩) | (go_at_call 75; with_reducible refine hws.mono ?_; rintro e w2 ⟨⟨u2, rfl⟩, k1, k2⟩))
            go_quiet (fail)
            have k1q := WIs.step k1 (below_drewN' (Below.refl _ _) nq)
            have k2q := below_drewN' k2 nq
            have k2z := Nat.le_trans hw0 k2q.size
            generalize w2.drewN nq = w2q at *
            go_wp2_with (first | (go_at_call 104; refine (hpu _ (HB.out.trans k2q)).mono ?_; rintro e w3 ⟨he, k3⟩; replace he : e = _ := he; subst he; have k4 := k1q.step k3; have k5 := (HB.out.trans k2q).trans (k3.mono k2z); have k6 := k5.size) | (go_at_call 97; with_reducible refine (bByteI w.heap.size w.heap.size (acc ++ a) _ x rfl hc256 _ k4 halA.out k6).mono ?_; rintro e w4 ⟨⟨u4, rfl⟩, k7, k8⟩))
            go_roundw
            case rel => obtain ⟨huz, htl⟩ := HZ.out; exact ⟨u, acc ++ a ++ [UInt8.ofNat x], rfl, by omega, by rw [List.length_append, List.length_append, htl]; simp only [List.length_cons, List.length_nil]; omega, k7, k5.trans k8, HR, .inl (by simp)⟩
            case measure => obtain ⟨huz, htl⟩ := HZ.out; show ByteArray.size (u) < ByteArray.size t; omega
        | none =>
          rw [hp] at hpu hpuP
          have HR := key5 (.inr (by rw [hpuP]; split <;> rfl))
          clear key4 key5 hpuP hp hx4
          by_cases h117 : x = 117
          · subst h117
            simp only [show ¬ (117 : Nat) = 110 by omega, show ¬ (117 : Nat) = 114 by omega, if_false] at HR
            by_cases h3 : 3 < u.size
            · skip
              have HZ := Lib.hid (And.intro huz htl)
              clear huz htl hlen hsl hrz hqz
              go_wp2_with (first | (go_at_call 103; with_reducible refine (hix _).mono ?_; rintro e w1 ⟨rfl, rfl⟩) | (go_at_call 75; with_reducible refine hws.mono ?_; rintro e w2 ⟨⟨u2, rfl⟩, k1, k2⟩))
              go_quiet (fail)
              have k1q := WIs.step k1 (below_drewN' (Below.refl _ _) nq)
              have k2q := below_drewN' k2 nq
              have k2z := Nat.le_trans hw0 k2q.size
              generalize w2.drewN nq = w2q at *
              go_wp2_with (first | (go_at_call 104; refine (hpu _ (HB.out.trans k2q)).mono ?_; rintro e w3 ⟨⟨z1, z2, z3, rfl⟩, k3⟩; have k4 := k1q.step k3; have k5 := (HB.out.trans k2q).trans (k3.mono k2z); have k6 := k5.size) | (go_at_call 97; with_reducible refine (bByteI w.heap.size w.heap.size (acc ++ a) _ 117 z117 (by omega) _ k4 halA.out k6).mono ?_; rintro e w4 ⟨⟨u4, rfl⟩, k7, k8⟩))
              go_roundw
              case rel => obtain ⟨huz, htl⟩ := HZ.out; exact ⟨u, acc ++ a ++ [UInt8.ofNat 117], rfl, by omega, by rw [List.length_append, List.length_append, htl]; simp only [List.length_cons, List.length_nil]; omega, k7, k5.trans k8, HR, .inl (by simp)⟩
              case measure => obtain ⟨huz, htl⟩ := HZ.out; show ByteArray.size (u) < ByteArray.size t; omega
            · skip
              have HZ := Lib.hid (And.intro huz htl)
              clear huz htl hlen hsl hrz hqz
              go_wp2_with (first | (go_at_call 103; with_reducible refine (hix _).mono ?_; rintro e w1 ⟨rfl, rfl⟩) | (go_at_call 75; with_reducible refine hws.mono ?_; rintro e w2 ⟨⟨u2, rfl⟩, k1, k2⟩))
              go_quiet (fail)
              have k1q := WIs.step k1 (below_drewN' (Below.refl _ _) nq)
              have k2q := below_drewN' k2 nq
              have k2z := Nat.le_trans hw0 k2q.size
              generalize w2.drewN nq = w2q at *
              go_wp2_with (first | (go_at_call 104; refine (hpu _ (HB.out.trans k2q)).mono ?_; rintro e w3 ⟨⟨z1, z2, z3, rfl⟩, k3⟩; have k4 := k1q.step k3; have k5 := (HB.out.trans k2q).trans (k3.mono k2z); have k6 := k5.size) | (go_at_call 97; with_reducible refine (bByteI w.heap.size w.heap.size (acc ++ a) _ 117 z117 (by omega) _ k4 halA.out k6).mono ?_; rintro e w4 ⟨⟨u4, rfl⟩, k7, k8⟩))
              go_roundw
              case rel => obtain ⟨huz, htl⟩ := HZ.out; exact ⟨u, acc ++ a ++ [UInt8.ofNat 117], rfl, by omega, by rw [List.length_append, List.length_append, htl]; simp only [List.length_cons, List.length_nil]; omega, k7, k5.trans k8, HR, .inl (by simp)⟩
              case measure => obtain ⟨huz, htl⟩ := HZ.out; show ByteArray.size (u) < ByteArray.size t; omega
          by_cases h110 : x = 110
          · subst h110
            simp only [if_true] at HR
            have HZ := Lib.hid (And.intro huz htl)
            clear huz htl hlen hsl hrz hqz
            go_wp2_with (first | (go_at_call 103; with_reducible refine (hix _).mono ?_; rintro e w1 ⟨rfl, rfl⟩) | (go_at_call 75; with_reducible refine hws.mono ?_; rintro e w2 ⟨⟨u2, rfl⟩, k1, k2⟩))
            go_quiet (fail)
            have k1q := WIs.step k1 (below_drewN' (Below.refl _ _) nq)
            have k2q := below_drewN' k2 nq
            have k2z := Nat.le_trans hw0 k2q.size
            generalize w2.drewN nq = w2q at *
            go_wp2_with (first | (go_at_call 104; refine (hpu _ (HB.out.trans k2q)).mono ?_; rintro e w3 ⟨⟨z1, z2, z3, rfl⟩, k3⟩; have k4 := k1q.step k3; have k5 := (HB.out.trans k2q).trans (k3.mono k2z); have k6 := k5.size) | (go_at_call 97; with_reducible refine (bByteI w.heap.size w.heap.size (acc ++ a) _ 10 z10 (by omega) _ k4 halA.out k6).mono ?_; rintro e w4 ⟨⟨u4, rfl⟩, k7, k8⟩))
            go_roundw
            case rel => obtain ⟨huz, htl⟩ := HZ.out; exact ⟨u, acc ++ a ++ [UInt8.ofNat 10], rfl, by omega, by rw [List.length_append, List.length_append, htl]; simp only [List.length_cons, List.length_nil]; omega, k7, k5.trans k8, HR, .inl (by simp)⟩
            case measure => obtain ⟨huz, htl⟩ := HZ.out; show ByteArray.size (u) < ByteArray.size t; omega
          by_cases h114 : x = 114
          · subst h114
            simp only [show ¬ (114 : Nat) = 110 by omega, if_true, if_false] at HR
            have HZ := Lib.hid (And.intro huz htl)
            clear huz htl hlen hsl hrz hqz
            go_wp2_with (first | (go_at_call 103; with_reducible refine (hix _).mono ?_; rintro e w1 ⟨rfl, rfl⟩) | (go_at_call 75; with_reducible refine hws.mono ?_; rintro e w2 ⟨⟨u2, rfl⟩, k1, k2⟩))
            go_quiet (fail)
            have k1q := WIs.step k1 (below_drewN' (Below.refl _ _) nq)
            have k2q := below_drewN' k2 nq
            have k2z := Nat.le_trans hw0 k2q.size
            generalize w2.drewN nq = w2q at *
            go_wp2_with (first | (go_at_call 104; refine (hpu _ (HB.out.trans k2q)).mono ?_; rintro e w3 ⟨⟨z1, z2, z3, rfl⟩, k3⟩; have k4 := k1q.step k3; have k5 := (HB.out.trans k2q).trans (k3.mono k2z); have k6 := k5.size) | (go_at_call 97; with_reducible refine (bByteI w.heap.size w.heap.size (acc ++ a) _ 13 z13 (by omega) _ k4 halA.out k6).mono ?_; rintro e w4 ⟨⟨u4, rfl⟩, k7, k8⟩))
            go_roundw
            case rel => obtain ⟨huz, htl⟩ := HZ.out; exact ⟨u, acc ++ a ++ [UInt8.ofNat 13], rfl, by omega, by rw [List.length_append, List.length_append, htl]; simp only [List.length_cons, List.length_nil]; omega, k7, k5.trans k8, HR, .inl (by simp)⟩
            case measure => obtain ⟨huz, htl⟩ := HZ.out; show ByteArray.size (u) < ByteArray.size t; omega
          simp only [h110, h114, if_false] at HR
          have HZ := Lib.hid (And.intro huz htl)
          clear huz htl hlen hsl hrz hqz
          go_wp2_with (first | (go_at_call 103; with_reducible refine (hix _).mono ?_; rintro e w1 ⟨rfl, rfl⟩) | (go_at_call 75; with_reducible refine hws.mono ?_; rintro e w2 ⟨⟨u2, rfl⟩, k1, k2⟩))
          go_quiet (fail)
          have k1q := WIs.step k1 (below_drewN' (Below.refl _ _) nq)
          have k2q := below_drewN' k2 nq
          have k2z := Nat.le_trans hw0 k2q.size
          generalize w2.drewN nq = w2q at *
          go_wp2_with (first | (go_at_call 104; refine (hpu _ (HB.out.trans k2q)).mono ?_; rintro e w3 ⟨⟨z1, z2, z3, rfl⟩, k3⟩; have k4 := k1q.step k3; have k5 := (HB.out.trans k2q).trans (k3.mono k2z); have k6 := k5.size) | (go_at_call 97; with_reducible refine (bByteI w.heap.size w.heap.size (acc ++ a) _ x rfl hc256 _ k4 halA.out k6).mono ?_; rintro e w4 ⟨⟨u4, rfl⟩, k7, k8⟩))
          go_roundw
          case rel => obtain ⟨huz, htl⟩ := HZ.out; exact ⟨u, acc ++ a ++ [UInt8.ofNat x], rfl, by omega, by rw [List.length_append, List.length_append, htl]; simp only [List.length_cons, List.length_nil]; omega, k7, k5.trans k8, HR, .inl (by simp)⟩
          case measure => obtain ⟨huz, htl⟩ := HZ.out; show ByteArray.size (u) < ByteArray.size t; omega
      · have hfl : rdG puP t.data.toList = t.data.toList := rdG_flat puP _ (by omega)
        have HR : Hid (rdG puP s.data.toList = acc ++ t.data.toList) := by show _ = _; rw [Hr.out, hfl]
        have hne : acc ++ t.data.toList ≠ [] := by
          intro h
          have h2 : acc.length + t.size = 0 := by rw [← hlen, ← List.length_append, h]; rfl
          omega
        have hws := bWrite w.heap.size w.heap.size acc t wr hW (by omega) (by omega) hw0
        have hst := fun W h => wStr (T := 60) (ext := []) w.heap.size w.heap.size (acc ++ t.data.toList) W h hne
        clear Hr hfl hW hne
        by_cases h2 : slashN t.data.toList < t.data.toList.length
        · rw [if_pos h2] at hix
          have h3 : slashN t.data.toList + 1 = t.size := by omega
          generalize slashN t.data.toList = k at *
          have hq1 : t.size = k + 1 := by omega
          clear h1 h2 hsl h3 hlen
          go_wp2_with (first
            | (go_at_call 103; with_reducible refine (hix _).mono ?_; rintro e w1 ⟨rfl, rfl⟩)
            | (go_at_call 75; with_reducible refine hws.mono ?_; rintro e w2 ⟨⟨u, rfl⟩, k1, k2⟩)
            | (go_at_call 53; with_reducible refine (hst _ k1).mono ?_; rintro e w3 ⟨rfl, _, k3⟩))
          go_ret
          exact ⟨by rw [HR.out]; rfl, (HB.out.trans k2).trans k3⟩
        · rw [if_neg h2] at hix
          clear h1 h2 hsl
          go_wp2_with (first
            | (go_at_call 103; with_reducible refine (hix _).mono ?_; rintro e w1 ⟨rfl, rfl⟩)
            | (go_at_call 75; with_reducible refine hws.mono ?_; rintro e w2 ⟨⟨u, rfl⟩, k1, k2⟩)
            | (go_at_call 53; with_reducible refine (hst _ k1).mono ?_; rintro e w3 ⟨rfl, _, k3⟩))
          go_ret
          exact ⟨by rw [HR.out]; rfl, (HB.out.trans k2).trans k3⟩
end Go.Proofs.YtheeklkcaapkbaaGreatDoor
