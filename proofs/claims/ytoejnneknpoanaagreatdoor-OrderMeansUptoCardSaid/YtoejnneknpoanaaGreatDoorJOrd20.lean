/- The program's package order, walked: Answer. -/
import Derived.Test.YtoejnneknpoanaaGreatDoorJOrd19
namespace Go.Proofs.YtoejnneknpoanaaGreatDoor
open Go Go.RowKit Fm Tx Om Mp
def AnsR (N:Int) (rows:List (List Tm)) (w:World) (e:Ending) (w':World):Prop:=∃v,e=.returned (.tuple #[v,.int .i64 N])/\Below w.heap.size w w'/\(N=0->OwnIn w.heap.size w' v rows)/\(N≠0->v=.slice none 0 0)
structure Steps (W0:World) (b:Nat) (qc:List Value) (st:Nat->List ByteArray × List (List Tm)) (er:Nat->Int):Prop where
 s0:∀W,Below W0.heap.size W0 W->WkAt W0.heap.size W b (st 0).1 (st 0).2 qc->Calls Tryz.prog 50 #[.pointer (some ⟨b,0,none⟩)] W (StepR W0 b (st 1).1 (st 1).2 qc (er 0))
 s1:∀W,Below W0.heap.size W0 W->WkAt W0.heap.size W b (st 1).1 (st 1).2 qc->Calls Tryz.prog 58 #[.pointer (some ⟨b,0,none⟩)] W (StepR W0 b (st 2).1 (st 2).2 qc (er 1))
 s2:∀W,Below W0.heap.size W0 W->WkAt W0.heap.size W b (st 2).1 (st 2).2 qc->Calls Tryz.prog 60 #[.pointer (some ⟨b,0,none⟩)] W (StepR W0 b (st 3).1 (st 3).2 qc (er 2))
 s3:∀W,Below W0.heap.size W0 W->WkAt W0.heap.size W b (st 3).1 (st 3).2 qc->Calls Tryz.prog 75 #[.pointer (some ⟨b,0,none⟩)] W (StepR W0 b (st 4).1 (st 4).2 qc (er 3))
 s4:∀W,Below W0.heap.size W0 W->WkAt W0.heap.size W b (st 4).1 (st 4).2 qc->Calls Tryz.prog 63 #[.pointer (some ⟨b,0,none⟩)] W (StepI W0 b (st 5).1 (st 5).2 qc (er 4))
def firstE (er:Nat->Int):Nat->Nat->Int
 | _,0=>0
 | i,k+1=>if er i=0 then firstE er (i+1) k else er i
theorem firstE_0 {er:Nat->Int} {i k:Nat} (h:er i=0):firstE er i (k+1)=firstE er (i+1) k:=by rw[firstE,if_pos h]
theorem firstE_1 {er:Nat->Int} {i k:Nat} (h:er i≠0):firstE er i (k+1)=er i:=by rw[firstE,if_neg h]
def AnsI (W0:World) (b:Nat) (qc:List Value) (st:Nat->List ByteArray × List (List Tm)) (k:Nat) (W:World):Prop:=Below W0.heap.size W0 W/\if k=5 then WkIn W0.heap.size W b (st 5).1 (st 5).2 qc else WkAt W0.heap.size W b (st k).1 (st k).2 qc
theorem ansI_at {W0 W:World} {b k:Nat} {qc:List Value} {st:Nat->List ByteArray × List (List Tm)} (hk:k≠5):AnsI W0 b qc st k W↔Below W0.heap.size W0 W/\WkAt W0.heap.size W b (st k).1 (st k).2 qc:=by unfold AnsI;rw[if_neg hk]
theorem ansIdx0 (b:Nat) (W:World):(Instr.index 111 (.agg #[.func (.func 50) #[.pointer (some ⟨b,0,none⟩)] #[],.func (.func 58) #[.pointer (some ⟨b,0,none⟩)] #[],.func (.func 60) #[.pointer (some ⟨b,0,none⟩)] #[],.func (.func 75) #[.pointer (some ⟨b,0,none⟩)] #[],.func (.func 63) #[.pointer (some ⟨b,0,none⟩)] #[]]) (.int .i64 0)).run Tryz.prog W=.ok (.func (.func 50) #[.pointer (some ⟨b,0,none⟩)] #[]) W:=by kernel_rfl
theorem ansIdx1 (b:Nat) (W:World):(Instr.index 111 (.agg #[.func (.func 50) #[.pointer (some ⟨b,0,none⟩)] #[],.func (.func 58) #[.pointer (some ⟨b,0,none⟩)] #[],.func (.func 60) #[.pointer (some ⟨b,0,none⟩)] #[],.func (.func 75) #[.pointer (some ⟨b,0,none⟩)] #[],.func (.func 63) #[.pointer (some ⟨b,0,none⟩)] #[]]) (.int .i64 1)).run Tryz.prog W=.ok (.func (.func 58) #[.pointer (some ⟨b,0,none⟩)] #[]) W:=by kernel_rfl
theorem ansIdx2 (b:Nat) (W:World):(Instr.index 111 (.agg #[.func (.func 50) #[.pointer (some ⟨b,0,none⟩)] #[],.func (.func 58) #[.pointer (some ⟨b,0,none⟩)] #[],.func (.func 60) #[.pointer (some ⟨b,0,none⟩)] #[],.func (.func 75) #[.pointer (some ⟨b,0,none⟩)] #[],.func (.func 63) #[.pointer (some ⟨b,0,none⟩)] #[]]) (.int .i64 2)).run Tryz.prog W=.ok (.func (.func 60) #[.pointer (some ⟨b,0,none⟩)] #[]) W:=by kernel_rfl
theorem ansIdx3 (b:Nat) (W:World):(Instr.index 111 (.agg #[.func (.func 50) #[.pointer (some ⟨b,0,none⟩)] #[],.func (.func 58) #[.pointer (some ⟨b,0,none⟩)] #[],.func (.func 60) #[.pointer (some ⟨b,0,none⟩)] #[],.func (.func 75) #[.pointer (some ⟨b,0,none⟩)] #[],.func (.func 63) #[.pointer (some ⟨b,0,none⟩)] #[]]) (.int .i64 3)).run Tryz.prog W=.ok (.func (.func 75) #[.pointer (some ⟨b,0,none⟩)] #[]) W:=by kernel_rfl
theorem ansIdx4 (b:Nat) (W:World):(Instr.index 111 (.agg #[.func (.func 50) #[.pointer (some ⟨b,0,none⟩)] #[],.func (.func 58) #[.pointer (some ⟨b,0,none⟩)] #[],.func (.func 60) #[.pointer (some ⟨b,0,none⟩)] #[],.func (.func 75) #[.pointer (some ⟨b,0,none⟩)] #[],.func (.func 63) #[.pointer (some ⟨b,0,none⟩)] #[]]) (.int .i64 4)).run Tryz.prog W=.ok (.func (.func 63) #[.pointer (some ⟨b,0,none⟩)] #[]) W:=by kernel_rfl
set_option maxHeartbeats 8000000 in
set_option maxRecDepth 100000 in
theorem ordAnswer (st:Nat->List ByteArray × List (List Tm)) (er:Nat->Int) (A B:Option Addr) (n c m d:Nat) (b0 b1:Bool) (A2 A3 A4 A5:Option Addr) (n2 c2 n3 c3 n4 c4 n5 c5:Nat) (i6 i7:Int) (w:World) (T:TabAt w A B n c m d (st 0).1 (st 0).2) (hR:rightT (st 0).1 (st 0).2=true)
  (hS:∀W0 b,Below w.heap.size w W0->Steps W0 b [.bool b0,.bool b1,.slice A2 n2 c2,.slice A3 n3 c3,.slice A4 n4 c4,.slice A5 n5 c5,.int .i64 i6,.int .i64 i7] st er) :
  Calls Tryz.prog 37 #[.agg #[.slice A n c,.slice B m d],.agg #[.bool b0,.bool b1,.slice A2 n2 c2,.slice A3 n3 c3,.slice A4 n4 c4,.slice A5 n5 c5,.int .i64 i6,.int .i64 i7]] w (AnsR (firstE er 0 5) (st 5).2 w):=by
 obtain⟨W1,hW1⟩:∃W1:World,(w.alloc (.cells #[.slice A n c,.slice B m d] 25)).alloc (.cells #[.bool b0,.bool b1,.slice A2 n2 c2,.slice A3 n3 c3,.slice A4 n4 c4,.slice A5 n5 c5,.int .i64 i6,.int .i64 i7] 30)=W1:=⟨_,rfl⟩
 have hb1:Below w.heap.size w W1:=by rw[←hW1];exact blw
 have k0:W1.heap[w.heap.size]?=some (Obj.cells #[.slice A n c,.slice B m d] 25 (0,0)):=by rw[←hW1];exact heap_two_1 _ _ _
 have k1:W1.heap[w.heap.size+1]?=some (Obj.cells #[.bool b0,.bool b1,.slice A2 n2 c2,.slice A3 n3 c3,.slice A4 n4 c4,.slice A5 n5 c5,.int .i64 i6,.int .i64 i7] 30 (0,0)):=by rw[←hW1];exact heap_two_2 _ _ _
 have T1:=T.later hb1
 have hOn:=ordOn (st 0).1 (st 0).2 A B n c m d W1 T1.hn T1.hm T1.hln T1.hlm T1.hnc T1.hv T1.hr T1.hz hR
 have HS:=Lib.hid (λb=>hS W1 b hb1)
 have HB1:=Lib.hid hb1
 have a0:W1.cell? ⟨w.heap.size,0,none⟩=some (.slice A n c):=by rw[World.cell?,k0];rfl
 have a1:W1.cell? ⟨w.heap.size,1,none⟩=some (.slice B m d):=by rw[World.cell?,k0];rfl
 have kq:∀(i:Nat) (v:Value),(#[.bool b0,.bool b1,.slice A2 n2 c2,.slice A3 n3 c3,.slice A4 n4 c4,.slice A5 n5 c5,.int .i64 i6,.int .i64 i7]:Array Value)[i]?=some v->W1.cell? ⟨w.heap.size+1,i,none⟩=some v:=λi v h=>by rw[World.cell?,k1];exact h
 obtain⟨N,hN⟩:∃N,firstE er 0 5=N:=⟨_,rfl⟩
 have HN:=Lib.hid hN
 rw[hN]
 clear hN T T1 hR hS hb1 k0 k1
 go_enter Tryz.func37,Tryz.ntmps37
 go_wp2_with (first
  | (go_at_call 74;refine hOn.mono ?_;rintro e w2 ⟨b,rfl,hWk,hb2⟩;have x0:=cell_on (kq 0 (.bool b0) rfl) hb2;have x1:=cell_on (kq 1 (.bool b1) rfl) hb2;have x2:=cell_on (kq 2 (.slice A2 n2 c2) rfl) hb2;have x3:=cell_on (kq 3 (.slice A3 n3 c3) rfl) hb2;have x4:=cell_on (kq 4 (.slice A4 n4 c4) rfl) hb2;have x5:=cell_on (kq 5 (.slice A5 n5 c5) rfl) hb2;have x6:=cell_on (kq 6 (.int .i64 i6) rfl) hb2;have x7:=cell_on (kq 7 (.int .i64 i7) rfl) hb2;obtain⟨hbb,va,vr,hblk,hva,hrs⟩:=hWk;have HW:=Lib.hid (And.intro hbb (And.intro hblk (And.intro hva (And.intro hrs hb2))));clear hbb hblk hva hrs hb2 hOn a0 a1 kq)
  | (refine wpList_store_part rfl 30 _ _ rfl rfl rfl qInfo HW.out.2.1 (Nat.le_refl 10) (new:=(va::vr::[.bool b0,.bool b1,.slice A2 n2 c2,.slice A3 n3 c3,.slice A4 n4 c4,.slice A5 n5 c5,.int .i64 i6,.int .i64 i7]).toArray) rfl rfl ?_)
  | fail)
 have hW3:=wk_query [.bool b0,.bool b1,.slice A2 n2 c2,.slice A3 n3 c3,.slice A4 n4 c4,.slice A5 n5 c5,.int .i64 i6,.int .i64 i7] HW.out.1 HW.out.2.1 HW.out.2.2.1 HW.out.2.2.2.1
 have hB3:Below W1.heap.size W1 (w2.setRow b (va::vr::[.bool b0,.bool b1,.slice A2 n2 c2,.slice A3 n3 c3,.slice A4 n4 c4,.slice A5 n5 c5,.int .i64 i6,.int .i64 i7]).toArray):=below_setRow HW.out.2.2.2.2 HW.out.1 _
 have HA:Hid (AnsI W1 b [.bool b0,.bool b1,.slice A2 n2 c2,.slice A3 n3 c3,.slice A4 n4 c4,.slice A5 n5 c5,.int .i64 i6,.int .i64 i7] st 0 (w2.setRow b (va::vr::[.bool b0,.bool b1,.slice A2 n2 c2,.slice A3 n3 c3,.slice A4 n4 c4,.slice A5 n5 c5,.int .i64 i6,.int .i64 i7]).toArray)):=(ansI_at (by decide)).2 ⟨hB3,hW3⟩
 have HT:=Lib.hid (HS.out b)
 clear hW3 hB3 HW HS x0 x1 x2 x3 x4 x5 x6 x7
 go_loopw [34] (λi wr=>∃k:Nat,k<=5/\i=.int .i64 k/\Hid (AnsI W1 b [.bool b0,.bool b1,.slice A2 n2 c2,.slice A3 n3 c3,.slice A4 n4 c4,.slice A5 n5 c5,.int .i64 i6,.int .i64 i7] st k wr)/\Hid (firstE er k (5-k)=N)) (λi _=>5-(intOf i).toNat)
 case atStart=>exact⟨0,by omega,rfl,HA,HN⟩
 case round =>
  clear HA HN
  obtain⟨k,hk,rfl,HI,HE⟩:=hrel
  have hle:w.heap.size<=W1.heap.size:=HB1.out.size
  obtain h0|h0|h0|h0|h0|h0:k=0∨k=1∨k=2∨k=3∨k=4∨k=5:=by omega
  ·subst h0
   have hix:=ansIdx0 b
   have hst:=HT.out.s0 wr ((ansI_at (by decide)).1 HI.out).1 ((ansI_at (by decide)).1 HI.out).2
   by_cases hz:er 0=0
   ·have HE2:Hid (firstE er 1 (5-1)=N):=(firstE_0 hz).symm.trans HE.out
    rw[hz]at hst
    clear hz HE HI
    go_wp2_with (go_at_call 50;refine hst.mono ?_;rintro e w9 ⟨rfl,g1,g2⟩;have HX:Hid (AnsI W1 b [.bool b0,.bool b1,.slice A2 n2 c2,.slice A3 n3 c3,.slice A4 n4 c4,.slice A5 n5 c5,.int .i64 i6,.int .i64 i7] st 1 w9):=(ansI_at (by decide)).2 ⟨g2,g1⟩;clear g1 g2 hst)
    go_roundw
    case rel=>exact⟨1,by omega,by first|rfl|go_num,HX,HE2⟩
    case measure=>simp[intOf]
   ·have HE2:Hid (er 0=N):=(firstE_1 hz).symm.trans HE.out
    have hq:(N != 0)=true:=by rw[bne_iff_ne,←HE2.out];exact hz
    have hN0:=HE2.out
    rw[hN0]at hst hz
    have HZ:=Lib.hid hz
    clear hN0 HE HI hz
    go_wp2_with (go_at_call 50;refine hst.mono ?_;rintro e w9 ⟨rfl,g1,g2⟩;have HX:Hid (AnsR N (st 5).2 w (.returned (.tuple #[.slice none 0 0,.int .i64 N])) w9):=⟨_,rfl,below_tr HB1.out g2,λh=>absurd h HZ.out,λ_=>rfl⟩;clear g1 g2 hst)
    go_ret2
    exact HX.out
  ·subst h0
   have hix:=ansIdx1 b
   have hst:=HT.out.s1 wr ((ansI_at (by decide)).1 HI.out).1 ((ansI_at (by decide)).1 HI.out).2
   by_cases hz:er 1=0
   ·have HE2:Hid (firstE er 2 (5-2)=N):=(firstE_0 hz).symm.trans HE.out
    rw[hz]at hst
    clear hz HE HI
    go_wp2_with (go_at_call 58;refine hst.mono ?_;rintro e w9 ⟨rfl,g1,g2⟩;have HX:Hid (AnsI W1 b [.bool b0,.bool b1,.slice A2 n2 c2,.slice A3 n3 c3,.slice A4 n4 c4,.slice A5 n5 c5,.int .i64 i6,.int .i64 i7] st 2 w9):=(ansI_at (by decide)).2 ⟨g2,g1⟩;clear g1 g2 hst)
    go_roundw
    case rel=>exact⟨2,by omega,by first|rfl|go_num,HX,HE2⟩
    case measure=>simp[intOf]
   ·have HE2:Hid (er 1=N):=(firstE_1 hz).symm.trans HE.out
    have hq:(N != 0)=true:=by rw[bne_iff_ne,←HE2.out];exact hz
    have hN0:=HE2.out
    rw[hN0]at hst hz
    have HZ:=Lib.hid hz
    clear hN0 HE HI hz
    go_wp2_with (go_at_call 58;refine hst.mono ?_;rintro e w9 ⟨rfl,g1,g2⟩;have HX:Hid (AnsR N (st 5).2 w (.returned (.tuple #[.slice none 0 0,.int .i64 N])) w9):=⟨_,rfl,below_tr HB1.out g2,λh=>absurd h HZ.out,λ_=>rfl⟩;clear g1 g2 hst)
    go_ret2
    exact HX.out
  ·subst h0
   have hix:=ansIdx2 b
   have hst:=HT.out.s2 wr ((ansI_at (by decide)).1 HI.out).1 ((ansI_at (by decide)).1 HI.out).2
   by_cases hz:er 2=0
   ·have HE2:Hid (firstE er 3 (5-3)=N):=(firstE_0 hz).symm.trans HE.out
    rw[hz]at hst
    clear hz HE HI
    go_wp2_with (go_at_call 60;refine hst.mono ?_;rintro e w9 ⟨rfl,g1,g2⟩;have HX:Hid (AnsI W1 b [.bool b0,.bool b1,.slice A2 n2 c2,.slice A3 n3 c3,.slice A4 n4 c4,.slice A5 n5 c5,.int .i64 i6,.int .i64 i7] st 3 w9):=(ansI_at (by decide)).2 ⟨g2,g1⟩;clear g1 g2 hst)
    go_roundw
    case rel=>exact⟨3,by omega,by first|rfl|go_num,HX,HE2⟩
    case measure=>simp[intOf]
   ·have HE2:Hid (er 2=N):=(firstE_1 hz).symm.trans HE.out
    have hq:(N != 0)=true:=by rw[bne_iff_ne,←HE2.out];exact hz
    have hN0:=HE2.out
    rw[hN0]at hst hz
    have HZ:=Lib.hid hz
    clear hN0 HE HI hz
    go_wp2_with (go_at_call 60;refine hst.mono ?_;rintro e w9 ⟨rfl,g1,g2⟩;have HX:Hid (AnsR N (st 5).2 w (.returned (.tuple #[.slice none 0 0,.int .i64 N])) w9):=⟨_,rfl,below_tr HB1.out g2,λh=>absurd h HZ.out,λ_=>rfl⟩;clear g1 g2 hst)
    go_ret2
    exact HX.out
  ·subst h0
   have hix:=ansIdx3 b
   have hst:=HT.out.s3 wr ((ansI_at (by decide)).1 HI.out).1 ((ansI_at (by decide)).1 HI.out).2
   by_cases hz:er 3=0
   ·have HE2:Hid (firstE er 4 (5-4)=N):=(firstE_0 hz).symm.trans HE.out
    rw[hz]at hst
    clear hz HE HI
    go_wp2_with (go_at_call 75;refine hst.mono ?_;rintro e w9 ⟨rfl,g1,g2⟩;have HX:Hid (AnsI W1 b [.bool b0,.bool b1,.slice A2 n2 c2,.slice A3 n3 c3,.slice A4 n4 c4,.slice A5 n5 c5,.int .i64 i6,.int .i64 i7] st 4 w9):=(ansI_at (by decide)).2 ⟨g2,g1⟩;clear g1 g2 hst)
    go_roundw
    case rel=>exact⟨4,by omega,by first|rfl|go_num,HX,HE2⟩
    case measure=>simp[intOf]
   ·have HE2:Hid (er 3=N):=(firstE_1 hz).symm.trans HE.out
    have hq:(N != 0)=true:=by rw[bne_iff_ne,←HE2.out];exact hz
    have hN0:=HE2.out
    rw[hN0]at hst hz
    have HZ:=Lib.hid hz
    clear hN0 HE HI hz
    go_wp2_with (go_at_call 75;refine hst.mono ?_;rintro e w9 ⟨rfl,g1,g2⟩;have HX:Hid (AnsR N (st 5).2 w (.returned (.tuple #[.slice none 0 0,.int .i64 N])) w9):=⟨_,rfl,below_tr HB1.out g2,λh=>absurd h HZ.out,λ_=>rfl⟩;clear g1 g2 hst)
    go_ret2
    exact HX.out
  ·subst h0
   have hix:=ansIdx4 b
   have hst:=HT.out.s4 wr ((ansI_at (by decide)).1 HI.out).1 ((ansI_at (by decide)).1 HI.out).2
   by_cases hz:er 4=0
   ·have HE2:Hid (firstE er 5 (5-5)=N):=(firstE_0 hz).symm.trans HE.out
    rw[hz]at hst
    clear hz HE HI
    go_wp2_with (go_at_call 63;refine hst.mono ?_;rintro e w9 ⟨rfl,g1,g2⟩;have HX:Hid (AnsI W1 b [.bool b0,.bool b1,.slice A2 n2 c2,.slice A3 n3 c3,.slice A4 n4 c4,.slice A5 n5 c5,.int .i64 i6,.int .i64 i7] st 5 w9):=⟨g2,by rw[if_pos rfl];exact g1⟩;clear g1 g2 hst)
    go_roundw
    case rel=>exact⟨5,by omega,by first|rfl|go_num,HX,HE2⟩
    case measure=>simp[intOf]
   ·have HE2:Hid (er 4=N):=(firstE_1 hz).symm.trans HE.out
    have hq:(N != 0)=true:=by rw[bne_iff_ne,←HE2.out];exact hz
    have hN0:=HE2.out
    rw[hN0]at hst hz
    have HZ:=Lib.hid hz
    clear hN0 HE HI hz
    go_wp2_with (go_at_call 63;refine hst.mono ?_;rintro e w9 ⟨rfl,g1,g2⟩;have HX:Hid (AnsR N (st 5).2 w (.returned (.tuple #[.slice none 0 0,.int .i64 N])) w9):=⟨_,rfl,below_tr HB1.out g2,λh=>absurd h HZ.out,λ_=>rfl⟩;clear g1 g2 hst)
    go_ret2
    exact HX.out
  ·subst h0
   have hI:Below W1.heap.size W1 wr/\WkIn W1.heap.size wr b (st 5).1 (st 5).2 [.bool b0,.bool b1,.slice A2 n2 c2,.slice A3 n3 c3,.slice A4 n4 c4,.slice A5 n5 c5,.int .i64 i6,.int .i64 i7]:=by
    have:=HI.out
    unfold AnsI at this
    rwa [if_pos rfl]at this
   obtain⟨hB,hbb,va',vr',hblk,hva',hrs⟩:=hI
   obtain⟨Ar,cr,rfl,_,_⟩:=hrs.rd
   have d1:wr.cell? ⟨b,1,none⟩=some (.slice Ar (st 5).2.length cr):=by rw[World.cell?,hblk];rfl
   have hN0:0=N:=HE.out
   subst hN0
   have HF:Hid (AnsR 0 (st 5).2 w (.returned (.tuple #[.slice Ar (st 5).2.length cr,.int .i64 0])) wr):=⟨_,rfl,below_tr HB1.out hB,λ_=>hrs.lower hle,λh=>absurd rfl h⟩
   clear hB hbb hblk hva' hrs HI HE
   go_wp2
   go_ret2
   exact HF.out
end Go.Proofs.YtoejnneknpoanaaGreatDoor
