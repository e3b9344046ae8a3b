/- The program's package order, walked: Answer. The program's p -/
import Derived.Test.YtoejnneknpoanaaGreatDoorJOrd19
set_option maxHeartbeats 8000000
set_option maxRecDepth 100000
namespace Go.Proofs.YtoejnneknpoanaaGreatDoor
open Go Go.RowKit Fm Tx Om Mp
def lX (N:Int) (rows:List (List Tm)) (w:World) (e:Ending) (w':World):Prop:=∃v,e=.returned (.tuple #[v,.int .i64 N])/\Below w.heap.size w w'/\(N=0->bX w.heap.size w' v rows)/\(N≠0->v=.slice none 0 0)
structure Steps (W0:World) (b:Nat) (qc:List Value) (st:Nat->List ByteArray × List (List Tm)) (er:Nat->Int):Prop where
 s0:∀W,Below W0.heap.size W0 W->cD W0.heap.size W b (st 0).1 (st 0).2 qc->Calls Tryz.prog 50 #[.pointer (some ⟨b,0,none⟩)] W (cn W0 b (st 1).1 (st 1).2 qc (er 0))
 s1:∀W,Below W0.heap.size W0 W->cD W0.heap.size W b (st 1).1 (st 1).2 qc->Calls Tryz.prog 58 #[.pointer (some ⟨b,0,none⟩)] W (cn W0 b (st 2).1 (st 2).2 qc (er 1))
 s2:∀W,Below W0.heap.size W0 W->cD W0.heap.size W b (st 2).1 (st 2).2 qc->Calls Tryz.prog 60 #[.pointer (some ⟨b,0,none⟩)] W (cn W0 b (st 3).1 (st 3).2 qc (er 2))
 s3:∀W,Below W0.heap.size W0 W->cD W0.heap.size W b (st 3).1 (st 3).2 qc->Calls Tryz.prog 75 #[.pointer (some ⟨b,0,none⟩)] W (cn W0 b (st 4).1 (st 4).2 qc (er 3))
 s4:∀W,Below W0.heap.size W0 W->cD W0.heap.size W b (st 4).1 (st 4).2 qc->Calls Tryz.prog 63 #[.pointer (some ⟨b,0,none⟩)] W (jx W0 b (st 5).1 (st 5).2 qc (er 4))
def bF (er:Nat->Int):Nat->Nat->Int
 | _,0=>0
 | i,k+1=>if er i=0 then bF er (i+1) k else er i
theorem gD {er:Nat->Int} {i k:Nat} (h:er i=0):bF er i (k+1)=bF er (i+1) k:=by rw[bF,if_pos h]
theorem gC {er:Nat->Int} {i k:Nat} (h:er i≠0):bF er i (k+1)=er i:=by rw[bF,if_neg h]
def oU (W0:World) (b:Nat) (qc:List Value) (st:Nat->List ByteArray × List (List Tm)) (k:Nat) (W:World):Prop:=Below W0.heap.size W0 W/\if k=5 then By W0.heap.size W b (st 5).1 (st 5).2 qc else cD W0.heap.size W b (st k).1 (st k).2 qc
theorem bR {W0 W:World} {b k:Nat} {qc:List Value} {st:Nat->List ByteArray × List (List Tm)} (hk:k≠5):oU W0 b qc st k W↔Below W0.heap.size W0 W/\cD W0.heap.size W b (st k).1 (st k).2 qc:=by unfold oU;rw[if_neg hk]
theorem Dl (b:Nat) (W:World):(Instr.index 111 (.agg #[.func (.func 50) #[.pointer (some ⟨b,0,none⟩)] #[],.func (.func 58) #[.pointer (some ⟨b,0,none⟩)] #[],.func (.func 60) #[.pointer (some ⟨b,0,none⟩)] #[],.func (.func 75) #[.pointer (some ⟨b,0,none⟩)] #[],.func (.func 63) #[.pointer (some ⟨b,0,none⟩)] #[]]) (.int .i64 0)).run Tryz.prog W=.ok (.func (.func 50) #[.pointer (some ⟨b,0,none⟩)] #[]) W:=by kernel_rfl
theorem Dk (b:Nat) (W:World):(Instr.index 111 (.agg #[.func (.func 50) #[.pointer (some ⟨b,0,none⟩)] #[],.func (.func 58) #[.pointer (some ⟨b,0,none⟩)] #[],.func (.func 60) #[.pointer (some ⟨b,0,none⟩)] #[],.func (.func 75) #[.pointer (some ⟨b,0,none⟩)] #[],.func (.func 63) #[.pointer (some ⟨b,0,none⟩)] #[]]) (.int .i64 1)).run Tryz.prog W=.ok (.func (.func 58) #[.pointer (some ⟨b,0,none⟩)] #[]) W:=by kernel_rfl
theorem Dj (b:Nat) (W:World):(Instr.index 111 (.agg #[.func (.func 50) #[.pointer (some ⟨b,0,none⟩)] #[],.func (.func 58) #[.pointer (some ⟨b,0,none⟩)] #[],.func (.func 60) #[.pointer (some ⟨b,0,none⟩)] #[],.func (.func 75) #[.pointer (some ⟨b,0,none⟩)] #[],.func (.func 63) #[.pointer (some ⟨b,0,none⟩)] #[]]) (.int .i64 2)).run Tryz.prog W=.ok (.func (.func 60) #[.pointer (some ⟨b,0,none⟩)] #[]) W:=by kernel_rfl
theorem Di (b:Nat) (W:World):(Instr.index 111 (.agg #[.func (.func 50) #[.pointer (some ⟨b,0,none⟩)] #[],.func (.func 58) #[.pointer (some ⟨b,0,none⟩)] #[],.func (.func 60) #[.pointer (some ⟨b,0,none⟩)] #[],.func (.func 75) #[.pointer (some ⟨b,0,none⟩)] #[],.func (.func 63) #[.pointer (some ⟨b,0,none⟩)] #[]]) (.int .i64 3)).run Tryz.prog W=.ok (.func (.func 75) #[.pointer (some ⟨b,0,none⟩)] #[]) W:=by kernel_rfl
theorem Dh (b:Nat) (W:World):(Instr.index 111 (.agg #[.func (.func 50) #[.pointer (some ⟨b,0,none⟩)] #[],.func (.func 58) #[.pointer (some ⟨b,0,none⟩)] #[],.func (.func 60) #[.pointer (some ⟨b,0,none⟩)] #[],.func (.func 75) #[.pointer (some ⟨b,0,none⟩)] #[],.func (.func 63) #[.pointer (some ⟨b,0,none⟩)] #[]]) (.int .i64 4)).run Tryz.prog W=.ok (.func (.func 63) #[.pointer (some ⟨b,0,none⟩)] #[]) W:=by kernel_rfl
theorem xt (st:Nat->List ByteArray × List (List Tm)) (er:Nat->Int) (A B:Option Addr) (n c m d:Nat) (b0 b1:Bool) (A2 A3 A4 A5:Option Addr) (n2 c2 n3 c3 n4 c4 n5 c5:Nat) (i6 i7:Int) (w:World) (T:TabAt w A B n c m d (st 0).1 (st 0).2) (hR:ar (st 0).1 (st 0).2=true)
  (hS:∀W0 b,Below w.heap.size w W0->Steps W0 b [.bool b0,.bool b1,.slice A2 n2 c2,.slice A3 n3 c3,.slice A4 n4 c4,.slice A5 n5 c5,.int .i64 i6,.int .i64 i7] st er) :
  Calls Tryz.prog 37 #[.agg #[.slice A n c,.slice B m d],.agg #[.bool b0,.bool b1,.slice A2 n2 c2,.slice A3 n3 c3,.slice A4 n4 c4,.slice A5 n5 c5,.int .i64 i6,.int .i64 i7]] w (lX (bF er 0 5) (st 5).2 w):=by
 obtain⟨W1,hW1⟩:∃W1:World,(w.alloc (.cells #[.slice A n c,.slice B m d] 25)).alloc (.cells #[.bool b0,.bool b1,.slice A2 n2 c2,.slice A3 n3 c3,.slice A4 n4 c4,.slice A5 n5 c5,.int .i64 i6,.int .i64 i7] 30)=W1:=⟨_,rfl⟩
 have hb1:Below w.heap.size w W1:=by rw[←hW1];exact blw
 have k0:W1.heap[w.heap.size]?=some (Obj.cells #[.slice A n c,.slice B m d] 25 (0,0)):=by rw[←hW1];exact aj _ _ _
 have k1:W1.heap[w.heap.size+1]?=some (Obj.cells #[.bool b0,.bool b1,.slice A2 n2 c2,.slice A3 n3 c3,.slice A4 n4 c4,.slice A5 n5 c5,.int .i64 i6,.int .i64 i7] 30 (0,0)):=by rw[←hW1];exact ah _ _ _
 have T1:=T.later hb1
 have hOn:=Dq (st 0).1 (st 0).2 A B n c m d W1 T1.hn T1.hm T1.hln T1.hlm T1.hnc T1.hv T1.hr T1.hz hR
 have HS:=Lib.hid (λb=>hS W1 b hb1)
 have HB1:=Lib.hid hb1
 have a0:W1.cell? ⟨w.heap.size,0,none⟩=some (.slice A n c):=by rw[World.cell?,k0];rfl
 have a1:W1.cell? ⟨w.heap.size,1,none⟩=some (.slice B m d):=by rw[World.cell?,k0];rfl
 have kq:∀(i:Nat) (v:Value),(#[.bool b0,.bool b1,.slice A2 n2 c2,.slice A3 n3 c3,.slice A4 n4 c4,.slice A5 n5 c5,.int .i64 i6,.int .i64 i7]:Array Value)[i]?=some v->W1.cell? ⟨w.heap.size+1,i,none⟩=some v:=λi v h=>by rw[World.cell?,k1];exact h
 obtain⟨N,hN⟩:∃N,bF er 0 5=N:=⟨_,rfl⟩
 have HN:=Lib.hid hN
 rw[hN]
 clear hN T T1 hR hS hb1 k0 k1
 go_enter Tryz.func37,Tryz.ntmps37
 go_wp2_with (first
  | (go_at_call 74;refine hOn.mono ?_;rintro e w2 ⟨b,rfl,hWk,hb2⟩;have x0:=ab (kq 0 (.bool b0) rfl) hb2;have x1:=ab (kq 1 (.bool b1) rfl) hb2;have x2:=ab (kq 2 (.slice A2 n2 c2) rfl) hb2;have x3:=ab (kq 3 (.slice A3 n3 c3) rfl) hb2;have x4:=ab (kq 4 (.slice A4 n4 c4) rfl) hb2;have x5:=ab (kq 5 (.slice A5 n5 c5) rfl) hb2;have x6:=ab (kq 6 (.int .i64 i6) rfl) hb2;have x7:=ab (kq 7 (.int .i64 i7) rfl) hb2;obtain⟨hbb,va,vr,hblk,hva,hrs⟩:=hWk;have HW:=Lib.hid (And.intro hbb (And.intro hblk (And.intro hva (And.intro hrs hb2))));clear hbb hblk hva hrs hb2 hOn a0 a1 kq)
  | (refine eE rfl 30 _ _ rfl rfl rfl Dp HW.out.2.1 (Nat.le_refl 10) (new:=(va::vr::[.bool b0,.bool b1,.slice A2 n2 c2,.slice A3 n3 c3,.slice A4 n4 c4,.slice A5 n5 c5,.int .i64 i6,.int .i64 i7]).toArray) rfl rfl ?_)
  | fail)
 have hW3:=rN [.bool b0,.bool b1,.slice A2 n2 c2,.slice A3 n3 c3,.slice A4 n4 c4,.slice A5 n5 c5,.int .i64 i6,.int .i64 i7] HW.out.1 HW.out.2.1 HW.out.2.2.1 HW.out.2.2.2.1
 have hB3:Below W1.heap.size W1 (w2.setRow b (va::vr::[.bool b0,.bool b1,.slice A2 n2 c2,.slice A3 n3 c3,.slice A4 n4 c4,.slice A5 n5 c5,.int .i64 i6,.int .i64 i7]).toArray):=below_setRow HW.out.2.2.2.2 HW.out.1 _
 have HA:Hid (oU W1 b [.bool b0,.bool b1,.slice A2 n2 c2,.slice A3 n3 c3,.slice A4 n4 c4,.slice A5 n5 c5,.int .i64 i6,.int .i64 i7] st 0 (w2.setRow b (va::vr::[.bool b0,.bool b1,.slice A2 n2 c2,.slice A3 n3 c3,.slice A4 n4 c4,.slice A5 n5 c5,.int .i64 i6,.int .i64 i7]).toArray)):=(bR (by decide)).2 ⟨hB3,hW3⟩
 have HT:=Lib.hid (HS.out b)
 clear hW3 hB3 HW HS x0 x1 x2 x3 x4 x5 x6 x7
 go_loopw [34] (λi wr=>∃k:Nat,k<=5/\i=.int .i64 k/\Hid (oU W1 b [.bool b0,.bool b1,.slice A2 n2 c2,.slice A3 n3 c3,.slice A4 n4 c4,.slice A5 n5 c5,.int .i64 i6,.int .i64 i7] st k wr)/\Hid (bF er k (5-k)=N)) (λi _=>5-(intOf i).toNat)
 case atStart=>exact⟨0,by omega,rfl,HA,HN⟩
 case round =>
  clear HA HN
  obtain⟨k,hk,rfl,HI,HE⟩:=hrel
  have hle:w.heap.size<=W1.heap.size:=HB1.out.size
  obtain h0|h0|h0|h0|h0|h0:k=0∨k=1∨k=2∨k=3∨k=4∨k=5:=by omega
  ·subst h0
   have hix:=Dl b
   have hst:=HT.out.s0 wr ((bR (by decide)).1 HI.out).1 ((bR (by decide)).1 HI.out).2
   by_cases hz:er 0=0
   ·have HE2:Hid (bF er 1 (5-1)=N):=(gD hz).symm.trans HE.out
    rw[hz]at hst
    clear hz HE HI
    go_wp2_with (go_at_call 50;refine hst.mono ?_;rintro e w9 ⟨rfl,g1,g2⟩;have HX:Hid (oU W1 b [.bool b0,.bool b1,.slice A2 n2 c2,.slice A3 n3 c3,.slice A4 n4 c4,.slice A5 n5 c5,.int .i64 i6,.int .i64 i7] st 1 w9):=(bR (by decide)).2 ⟨g2,g1⟩;clear g1 g2 hst)
    go_roundw
    case rel=>exact⟨1,by omega,by first|rfl|go_num,HX,HE2⟩
    case measure=>simp[intOf]
   ·have HE2:Hid (er 0=N):=(gC hz).symm.trans HE.out
    have hq:(N != 0)=true:=by rw[bne_iff_ne,←HE2.out];exact hz
    have hN0:=HE2.out
    rw[hN0]at hst hz
    have HZ:=Lib.hid hz
    clear hN0 HE HI hz
    go_wp2_with (go_at_call 50;refine hst.mono ?_;rintro e w9 ⟨rfl,g1,g2⟩;have HX:Hid (lX N (st 5).2 w (.returned (.tuple #[.slice none 0 0,.int .i64 N])) w9):=⟨_,rfl,aa HB1.out g2,λh=>absurd h HZ.out,λ_=>rfl⟩;clear g1 g2 hst)
    go_ret2
    exact HX.out
  ·subst h0
   have hix:=Dk b
   have hst:=HT.out.s1 wr ((bR (by decide)).1 HI.out).1 ((bR (by decide)).1 HI.out).2
   by_cases hz:er 1=0
   ·have HE2:Hid (bF er 2 (5-2)=N):=(gD hz).symm.trans HE.out
    rw[hz]at hst
    clear hz HE HI
    go_wp2_with (go_at_call 58;refine hst.mono ?_;rintro e w9 ⟨rfl,g1,g2⟩;have HX:Hid (oU W1 b [.bool b0,.bool b1,.slice A2 n2 c2,.slice A3 n3 c3,.slice A4 n4 c4,.slice A5 n5 c5,.int .i64 i6,.int .i64 i7] st 2 w9):=(bR (by decide)).2 ⟨g2,g1⟩;clear g1 g2 hst)
    go_roundw
    case rel=>exact⟨2,by omega,by first|rfl|go_num,HX,HE2⟩
    case measure=>simp[intOf]
   ·have HE2:Hid (er 1=N):=(gC hz).symm.trans HE.out
    have hq:(N != 0)=true:=by rw[bne_iff_ne,←HE2.out];exact hz
    have hN0:=HE2.out
    rw[hN0]at hst hz
    have HZ:=Lib.hid hz
    clear hN0 HE HI hz
    go_wp2_with (go_at_call 58;refine hst.mono ?_;rintro e w9 ⟨rfl,g1,g2⟩;have HX:Hid (lX N (st 5).2 w (.returned (.tuple #[.slice none 0 0,.int .i64 N])) w9):=⟨_,rfl,aa HB1.out g2,λh=>absurd h HZ.out,λ_=>rfl⟩;clear g1 g2 hst)
    go_ret2
    exact HX.out
  ·subst h0
   have hix:=Dj b
   have hst:=HT.out.s2 wr ((bR (by decide)).1 HI.out).1 ((bR (by decide)).1 HI.out).2
   by_cases hz:er 2=0
   ·have HE2:Hid (bF er 3 (5-3)=N):=(gD hz).symm.trans HE.out
    rw[hz]at hst
    clear hz HE HI
    go_wp2_with (go_at_call 60;refine hst.mono ?_;rintro e w9 ⟨rfl,g1,g2⟩;have HX:Hid (oU W1 b [.bool b0,.bool b1,.slice A2 n2 c2,.slice A3 n3 c3,.slice A4 n4 c4,.slice A5 n5 c5,.int .i64 i6,.int .i64 i7] st 3 w9):=(bR (by decide)).2 ⟨g2,g1⟩;clear g1 g2 hst)
    go_roundw
    case rel=>exact⟨3,by omega,by first|rfl|go_num,HX,HE2⟩
    case measure=>simp[intOf]
   ·have HE2:Hid (er 2=N):=(gC hz).symm.trans HE.out
    have hq:(N != 0)=true:=by rw[bne_iff_ne,←HE2.out];exact hz
    have hN0:=HE2.out
    rw[hN0]at hst hz
    have HZ:=Lib.hid hz
    clear hN0 HE HI hz
    go_wp2_with (go_at_call 60;refine hst.mono ?_;rintro e w9 ⟨rfl,g1,g2⟩;have HX:Hid (lX N (st 5).2 w (.returned (.tuple #[.slice none 0 0,.int .i64 N])) w9):=⟨_,rfl,aa HB1.out g2,λh=>absurd h HZ.out,λ_=>rfl⟩;clear g1 g2 hst)
    go_ret2
    exact HX.out
  ·subst h0
   have hix:=Di b
   have hst:=HT.out.s3 wr ((bR (by decide)).1 HI.out).1 ((bR (by decide)).1 HI.out).2
   by_cases hz:er 3=0
   ·have HE2:Hid (bF er 4 (5-4)=N):=(gD hz).symm.trans HE.out
    rw[hz]at hst
    clear hz HE HI
    go_wp2_with (go_at_call 75;refine hst.mono ?_;rintro e w9 ⟨rfl,g1,g2⟩;have HX:Hid (oU W1 b [.bool b0,.bool b1,.slice A2 n2 c2,.slice A3 n3 c3,.slice A4 n4 c4,.slice A5 n5 c5,.int .i64 i6,.int .i64 i7] st 4 w9):=(bR (by decide)).2 ⟨g2,g1⟩;clear g1 g2 hst)
    go_roundw
    case rel=>exact⟨4,by omega,by first|rfl|go_num,HX,HE2⟩
    case measure=>simp[intOf]
   ·have HE2:Hid (er 3=N):=(gC hz).symm.trans HE.out
    have hq:(N != 0)=true:=by rw[bne_iff_ne,←HE2.out];exact hz
    have hN0:=HE2.out
    rw[hN0]at hst hz
    have HZ:=Lib.hid hz
    clear hN0 HE HI hz
    go_wp2_with (go_at_call 75;refine hst.mono ?_;rintro e w9 ⟨rfl,g1,g2⟩;have HX:Hid (lX N (st 5).2 w (.returned (.tuple #[.slice none 0 0,.int .i64 N])) w9):=⟨_,rfl,aa HB1.out g2,λh=>absurd h HZ.out,λ_=>rfl⟩;clear g1 g2 hst)
    go_ret2
    exact HX.out
  ·subst h0
   have hix:=Dh b
   have hst:=HT.out.s4 wr ((bR (by decide)).1 HI.out).1 ((bR (by decide)).1 HI.out).2
   by_cases hz:er 4=0
   ·have HE2:Hid (bF er 5 (5-5)=N):=(gD hz).symm.trans HE.out
    rw[hz]at hst
    clear hz HE HI
    go_wp2_with (go_at_call 63;refine hst.mono ?_;rintro e w9 ⟨rfl,g1,g2⟩;have HX:Hid (oU W1 b [.bool b0,.bool b1,.slice A2 n2 c2,.slice A3 n3 c3,.slice A4 n4 c4,.slice A5 n5 c5,.int .i64 i6,.int .i64 i7] st 5 w9):=⟨g2,by rw[if_pos rfl];exact g1⟩;clear g1 g2 hst)
    go_roundw
    case rel=>exact⟨5,by omega,by first|rfl|go_num,HX,HE2⟩
    case measure=>simp[intOf]
   ·have HE2:Hid (er 4=N):=(gC hz).symm.trans HE.out
    have hq:(N != 0)=true:=by rw[bne_iff_ne,←HE2.out];exact hz
    have hN0:=HE2.out
    rw[hN0]at hst hz
    have HZ:=Lib.hid hz
    clear hN0 HE HI hz
    go_wp2_with (go_at_call 63;refine hst.mono ?_;rintro e w9 ⟨rfl,g1,g2⟩;have HX:Hid (lX N (st 5).2 w (.returned (.tuple #[.slice none 0 0,.int .i64 N])) w9):=⟨_,rfl,aa HB1.out g2,λh=>absurd h HZ.out,λ_=>rfl⟩;clear g1 g2 hst)
    go_ret2
    exact HX.out
  ·subst h0
   have hI:Below W1.heap.size W1 wr/\By W1.heap.size wr b (st 5).1 (st 5).2 [.bool b0,.bool b1,.slice A2 n2 c2,.slice A3 n3 c3,.slice A4 n4 c4,.slice A5 n5 c5,.int .i64 i6,.int .i64 i7]:=by
    have:=HI.out
    unfold oU at this
    rwa [if_pos rfl]at this
   obtain⟨hB,hbb,va',vr',hblk,hva',hrs⟩:=hI
   obtain⟨Ar,cr,rfl,_,_⟩:=hrs.rd
   have d1:wr.cell? ⟨b,1,none⟩=some (.slice Ar (st 5).2.length cr):=by rw[World.cell?,hblk];rfl
   have hN0:0=N:=HE.out
   subst hN0
   have HF:Hid (lX 0 (st 5).2 w (.returned (.tuple #[.slice Ar (st 5).2.length cr,.int .i64 0])) wr):=⟨_,rfl,aa HB1.out hB,λ_=>hrs.lower hle,λh=>absurd rfl h⟩
   clear hB hbb hblk hva' hrs HI HE
   go_wp2
   go_ret2
   exact HF.out
def fT (vars names:List ByteArray) (nf:Nat) (fils:List (ExT nf)) (keys:List Ky) (rows:List (List Tm)):List ByteArray × List (List Tm):=if be vars names=0 then (names,(bH vars keys (aR vars nf fils rows)).map (aJ (am vars names))) else (vars,bH vars keys (aR vars nf fils rows))
def fS (vars names:List ByteArray) (nf:Nat) (fils:List (ExT nf)) (keys:List Ky) (dist:Bool) (rows:List (List Tm)):List (List Tm):=if dist then aS (fT vars names nf fils keys rows).2 else (fT vars names nf fils keys rows).2
def pW (vars names:List ByteArray) (nf:Nat) (fils:List (ExT nf)) (keys:List Ky) (dist:Bool) (off lim:Int) (rows:List (List Tm)):Nat->List ByteArray × List (List Tm)
 | 0=>(vars,rows)
 | 1=>(vars,aR vars nf fils rows)
 | 2=>(vars,bH vars keys (aR vars nf fils rows))
 | 3=>fT vars names nf fils keys rows
 | 4=>((fT vars names nf fils keys rows).1,fS vars names nf fils keys dist rows)
 | _=>((fT vars names nf fils keys rows).1,if off<0∨lim < -1 then fS vars names nf fils keys dist rows else di off lim (fS vars names nf fils keys dist rows))
def gK (vars names:List ByteArray) (keys:List Ky) (off lim:Int):Nat->Int
 | 1=>bT vars keys
 | 2=>be vars names
 | 4=>if off<0∨lim < -1 then 6 else 0
 | _=>0
theorem jp {vars:List ByteArray} {nf:Nat} {fils:List (ExT nf)} {keys:List Ky} {rows:List (List Tm)} {r:List Tm} (h:r∈bH vars keys (aR vars nf fils rows)):r∈rows:=gx ((fC _ _ _).mem_iff.1 h)
theorem jq (vars:List ByteArray) (nf:Nat) (fils:List (ExT nf)) (keys:List Ky) (rows:List (List Tm)):(bH vars keys (aR vars nf fils rows)).length<=rows.length:=by
 rw[(fC _ _ _).length_eq]
 exact gy _ _ _ _
theorem jo (vars names:List ByteArray) (nf:Nat) (fils:List (ExT nf)) (keys:List Ky) (rows:List (List Tm)):(fT vars names nf fils keys rows).2.length<=rows.length:=by
 unfold fT
 split
 ·rw[List.length_map];exact jq _ _ _ _ _
 ·exact jq _ _ _ _ _
theorem pr {vars names:List ByteArray} (h:be vars names=0):∀p∈am vars names,0<=p/\p<vars.length:=by
 refine fh ?_
 unfold be at h
 split at h
 ·cases h
 ·split at h
  ·cases h
  ·rename_i h2
   simpa using h2
theorem gq {α:Type} [DecidableEq α] (l:List α):(aS l).length<=l.length:=by
 have h1:∀(acc:List α) (r:α),(j4 acc r).length<=acc.length+1:=λacc r=>by
  unfold j4
  split<;>simp
 have h2:∀(l acc:List α),(l.foldl j4 acc).length<=acc.length+l.length:=by
  intro l
  induction l with
  | nil=>intro acc;simp
  | cons x l ih =>
   intro acc
   have:=ih (j4 acc x)
   have:=h1 acc x
   simp only[List.foldl_cons,List.length_cons]
   omega
 have:=h2 l []
 simpa[aS] using this
theorem Bu {vars names:List ByteArray} {nf:Nat} {fils:List (ExT nf)} {keys:List Ky} {rows:List (List Tm)} (hlq:names.length<=1000000) (hw:∀r∈rows,r.length=vars.length) (hk:∀r∈rows,en r):∀r∈(fT vars names nf fils keys rows).2,en r:=by
 unfold fT
 split
 ·rename_i hN
  intro r hr
  obtain⟨q,hq,rfl⟩:=List.mem_map.1 hr
  have hq2:=jp hq
  refine⟨?_,λt ht=>(hk q hq2).2 t (zA (λp hp=>?_) ht)⟩
  ·rw[mN];unfold am;rw[List.length_map];exact hlq
  ·rw[hw q hq2];exact pr hN p hp
 ·exact λr hr=>hk r (jp hr)
theorem zL (W0:World) (hC:dq W0) (hP:eD W0) (b:Nat) (vars names:List ByteArray) (nf:Nat) (fils:List (ExT nf)) (keys:List Ky) (b0 dist:Bool) (off lim:Int) (rows:List (List Tm)) (A2 A4 A5:Option Addr) (n2 c2 n4 c4 n5 c5:Nat) (q3:Value)
  (h2:names.length=n2) (hl2:n2<=1000000) (hc2:n2<=c2) (hr2:Rd W0 A2 (names.map Value.string)) (h4:fils.length=n4) (hl4:n4<=1000000) (hzf:∀x∈fils,szE nf x) (hr4:aB nf W0 A4 fils) (h5:keys.length=n5) (hl5:n5<=1000000) (hr5:dl W0 A5 keys)
  (hlv:vars.length<=1000000) (hl:rows.length<=1000000) (hw:∀r∈rows,r.length=vars.length) (hk:∀r∈rows,en r) (hs:∀r∈rows,bu r) :
  Steps W0 b [.bool b0,.bool dist,.slice A2 n2 c2,q3,.slice A4 n4 c4,.slice A5 n5 c5,.int .i64 lim,.int .i64 off] (pW vars names nf fils keys dist off lim rows) (gK vars names keys off lim) where
 s0:=λW hB hW=>vO W0 b nf fils A4 c4 n4 vars rows _ _ _ _ _ _ _ W h4 hl4 hlv hzf hr4 hB hW hk hl
 s1:=λW hB hW=>pv W0 hC b vars _ keys _ _ _ _ _ _ _ A5 n5 c5 W hB hW h5 hl5 hr5 (λr hr=>hs r (gx hr)) (λr hr=>hw r (gx hr)) hlv (Nat.le_trans (gy _ _ _ _) hl)
 s2:=λW hB hW=>by
  refine(mX W0 b vars names _ _ _ _ _ _ _ _ A2 n2 c2 W hB hW h2 hl2 hc2 hr2 (λr hr=>hw r (jp hr)) hlv (Nat.le_trans (jq _ _ _ _ _) hl)).mono λe w' h=>?_
  show cn W0 b (fT vars names nf fils keys rows).1 (fT vars names nf fils keys rows).2 _ (be vars names) e w'
  unfold fT
  by_cases hN:be vars names=0
  ·rw[if_pos hN,hN];exact h.2 hN
  ·rw[if_neg hN];exact h.1 hN
 s3:=λW hB hW=>so W0 hP b _ _ dist _ _ W hB hW (Bu (by omega) hw hk) (Nat.le_trans (jo _ _ _ _ _ _) hl)
 s4:=λW hB hW=>by
  have hl9:(fS vars names nf fils keys dist rows).length<=1000000:=by
   unfold fS
   split
   ·exact Nat.le_trans (gq _) (Nat.le_trans (jo _ _ _ _ _ _) hl)
   ·exact Nat.le_trans (jo _ _ _ _ _ _) hl
  show Calls _ _ _ _ (jx W0 b (fT vars names nf fils keys rows).1 (if off<0∨lim < -1 then fS vars names nf fils keys dist rows else di off lim (fS vars names nf fils keys dist rows)) _ (if off<0∨lim < -1 then 6 else 0))
  by_cases h:off<0∨lim < -1
  ·rw[if_pos h,if_pos h]
   exact sq W0 b _ _ _ _ _ _ _ _ off lim W hB hW h
  ·rw[if_neg h,if_neg h]
   exact zT W0 b _ _ _ _ _ _ _ _ off lim W hB hW (by omega) (by omega) hl9
section
variable {w:World} {A B:Option Addr} {n c m d:Nat} {vars:List ByteArray} {rows:List (List Tm)}
theorem wK (T:TabAt w A B n c m d vars rows) (hR:ar vars rows=true) (hC:dq w) (hP:eD w) (hk:∀r∈rows,en r) (hs:∀r∈rows,bu r) (names:List ByteArray) (nf:Nat) (fils:List (ExT nf)) (keys:List Ky) (b0 dist:Bool) (off lim:Int) (A2 A3 A4 A5:Option Addr) (n2 c2 n3 c3 n4 c4 n5 c5:Nat)
  (h2:names.length=n2) (hl2:n2<=1000000) (hc2:n2<=c2) (hr2:Rd w A2 (names.map Value.string)) (h4:fils.length=n4) (hl4:n4<=1000000) (hzf:∀x∈fils,szE nf x) (hr4:aB nf w A4 fils) (h5:keys.length=n5) (hl5:n5<=1000000) (hr5:dl w A5 keys) :
  Calls Tryz.prog 37 #[.agg #[.slice A n c,.slice B m d],.agg #[.bool b0,.bool dist,.slice A2 n2 c2,.slice A3 n3 c3,.slice A4 n4 c4,.slice A5 n5 c5,.int .i64 lim,.int .i64 off]] w (lX (bF (gK vars names keys off lim) 0 5) (pW vars names nf fils keys dist off lim rows 5).2 w):=by
 have hlv:=T.hln
 have hl:=T.hlm
 rw[←T.hn]at hlv
 rw[←T.hm]at hl
 exact xt (pW vars names nf fils keys dist off lim rows) (gK vars names keys off lim) A B n c m d b0 dist A2 A3 A4 A5 n2 c2 n3 c3 n4 c4 n5 c5 lim off w T hR λW0 b hB =>
  zL W0 (hC.step hB) (hP.step hB) b vars names nf fils keys b0 dist off lim rows A2 A4 A5 n2 c2 n4 c4 n5 c5 _ h2 hl2 hc2 (hr2.later hB) h4 hl4 hzf (aB.later hr4 hB) h5 hl5 (RdL.mono hr5 hB (λ_ _ _ h=>h)) hlv hl (dw hR) hk hs
theorem Ae (T:TabAt w A B n c m d vars rows) (hR:ar vars rows=false) (b0 b1:Bool) (A2 A3 A4 A5:Option Addr) (n2 c2 n3 c3 n4 c4 n5 c5:Nat) (i6 i7:Int) :
  Calls Tryz.prog 37 #[.agg #[.slice A n c,.slice B m d],.agg #[.bool b0,.bool b1,.slice A2 n2 c2,.slice A3 n3 c3,.slice A4 n4 c4,.slice A5 n5 c5,.int .i64 i6,.int .i64 i7]] w (lX 2 [] w):=by
 obtain⟨W1,hW1⟩:∃W1:World,(w.alloc (.cells #[.slice A n c,.slice B m d] 25)).alloc (.cells #[.bool b0,.bool b1,.slice A2 n2 c2,.slice A3 n3 c3,.slice A4 n4 c4,.slice A5 n5 c5,.int .i64 i6,.int .i64 i7] 30)=W1:=⟨_,rfl⟩
 have hb1:Below w.heap.size w W1:=by rw[←hW1];exact blw
 have k0:W1.heap[w.heap.size]?=some (Obj.cells #[.slice A n c,.slice B m d] 25 (0,0)):=by rw[←hW1];exact aj _ _ _
 have T1:=T.later hb1
 have hOn:=vN vars rows A B n c m d W1 T1.hn T1.hm T1.hln T1.hlm T1.hnc T1.hv T1.hr hR
 have HB1:=Lib.hid hb1
 have a0:W1.cell? ⟨w.heap.size,0,none⟩=some (.slice A n c):=by rw[World.cell?,k0];rfl
 have a1:W1.cell? ⟨w.heap.size,1,none⟩=some (.slice B m d):=by rw[World.cell?,k0];rfl
 clear T T1 hR hb1 k0
 go_enter Tryz.func37,Tryz.ntmps37
 go_wp2_with (first
  | (go_at_call 74;refine hOn.mono ?_;rintro e w2 ⟨rfl,hb2⟩;have HX:Hid (lX 2 [] w (.returned (.tuple #[.slice none 0 0,.int .i64 2])) w2):=⟨_,rfl,aa HB1.out hb2,(λh=>by cases h),λ_=>rfl⟩;clear hb2 hOn a0 a1)
  | fail)
 go_ret2
 exact HX.out
end
theorem AP:∀{vars:List ByteArray} {k:Nat} {x:ByteArray},vars[k]?=some x->x ∉ vars.take k->Lib.idxOfS vars x=(k:Int)
 | [],_,_,h,_=>by simp at h
 | z::zs,0,x,h,_=>by
  have hz:z=x:=by simpa using h
  subst hz
  unfold Lib.idxOfS Lib.idxFromS
  simp
 | z::zs,k+1,x,h,hm=>by
  rw[List.take_succ_cons,List.mem_cons,_root_.not_or]at hm
  rw[sW _ _ _ (λe=>hm.1 e.symm),AP (vars:=zs) (k:=k) (by simpa using h) hm.2,if_neg (by omega)]
  omega
theorem pk (vars:List ByteArray) (x:ByteArray) (A:Option Addr) (c n:Nat) (w:World) (hn:vars.length=n) (hl:n<=1000000000) (hr:Rd w A (vars.map Value.string)) :
  Calls Tryz.prog 55 #[.slice A n c,.string x] w λe w'=>e=.returned (.int .i64 (Lib.idxOfS vars x))/\w=w':=by
 have HN:=Lib.hid hn
 clear hn
 go_enter Tryz.func55,Tryz.ntmps55
 go_wp2
 go_loop [5] (λi=>∃k:Nat,k<=n/\i=.int .i64 k/\Hid (x ∉ vars.take k)) (λi=>n-(intOf i).toNat)
 case atStart=>exact⟨0,by omega,rfl,by show x ∉ _;simp⟩
 case round =>
  obtain⟨k,hk,rfl,H⟩:=hrel
  by_cases hlt:k<n
  ·obtain⟨s,hs⟩:∃s,vars[k]?=some s:=⟨_,List.getElem?_eq_getElem (by rw[HN.out];exact hlt)⟩
   obtain⟨g,o,rfl,hcx⟩:=hr.at_ (j:=k) (u:=.string s) (by rw[List.getElem?_map,hs];rfl)
   by_cases he:s=x
   ·subst he
    have hi:Hid (Lib.idxOfS vars s=(k:Int)):=AP hs H.out
    clear hs H hr
    go_wp2
    go_ret
    exact⟨by rw[hi.out];rfl,rfl⟩
   ·have hq:(s.toList == x.toList)=false:=by
     rw[beq_eq_false_iff_ne]
     intro h
     exact he ((Lib.bytes_beq_iff s x).1 (beq_iff_eq.2 h))
    have H2:Hid (x ∉ vars.take (k+1)):=by
     show x ∉ _
     rw[ai hs,List.mem_append]
     rintro(h|h)
     ·exact H.out h
     ·simp only[List.mem_cons,List.not_mem_nil,or_false]at h
      exact he h.symm
    clear hs H hr
    go_wp2
    exact⟨⟨k+1,by omega,by go_num,H2⟩,by simp[intOf];omega⟩
  ·obtain rfl:k=n:=by omega
   have hi:Hid (Lib.idxOfS vars x = -1):=by
    have h1:=dY vars x
    have h2:x ∉ vars:=λh=>H.out (by rw[List.take_of_length_le (by rw[HN.out];exact Nat.le_refl _)];exact h)
    have h3:¬ 0<=Lib.idxOfS vars x:=λh=>h2 ((Lib.idxOfS_nonneg_iff _ _).1 h)
    show _=_
    omega
   clear H hr
   go_wp2
   go_ret
   exact⟨by rw[hi.out];rfl,rfl⟩
open Um
theorem sd (n:Int) (w:World) :
  Calls Tryz.prog 238 #[.int .i64 n] w λe w'=>e=.returned (.bool (isB n))/\w=w':=by
 go_enter Tryz.func238,Tryz.ntmps238
 go_wp2
 all_goals
  go_ret
  refine⟨?_,rfl⟩
  simp[isB, *]
 all_goals omega
theorem zm (n:Int) (l:List Int) (A:Option Addr) (c:Nat) (w:World) (hl:l.length<=1000000) (hc:Rd w A (l.map (Value.int .i64))) :
  Calls Tryz.prog 198 #[.int .i64 n,.slice A l.length c] w λe w'=>e=.returned (.bool (inB n l))/\w=w':=by
 go_enter Tryz.func198,Tryz.ntmps198
 go_wp2
 go_loop [5] (λi=>∃k:Nat,k<=l.length+1/\i=.int .i64 k/\Hid (inB n (l.drop k)=inB n l)) (λi=>l.length+2-(intOf i).toNat)
 case atStart=>exact⟨0,by omega,rfl,rfl⟩
 case round =>
  obtain⟨k,hk,rfl,H⟩:=hrel
  by_cases hlt:k+1<l.length
  ·obtain⟨x,hx⟩:∃x,l[k]?=some x:=⟨_,List.getElem?_eq_getElem (by omega)⟩
   obtain⟨y,hy⟩:∃x,l[k+1]?=some x:=⟨_,List.getElem?_eq_getElem (by omega)⟩
   have hd:=nz n x y l k hx hy
   rw[H.out]at hd
   have Hd:=Lib.hid hd
   clear hd H
   obtain⟨g,o,rfl,hcc⟩:=hc.resolve_left (by intro h;simp at h;subst h;simp at hx)
   have h0:=hcc k (.int .i64 x) (by simp[hx])
   have h1:=hcc (k+1) (.int .i64 y) (by simp[hy])
   clear hx hy hc hcc
   go_wp2
   ·go_ret
    exact⟨by rw[Hd.out];simp[*],rfl⟩
   ·go_round
    case rel=>exact⟨k+2,by omega,by go_num,by show _=_;rw[Hd.out];simp;omega⟩
    case measure=>simp[intOf];omega
   ·go_round
    case rel=>exact⟨k+2,by omega,by go_num,by show _=_;rw[Hd.out];simp;omega⟩
    case measure=>simp[intOf];omega
  ·have he:=vY n l k hlt
   rw[H.out]at he
   have Hd:=Lib.hid he
   clear he H
   go_wp2
   go_ret
   exact⟨by rw[Hd.out];rfl,rfl⟩
theorem se (n:Int) (w:World) :
  Calls Tryz.prog 197 #[.int .i64 n] w λe w'=>e=.returned (.bool (cA n))/\Below w.heap.size w w':=by
 have hin:=λW hW=>zm n uH (some ⟨w.heap.size,0,none⟩) 28 W (by decide) hW
 go_enter Tryz.func197,Tryz.ntmps197
 go_wp2_with (go_at_call 198;refine(hin _ ?_).mono ?_;exact Rd.of_block (heap_alloc_new w _) rfl;rintro e w' ⟨rfl,rfl⟩)
 go_ret
 exact⟨rfl,(Below.refl _ _).alloc (Nat.le_refl _) _⟩
theorem xh (n:Int) (w:World) :
  Calls Tryz.prog 199 #[.int .i64 n] w λe w'=>e=.returned (.bool (cu n))/\Below w.heap.size w w':=by
 have hf:=se n w
 have hin:=λ(W:World) (g:Nat) hW=>zm n md (some ⟨g,0,none⟩) 14 W (by decide) hW
 unfold cu
 generalize cA n=b at hf
 go_enter Tryz.func199,Tryz.ntmps199
 cases b
 ·go_wp2_with (first
   | (go_at_call 197;refine hf.mono ?_;rintro e w1 ⟨rfl,hb⟩)
   | (go_at_call 198;refine(hin _ _ ?_).mono ?_;exact Rd.of_block (heap_alloc_new w1 _) rfl;rintro e w' ⟨rfl,rfl⟩))
  go_ret
  exact⟨by simp,hb.alloc hb.size _⟩
 ·go_wp2_with (first
   | (go_at_call 197;refine hf.mono ?_;rintro e w1 ⟨rfl,hb⟩))
  go_ret
  exact⟨by simp,hb⟩
theorem zp (n:Int) (w:World) (hn:isB n=true) :
  Calls Tryz.prog 239 #[.int .i64 n] w λe w'=>e=.returned (.slice (some ⟨w.heap.size,0,none⟩) (Lib.runeCells n).length (Lib.runeCells n).length) /\
   w'=w.alloc (.cells (Lib.runeCells n).toArray 5):=by
 rw[cd]at hn
 obtain⟨⟨h0,h9⟩,hs⟩:=hn
 by_cases c1:n<=127
 ·have e:=Lib.encodeRuneZ_one h0 c1
  unfold Lib.runeCells
  rw[e]
  clear e hs
  go_enter Tryz.func239,Tryz.ntmps239
  go_wp2
  go_ret
  exact⟨rfl,rfl⟩
 ·by_cases c2:n<=2047
  ·have e:=Lib.encodeRuneZ_two (by omega:128<=n) c2
   unfold Lib.runeCells
   rw[e]
   clear e hs
   go_enter Tryz.func239,Tryz.ntmps239
   go_wp2
   go_ret
   exact⟨rfl,rfl⟩
  ·by_cases c3:n<=65535
   ·have e:=Lib.encodeRuneZ_three (r:=n) (by omega)
    unfold Lib.runeCells
    rw[e]
    clear e hs
    go_enter Tryz.func239,Tryz.ntmps239
    go_wp2
    go_ret
    exact⟨rfl,rfl⟩
   ·have e:=Lib.encodeRuneZ_four (r:=n) (by omega) (by omega)
    unfold Lib.runeCells
    rw[e]
    clear e hs
    go_enter Tryz.func239,Tryz.ntmps239
    go_wp2
    go_ret
    exact⟨rfl,rfl⟩
def encS (n:Int):ByteArray:=⟨(Lib.encodeRune n).toArray⟩
theorem lA (n:Int):(encS n).toList=Lib.encodeRune n:=by unfold encS;rw[ByteArray.toList_mk]
theorem eI (n:Int) (w:World) (hn:isB n=true) :
  Calls Tryz.prog 239 #[.int .i64 n] w λe w'=>∃g,e=.returned (.slice (some ⟨g,0,none⟩) (Lib.runeCells n).length (Lib.runeCells n).length) /\
   Below w.heap.size w w'/\(∀W,Below w'.heap.size w' W->(convert 120 9 (.slice (some ⟨g,0,none⟩) (Lib.runeCells n).length (Lib.runeCells n).length)).run Tryz.prog W=.ok (.string (encS n)) W):=by
 refine(zp n w hn).mono ?_
 rintro e w' ⟨rfl,rfl⟩
 refine⟨_,rfl,(Below.refl _ _).alloc (Nat.le_refl _) _,?_⟩
 intro W hW
 have:=run_convert_bytes_arg (P:=Tryz.prog) W 120 5 Tryz.underlying120 Tryz.underlying5 w.heap.size 0
  (Lib.runeCells n).length (Lib.runeCells n).length (Lib.encodeRuneZ n) (by simp[Lib.runeCells]) ?_ 9 Tryz.underlying9
 ·rw[this]
  congr 2
 ·intro i hi
  have hb:(w.alloc (.cells (Lib.runeCells n).toArray 5)).heap[w.heap.size]?=some (.cells (Lib.runeCells n).toArray 5):=heap_alloc_new w _
  rw[←hW.block w.heap.size (by simp)]at hb
  simp only[World.cell?,hb,Nat.zero_add]
  simp[Lib.runeCells]at hi ⊢
  simp[hi]
theorem Db (s:ByteArray) (k:Nat) :
  ft (from_ s k) 1=bn s k/\ft (from_ s k) 2=64*(bn s k-192)+bn s (k+1)-128 /\
  ft (from_ s k) 3=64*(64*(bn s k-224)+bn s (k+1)-128)+bn s (k+2)-128 /\
  ft (from_ s k) 4=64*(64*(64*(bn s k-240)+bn s (k+1)-128)+bn s (k+2)-128)+bn s (k+3)-128:=by
 simp only[ft,from_,Dc,Nat.add_zero,and_self]
theorem Bp (l:List UInt8) (k:Nat) (_h1:1<=k) (hk:k<=l.length) (h:isB (ft l k)=true/\l.take k=Lib.encodeRune (ft l k)):nx l=((ft l k).toNat,k):=
 xF _ l h.1 k h.2 hk
theorem Da (l:List UInt8) (k:Nat) (h1:1<=k) (h:¬ (isB (ft l k)=true/\l.take k=Lib.encodeRune (ft l k))):(nx l).2≠k:=by
 intro e
 apply h
 have:=qF l (by omega)
 rw[e]at this
 rw[this.2.2.2.1]
 exact⟨this.1,this.2.2.1⟩
end Go.Proofs.YtoejnneknpoanaaGreatDoor
