/- The program's package utf, walked: Label. The program's pack -/
import Derived.Test.YtfcbghmbbjolcaaGreatDoorJUtfProg3
import Derived.Laws.EntriesVeiled
set_option maxHeartbeats 2000000
namespace Go.Proofs.YtfcbghmbbjolcaaGreatDoor
open Go Go.RowKit Um
def bOf:Value->Nat
 | .bool true=>1
 | _=>0
def CG:Bool->Value
 | true=>.func (.func 293) #[] #[]
 | false=>.func (.func 295) #[] #[]
theorem CW {l:List UInt8} {k d x best:Nat} (h:bC l false (k+d) (if x=46 then best else k+d)):(((x:Int) != 46)=true->bC l false (k+d) (k+d))/\(((x:Int) != 46)=false->bC l false (k+d) best):=by
 constructor
 ·intro hx
  have h2:¬ x=46:=by rw[bne_iff_ne]at hx;omega
  rwa [if_neg h2]at h
 ·intro hx
  have h2:x=46:=by simp at hx;omega
  rwa [if_pos h2]at h
theorem fe {S k d d1:Nat} (h:k+d+d1<=S) (_h0:¬ d=0):2*(S-(k+d+d1))+bOf (.bool (decide (0<d1)))<2*(S-(k+d))+bOf (.bool true):=by
 by_cases h1:d1=0
 ·subst h1;simp[bOf]
 ·have:bOf (.bool (decide (0<d1)))<=1:=by simp[show 0<d1 by omega,bOf]
  simp only[bOf]at *;omega
theorem AV (s:ByteArray) (w:World) (hC:Ctx w) (hs:s.size<=281474976710656) :
  Calls Tryz.prog 260 #[.string s] w λe w'=>e=.returned (.int .i64 (jS s.data.toList))/\Below w.heap.size w w':=by
 have hsz:s.data.toList.length=s.size:=ar s
 have Hsz:=Lib.hid hsz
 clear hsz
 have hC1:=hC.step ((Below.refl _ _).alloc (Nat.le_refl _) (.cells #[.string s,.int .i64 0] 336))
 have hn0:=xY s 0 w.heap.size (w.alloc (.cells #[.string s,.int .i64 0] 336)) hC1 (heap_alloc_new w _) (by omega) hs
 have hk0:(nx (from_ s 0)).2<=s.size:=by
  by_cases h0:(nx (from_ s 0)).2=0
  ·omega
  ·have:=(jL s 0 h0).1;omega
 obtain⟨x0,hx0⟩:∃x,(nx (from_ s 0)).1=x:=⟨_,rfl⟩
 obtain⟨d0,hd0⟩:∃x,(nx (from_ s 0)).2=x:=⟨_,rfl⟩
 rw[hx0,hd0]at hn0
 rw[hd0]at hk0
 have Hx0:=Lib.hid hx0
 have Hd0:=Lib.hid hd0
 clear hx0 hd0 hC1
 go_enter Tryz.func260,Tryz.ntmps260
 go_wp2_with (go_at_call 294;refine hn0.mono ?_;rintro e w1 ⟨rfl,hg1,hc1⟩;have hB1:Below w.heap.size w w1:=below_grown ((Below.refl _ _).alloc (Nat.le_refl _) _) hg1 (by simp) (Nat.le_refl _))
 go_loopw [2,4,5,6] (λb may r is wr=>∃k best d x:Nat,∃st:Bool,k+d<=s.size/\b=.int .i64 best/\may=CG st/\r=.int .i32 x/\is=.bool (decide (0<d))/\cE wr w.heap.size s (k+d)/\Below w.heap.size w wr/\Hid ((nx (from_ s k)).1=x/\(nx (from_ s k)).2=d/\bC s.data.toList st k best))
  (λ_ _ _ is wr=>2*(s.size-(intOf ((wr.cell? ⟨w.heap.size,1,none⟩).getD undef)).toNat)+bOf is)
 case atStart=>exact⟨0,0,d0,x0,true,by omega,rfl,rfl,rfl,by simp,by simpa using hc1,hB1,Hx0.out,Hd0.out,iM _⟩
 case round =>
  clear hn0 Hx0 Hd0 hc1 hg1 hB1
  obtain⟨k,best,d,x,st,hkd,rfl,rfl,rfl,rfl,hcu,hB,H⟩:=hrel
  have f0:=hcu.c0
  have f1:=hcu.c1
  obtain⟨hx,hd,hL⟩:=H.out
  by_cases h0:d=0
  ·have hres:=Lib.hid (gI hL (.inr (by rw[show s.data.toList.drop k=from_ s k from rfl,hd];exact h0)))
   have hz:decide (0<d)=false:=by simp;omega
   rw[hz]
   clear hx hd hL h0 H hz
   go_wp2
   go_ret
   exact⟨by rw[hres.out];rfl,hB⟩
  ·have hz:decide (0<d)=true:=by simp;omega
   have hout:=lE hL
   have hgo:=nW hL (by rw[Hsz.out];omega) (by rw[show s.data.toList.drop k=from_ s k from rfl,hd];exact h0)
   rw[show s.data.toList.drop k=from_ s k from rfl,hx]at hout hgo
   rw[hd]at hgo
   have Hout:=Lib.hid hout
   have Hgo:=Lib.hid hgo
   clear hout hgo hx hd hL H
   have hme:((intOf ((wr.cell? ⟨w.heap.size,1,none⟩).getD undef)).toNat)=k+d:=by rw[hcu.c1];simp[intOf];omega
   have Hme:=Lib.hid hme
   clear hme
   have hbe:=λW=>pA (x:Int) W
   have hla:=λW=>yr (x:Int) W
   have hnn:=λW h1 h2=>xY s (k+d) w.heap.size W h1 h2 (by omega) hs
   have hn1:(k+d)+(nx (from_ s (k+d))).2<=s.size:=by
    by_cases h0:(nx (from_ s (k+d))).2=0
    ·omega
    ·exact(jL s (k+d) h0).1
   obtain⟨x1,hx1⟩:∃y,(nx (from_ s (k+d))).1=y:=⟨_,rfl⟩
   obtain⟨d1,hd1⟩:∃y,(nx (from_ s (k+d))).2=y:=⟨_,rfl⟩
   rw[hx1,hd1]at hnn
   rw[hd1]at hn1
   have H1:=Lib.hid (show (nx (from_ s (k+d))).1=x1/\(nx (from_ s (k+d))).2=d1 from ⟨hx1,hd1⟩)
   clear hx1 hd1
   rw[hz]
   clear hz
   cases hm:tK st x with
   | false =>
    have hres:=Lib.hid (Hout.out hm)
    clear Hout Hgo hnn
    cases st with
    | true =>
     rw[show cX x=false from hm]at hbe
     clear hm
     rw[show CG true=.func (.func 293) #[] #[] from rfl]
     go_wp2_with (go_at_call 293;refine(hbe _).mono ?_;rintro e w2 ⟨rfl,hb2⟩)
     go_ret
     exact⟨by rw[hres.out];rfl,hB.trans (hb2.mono hB.size)⟩
    | false =>
     rw[hm]at hla
     clear hm
     rw[show CG false=.func (.func 295) #[] #[] from rfl]
     go_wp2_with (go_at_call 295;refine(hla _).mono ?_;rintro e w2 ⟨rfl,hb2⟩)
     go_ret
     exact⟨by rw[hres.out];rfl,hB.trans (hb2.mono hB.size)⟩
   | true =>
    have hL2:=CW (Hgo.out hm)
    have HL2:=Lib.hid hL2
    clear hL2 Hout Hgo
    cases st with
    | true =>
     rw[show cX x=true from hm]at hbe
     clear hm
     rw[show CG true=.func (.func 293) #[] #[] from rfl]
     go_wp2_with (first
      | (go_at_call 293;refine(hbe _).mono ?_;rintro e w2 ⟨rfl,hb2⟩;have hB2:=hB.trans (hb2.mono hB.size);have hcu2:=hcu.below hb2 (Nat.le_refl _);have hC2:=hC.step hB2;have f4:=hcu2.c0;have f5:=hcu2.c1;have f6:=hB2.size)
      | (go_at_call 294;refine(hnn _ ?_ ?_).mono ?_;exact hC2;exact hcu2;rintro e w3 ⟨rfl,hg3,hc3⟩;have hB3:=below_grown hB2 hg3 f6 (Nat.le_refl _)))
     ·have hx:((x:Int) != 46)=true:=by assumption
      have hl:=HL2.out.1 hx
      have hme2:((intOf ((w3.cell? ⟨w.heap.size,1,none⟩).getD undef)).toNat)=k+d+d1:=by rw[hc3.c1];simp[intOf];omega
      go_roundw
      case rel=>exact⟨k+d,k+d,d1,x1,false,hn1,by go_num,rfl,rfl,by simp,hc3,hB3,H1.out.1,H1.out.2,hl⟩
      case measure =>
       simp only[hme2,Hme.out]
       exact fe hn1 h0
     ·have hx:((x:Int) != 46)=false:=by assumption
      have hl:=HL2.out.2 hx
      have hme2:((intOf ((w3.cell? ⟨w.heap.size,1,none⟩).getD undef)).toNat)=k+d+d1:=by rw[hc3.c1];simp[intOf];omega
      go_roundw
      case rel=>exact⟨k+d,best,d1,x1,false,hn1,by rfl,rfl,rfl,by simp,hc3,hB3,H1.out.1,H1.out.2,hl⟩
      case measure =>
       simp only[hme2,Hme.out]
       exact fe hn1 h0
    | false =>
     rw[hm]at hla
     clear hm
     rw[show CG false=.func (.func 295) #[] #[] from rfl]
     go_wp2_with (first
      | (go_at_call 295;refine(hla _).mono ?_;rintro e w2 ⟨rfl,hb2⟩;have hB2:=hB.trans (hb2.mono hB.size);have hcu2:=hcu.below hb2 (Nat.le_refl _);have hC2:=hC.step hB2;have f4:=hcu2.c0;have f5:=hcu2.c1;have f6:=hB2.size)
      | (go_at_call 294;refine(hnn _ ?_ ?_).mono ?_;exact hC2;exact hcu2;rintro e w3 ⟨rfl,hg3,hc3⟩;have hB3:=below_grown hB2 hg3 f6 (Nat.le_refl _)))
     ·have hx:((x:Int) != 46)=true:=by assumption
      have hl:=HL2.out.1 hx
      have hme2:((intOf ((w3.cell? ⟨w.heap.size,1,none⟩).getD undef)).toNat)=k+d+d1:=by rw[hc3.c1];simp[intOf];omega
      go_roundw
      case rel=>exact⟨k+d,k+d,d1,x1,false,hn1,by go_num,rfl,rfl,by simp,hc3,hB3,H1.out.1,H1.out.2,hl⟩
      case measure =>
       simp only[hme2,Hme.out]
       exact fe hn1 h0
     ·have hx:((x:Int) != 46)=false:=by assumption
      have hl:=HL2.out.2 hx
      have hme2:((intOf ((w3.cell? ⟨w.heap.size,1,none⟩).getD undef)).toNat)=k+d+d1:=by rw[hc3.c1];simp[intOf];omega
      go_roundw
      case rel=>exact⟨k+d,best,d1,x1,false,hn1,by rfl,rfl,rfl,by simp,hc3,hB3,H1.out.1,H1.out.2,hl⟩
      case measure =>
       simp only[hme2,Hme.out]
       exact fe hn1 h0
theorem decode_high (t:ByteArray) (pos:Nat) (h:128<=(t.get! pos).toNat):128<=(Utf8.decode t pos).1:=by
 rw[Lib.decode_at]
 unfold Lib.decodeN
 repeat' split
 all_goals simp only
 all_goals omega
theorem wJ (t:ByteArray) (pos:Nat) (h:(t.get! pos).toNat<128):Utf8.decode t pos=((t.get! pos).toNat,1):=by
 rw[Lib.decode_at,Jq _ _ _ _ _ h]
theorem iN (q:Int->Bool) (hq:∀x:Nat,128<=x->q x=false) (t:ByteArray):∀f pos,t.size<=pos+f->pos<=t.size ->
  Lib.idxFuncFrom (λx => !q x) true t f pos=if pos+span q (t.data.toList.drop pos)<t.size then ((pos+span q (t.data.toList.drop pos):Nat):Int) else -1
 | 0,pos,h,h2=>by
  have hp:pos=t.size:=by omega
  rw[jt _ _ _ (by rw[ar];omega),if_neg (by omega)]
  rfl
 | f+1,pos,h,h2=>by
  unfold Lib.idxFuncFrom
  by_cases hlt:pos<t.size
  ·rw[if_pos hlt]
   have hb:(t.get! pos).toNat=bn t pos:=by rw[get!_getD];rfl
   rw[fA _ _ _ (by rw[ar];exact hlt),fW]
   by_cases hlow:bn t pos<128
   ·rw[wJ t pos (by omega),hb]
    simp only
    cases hqb:q (bn t pos) with
    | true =>
     simp only[Bool.not_true,Bool.false_eq_true,if_false,if_true]
     rw[iN q hq t f (pos+1) (by omega) (by omega)]
     rw[show pos+1+span q (List.drop (pos+1) t.data.toList)=pos+(span q (List.drop (pos+1) t.data.toList)+1) by omega]
    | false =>
     simp only[Bool.not_false,if_true,Bool.false_eq_true,if_false,Nat.add_zero,if_pos hlt]
   ·have hq1:=hq _ (decode_high t pos (by omega))
    have hq2:=hq (bn t pos) (by omega)
    simp only[hq1,hq2,Bool.not_false,if_true,Bool.false_eq_true,if_false,Nat.add_zero,if_pos hlt]
  ·rw[if_neg hlt,jt _ _ _ (by rw[ar];omega),if_neg (by omega)]
theorem Dc (q:Int->Bool) (hq:∀x:Nat,128<=x->q x=false) (t:ByteArray) :
  Lib.idxFunc (λx => !q x) true t=if span q t.data.toList<t.size then (span q t.data.toList:Int) else -1:=by
 have:=iN q hq t t.size 0 (by omega) (by omega)
 simpa[Lib.idxFunc] using this
theorem wR (x:Nat) (h:128<=x):aM x=false:=by
 simp[aM,inB];omega
theorem wS (x:Nat) (h:128<=x):aO x=false:=by
 simp[aO,aM,dt,inB];omega
theorem wY (r:Int) (w:World) :
  Calls Tryz.prog 297 #[.int .i32 r] w λe w'=>e=.returned (.bool (aM r))/\Below w.heap.size w w':=by
 have ha:=λ(g:Nat) (W:World) h=>Ec r [65,90,97,122] 2 (some ⟨g,0,none⟩) 2 W rfl (by decide) h
 rw[show aM r=inB r [65,90,97,122] from rfl]
 generalize inB r [65,90,97,122]=q at ha
 go_enter Tryz.func297,Tryz.ntmps297
 go_wp2_with (go_at_call 298;refine(ha _ _ ?_).mono ?_;exact Rd.of_block (heap_alloc_new w _) rfl;rintro e w2 ⟨rfl,hb2⟩)
 go_ret
 exact⟨rfl,((Below.refl _ _).alloc (Nat.le_refl _) _).trans (hb2.mono (by simp))⟩
theorem Er (r:Int) (p:Addr) (w:World) (hp:w.cell? p=some (.func (.func 297) #[] #[])) :
  Calls Tryz.prog 300 #[.int .i32 r,.pointer (some p)] w λe w'=>e=.returned (.bool (aO r))/\Below w.heap.size w w':=by
 have h1:=wY r w
 have h2:=λW=>sC r W
 rw[show aO r=(aM r || dt r) from rfl]
 generalize aM r=q1 at h1
 generalize dt r=q2 at h2
 go_enter Tryz.func300,Tryz.ntmps300
 cases q1
 ·go_wp2_with (first
   | (go_at_call 297;refine h1.mono ?_;rintro e w1 ⟨rfl,hb⟩)
   | (go_at_call 301;refine(h2 _).mono ?_;rintro e w2 ⟨rfl,hb2⟩))
  go_ret
  exact⟨by simp,hb.trans (hb2.mono hb.size)⟩
 ·go_wp2_with (go_at_call 297;refine h1.mono ?_;rintro e w1 ⟨rfl,hb⟩)
  go_ret
  exact⟨by simp,hb⟩
theorem Es (g:Nat) (lb:Array Value) (q:Bool) (r:Int) (p:Addr) (w:World) (eg:∀args w,(callFunc g args).run Tryz.prog w=.ok (.enter g args) w)
  (hp:w.cell? p=some (.func (.func g) #[] lb)) (hg:Calls Tryz.prog g (#[.int .i32 r]++lb) w λe w'=>e=.returned (.bool q)/\Below w.heap.size w w') :
  Calls Tryz.prog 334 #[.int .i32 r,.pointer (some p)] w λe w'=>e=.returned (.bool (!q))/\Below w.heap.size w w':=by
 go_enter Tryz.func334,Tryz.ntmps334
 go_wp2_with fail
 refine hg.mono ?_
 rintro e w1 ⟨rfl,hb⟩
 go_wp2_with fail
 go_ret
 exact⟨rfl,hb⟩
theorem uB:∀args w,(callFunc 334 args).run Tryz.prog w=.ok (.enter 334 args) w:=Go.Proofs.enters_of Tryz.func334 (by kernel_rfl) rfl
theorem uA:∀args w,(callFunc 297 args).run Tryz.prog w=.ok (.enter 297 args) w:=Go.Proofs.enters_of Tryz.func297 (by kernel_rfl) rfl
theorem uz:∀args w,(callFunc 300 args).run Tryz.prog w=.ok (.enter 300 args) w:=Go.Proofs.enters_of Tryz.func300 (by kernel_rfl) rfl
theorem AU (g:Nat) (lb:Array Value) (q:Int->Bool) (hq:∀x:Nat,128<=x->q x=false) (s:ByteArray) (k:Nat) (w:World) (eg:∀args w,(callFunc g args).run Tryz.prog w=.ok (.enter g args) w)
  (hk:k<=s.size) (hs:s.size<=281474976710656)
  (hg:∀W (x:Nat),Below w.heap.size w W->Calls Tryz.prog g (#[.int .i32 x]++lb) W λe w'=>e=.returned (.bool (q x))/\Below W.heap.size W w') :
  Calls Tryz.prog 299 #[.string s,.int .i64 k,.func (.func g) #[] lb] w λe w'=>e=.returned (.int .i64 (span q (from_ s k)))/\Below w.heap.size w w':=by
 have hidx:=dX 334 #[.pointer (some ⟨w.heap.size,0,none⟩)] uB (λx => !q x) (s.extract k s.size) (w.alloc (.cells #[.func (.func g) #[] lb] 216))
  (λW x _ hb=>by
   have hb0:Below w.heap.size w W:=((Below.refl _ _).alloc (Nat.le_refl _) _).trans (hb.mono (by simp))
   refine Es g lb (q x) x ⟨w.heap.size,0,none⟩ W eg ?_ (hg W x hb0)
   rw[hb.cell (p:=⟨w.heap.size,0,none⟩) (by simp)]
   exact World.cell?_alloc_new _ _ _ 0)
 rw[Dc q hq]at hidx
 have hl:(s.extract k s.size).data.toList=from_ s k:=by
  rw[extract_toList,from_,List.take_of_length_le]
  simp
 have hsz:(s.extract k s.size).size=s.size-k:=by simp[ByteArray.size_extract]
 rw[hl,hsz]at hidx
 have hle:=qL q (from_ s k)
 rw[cZ]at hle
 generalize span q (from_ s k)=m at hidx hle
 clear hl hsz hg eg
 by_cases h:m<s.size-k
 ·rw[if_pos h]at hidx
  go_enter Tryz.func299,Tryz.ntmps299
  go_wp2_with (go_at_call 168;refine hidx.mono ?_;rintro e w1 ⟨rfl,hb⟩)
  go_ret
  exact⟨rfl,((Below.refl _ _).alloc (Nat.le_refl _) _).trans (hb.mono (by simp))⟩
 ·rw[if_neg h]at hidx
  have he:(s.size:Int)-k=m:=by omega
  have He:=Lib.hid he
  clear he
  go_enter Tryz.func299,Tryz.ntmps299
  go_wp2_with (go_at_call 168;refine hidx.mono ?_;rintro e w1 ⟨rfl,hb⟩)
  go_ret
  exact⟨by rw[←He.out];rfl,((Below.refl _ _).alloc (Nat.le_refl _) _).trans (hb.mono (by simp))⟩
theorem GF (s:ByteArray) (w:World) (hs:s.size<=281474976710656) :
  Calls Tryz.prog 261 #[.string s] w λe w'=>e=.returned (.int .i64 (tag s.data.toList))/\Below w.heap.size w w':=by
 have hsz:s.data.toList.length=s.size:=ar s
 have Hsz:=Lib.hid hsz
 clear hsz
 have hr0:=AU 297 #[] aM wR s 0 (w.alloc (.cells #[.func (.func 297) #[] #[]] 216)) uA (by omega) hs (λW x _=>wY x W)
 rw[show from_ s 0=s.data.toList from rfl,show (((0:Nat)):Int)=0 from rfl]at hr0
 have hle:=qL aM s.data.toList
 rw[Hsz.out]at hle
 have hT:di s.data.toList (span aM s.data.toList):=rfl
 have HT:=Lib.hid hT
 clear hT
 have hcell:(w.alloc (.cells #[.func (.func 297) #[] #[]] 216)).cell? ⟨w.heap.size,0,none⟩=some (.func (.func 297) #[] #[]):=World.cell?_alloc_new _ _ _ 0
 have Hcell:=Lib.hid hcell
 clear hcell
 generalize span aM s.data.toList=n0 at hr0 hle HT
 go_enter Tryz.func261,Tryz.ntmps261
 go_wp2_with (go_at_call 299;refine hr0.mono ?_;rintro e w1 ⟨rfl,hb⟩)
 clear hr0
 go_loopw [4] (λi wr=>∃n:Nat,n<=s.size/\i=.int .i64 n/\Below w.heap.size w wr/\w.heap.size<wr.heap.size/\wr.cell? ⟨w.heap.size,0,none⟩=some (.func (.func 297) #[] #[])/\Hid (di s.data.toList n)) (λi _=>s.size-(intOf i).toNat)
 case atStart=>exact⟨n0,hle,rfl,((Below.refl _ _).alloc (Nat.le_refl _) _).trans (hb.mono (by simp)),by have:=hb.size;simp at this;omega,by rw[hb.cell (p:=⟨w.heap.size,0,none⟩) (by simp)];exact Hcell.out,HT⟩
 case round =>
  clear HT hle hb Hcell
  obtain⟨n,hn,rfl,hB,hhs,hc,HT⟩:=hrel
  have hbn:=gh s n
  have hout:=λh=>eX HT.out h
  have hgo:=λh=>iV HT.out h
  rw[Hsz.out,fW]at hout hgo
  have Hout:=Lib.hid hout
  have Hgo:=Lib.hid hgo
  clear hout hgo HT
  by_cases h0:0<n
  case' neg =>
   have Hres:=Lib.hid (Hout.out (λh=>h0 h.1))
   go_wp2
   go_ret
   exact⟨by rw[Hres.out];rfl,hB⟩
  by_cases h1:n<s.size
  case' neg =>
   have Hres:=Lib.hid (Hout.out (λh=>h1 h.2.1))
   go_wp2
   go_ret
   exact⟨by rw[Hres.out];rfl,hB⟩
  by_cases h2:bn s n=45
  case' neg =>
   have Hres:=Lib.hid (Hout.out (λh=>h2 h.2.2.1))
   have h3:((bn s n:Int) == 45)=false:=by simp;omega
   clear h2
   go_wp2
   go_ret
   exact⟨by rw[Hres.out];rfl,hB⟩
  have h3:((bn s n:Int) == 45)=true:=by simp;omega
  have H2:=Lib.hid h2
  clear h2
  have hrun:=λW (hW:Below wr.heap.size wr W)=>AU 300 #[.pointer (some ⟨w.heap.size,0,none⟩)] aO wS s (n+1) W uz (by omega) hs
   (λW' x hb'=>Er x ⟨w.heap.size,0,none⟩ W' (by rw[hb'.cell (p:=⟨w.heap.size,0,none⟩) (Nat.lt_of_lt_of_le hhs hW.size),hW.cell (p:=⟨w.heap.size,0,none⟩) hhs];exact hc))
  have hle:=qL aO (from_ s (n+1))
  rw[cZ]at hle
  by_cases hz:span aO (from_ s (n+1))=0
  ·have Hres:=Lib.hid (Hout.out (λh=>h.2.2.2 hz))
   rw[hz]at hrun
   clear hz Hout Hgo hle
   have e1:(n:Int)+1=((n+1:Nat):Int):=by omega
   have hrun2:=hrun wr (Below.refl _ _)
   rw[←e1]at hrun2
   clear hrun e1
   go_wp2_with (go_at_call 299;refine hrun2.mono ?_;rintro e w2 ⟨rfl,hb2⟩)
   go_ret
   exact⟨by rw[Hres.out];rfl,hB.trans (hb2.mono hB.size)⟩
  ·have Hr:=Lib.hid (Hgo.out ⟨h0,h1,H2.out,hz⟩)
   clear Hout Hgo
   rw[show List.drop (n+1) s.data.toList=from_ s (n+1) from rfl]at Hr
   have hrun2:=hrun wr (Below.refl _ _)
   have e1:(n:Int)+1=((n+1:Nat):Int):=by omega
   rw[←e1]at hrun2
   clear hrun e1
   generalize span aO (from_ s (n+1))=m at *
   have hz1:((m:Int) == 0)=false:=by simp;omega
   go_wp2_with (go_at_call 299;refine hrun2.mono ?_;rintro e w2 ⟨rfl,hb2⟩)
   go_roundw
   case rel=>exact⟨n+1+m,by omega,by congr 1;omega,hB.trans (hb2.mono hB.size),by have:=hb2.size;omega,by rw[hb2.cell (p:=⟨w.heap.size,0,none⟩) hhs];exact hc,Hr⟩
   case measure=>simp[intOf];omega
end Go.Proofs.YtfcbghmbbjolcaaGreatDoor
