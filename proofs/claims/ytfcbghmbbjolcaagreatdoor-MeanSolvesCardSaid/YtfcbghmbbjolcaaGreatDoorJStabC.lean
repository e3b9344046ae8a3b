/- slices' symMergeCmpFunc, whole, at rows of slices; stableCmp -/
import Derived.Test.YtfcbghmbbjolcaaGreatDoorJShelf4
import Derived.Deep.CutRange
namespace Go.Proofs.YtfcbghmbbjolcaaGreatDoor
open Go Go.Shelf Go.RowKit Go.Lib Go.Sort Sy
variable {α:Type} [Inhabited α]
theorem fb {lt:α->α->Bool} {d:Array α} {a m b:Nat} (h:m<=a∨b<=m) (h1:a<=m) (h2:m<=b):Merged lt d a m b d:=by
 refine⟨permIn_refl _ _ _,λhl hr=>?_⟩
 rcases h with h|h
 ·obtain rfl:a=m:=by omega
  exact hr
 ·obtain rfl:m=b:=by omega
  exact hl
theorem ql {lt:α->α->Bool} (hS:SWO lt) {d d1 d2 D:Array α} {a s mid m e b:Nat} (hb:b<=d.size) (h1:a<=s) (h2:s<=m) (h3:m<=e) (h4:e<=b) (hm:s+(e-m)=mid) (hsm:s<=mid) (hme:mid<=e)
  (f1:s=a∨e=b∨lt d[e]! d[s-1]! = false) (f2:s=m∨e=m∨lt d[e-1]! d[s]! = true) (h:Rot d d1 s m e/\PermIn s e d d1)
  (hP:Merged lt d1 a s mid d2) (hQ:Merged lt d2 mid e b D):Merged lt d a m b D:=by
 have z1:d1.size=d.size:=h.1.1
 have z2:d2.size=d1.size:=hP.1.1
 refine⟨permIn_trans _ _ _ _ _ (permIn_mono _ _ s e a b h1 h4 hb h.2) (permIn_trans _ _ _ _ _ (permIn_mono _ _ a mid a b (Nat.le_refl _) (by omega) (by omega) hP.1) (permIn_mono _ _ mid b a b (by omega) (Nat.le_refl _) (by omega) hQ.1)),λhl hr=>?_⟩
 exact(Be hS hl hr hb h1 h2 h3 h4 hm f1 f2 h.1 h.2 hP.1 hP.2 hQ.1 hQ.2).2
set_option maxHeartbeats 8000000 in
set_option maxRecDepth 1000000 in
theorem EF (enc:α->Value) (cf:α->α->Int) (hO:SWO (ltOf cf)) (F:Nat) (cb:Array Value) (blk off cap a m b:Nat) (d0 d:Array α) (w0 w:World) (eg:∀args w,(callFunc F args).run Tryz.prog w=.ok (.enter F args) w)
  (hcmp:CmpLays1 Tryz.prog F cb enc cf blk off d0.size w0) (R:Row1 enc w0 blk off d0) (hs:d0.size=d.size) (S:SW enc w0 blk off d w) (ham:a+1<m) (hmb:m+1<b) (hb:b<=d.size) (hsz:d.size<2305843009213693952)
  (IH:∀(a' m' b':Nat) (d':Array α) (w':World),b'-a'<b-a->d0.size=d'.size->SW enc w0 blk off d' w'->a'<m'->m'<b'->b'<=d'.size ->
   Calls Tryz.prog 192 #[.slice (some ⟨blk,off,none⟩) d'.size cap,.int .i64 a',.int .i64 m',.int .i64 b',.func (.func F) #[] cb] w' (pu enc w0 blk off (Merged (ltOf cf) d' a' m' b'))) :
  Calls Tryz.prog 192 #[.slice (some ⟨blk,off,none⟩) d.size cap,.int .i64 a,.int .i64 m,.int .i64 b,.func (.func F) #[] cb] w (pu enc w0 blk off (Merged (ltOf cf) d a m b)):=by
 have mixed:Tryz.prog.follows Departure.mixedOrders=true:=by kernel_rfl
 have hcl0:=R.hO.cells
 simp only[Value.cells]at hcl0
 have hst:=R.hO.store Tryz.prog
 have HC:Aside _:=hcmp
 have S0:Aside (SW enc w0 blk off d w):=S
 have eq1:(((m:Int)-(a:Int)) == 1)=false:=by rw[beq_eq_false_iff_ne];omega
 have eq2:(((b:Int)-(m:Int)) == 1)=false:=by rw[beq_eq_false_iff_ne];omega
 obtain⟨mid,hm,emid⟩:∃mid:Nat,mid=(a+b) / 2/\((a:Int)+(b:Int)) / 2=(mid:Int):=⟨(a+b) / 2,rfl,by omega⟩
 have HMid:=Lib.hid hm
 have hm1:a<mid:=by omega
 have hm2:mid<b:=by omega
 have hIH:Hid (∀(a' m' b':Nat) (d':Array α) (w':World),b'-a'<b-a->d0.size=d'.size->SW enc w0 blk off d' w'->a'<m'->m'<b'->b'<=d'.size ->
   Calls Tryz.prog 192 #[.slice (some ⟨blk,off,none⟩) d'.size cap,.int .i64 a',.int .i64 m',.int .i64 b',.func (.func F) #[] cb] w' (pu enc w0 blk off (Merged (ltOf cf) d' a' m' b'))):=IH
 obtain⟨s0,r0,HC0,hc1,q1⟩:∃s0 r0:Nat,Hid ((mid<m/\s0=mid+m-b/\r0=mid)∨(m<=mid/\s0=a/\r0=m))/\s0<=r0/\((decide ((m:Int) > (mid:Int))=true/\(mid:Int)<(m:Int)/\(mid:Int)+(m:Int)-(b:Int)=(s0:Int)/\r0=mid)∨(decide ((m:Int) > (mid:Int))=false/\¬ (mid:Int)<(m:Int)/\s0=a/\r0=m)):=by
  by_cases h:mid<m
  ·exact⟨mid+m-b,mid,.inl ⟨h,rfl,rfl⟩,by omega,.inl ⟨by simpa using h,by omega,by omega,rfl⟩⟩
  ·exact⟨a,m,.inr ⟨by omega,rfl,rfl⟩,by omega,.inr ⟨by simpa using h,by omega,rfl,rfl⟩⟩
 have hr0:r0<=m:=by rcases HC0.out with h|h<;>omega
 clear S hcmp IH hm
 rcases q1 with ⟨q1,q2,q3,q4⟩|⟨q1,q2,q3,q4⟩
 ·have H3:Hid ((s0:Int)=(s0:Int)):=rfl
  have H4:=Lib.hid q4
  clear q4
  go_enter Tryz.func192,Tryz.ntmps192
  go_wp2
  go_loopg [20,21,23] b (λg1 vi vj vh wr=>∃(s r:Nat),vi=.int .i64 s/\vj=.int .i64 r/\s0<=s/\s<=r/\r<=r0/\r-s<=g1/\Aside (SW enc w0 blk off d wr)/\Hid (dZ (ltOf cf) d (mid+m) s0 r0 s r))
  case atStart=>exact⟨s0,r0,by first|rfl|rw[H3.out],by rw[H4.out],by omega,by omega,by omega,by omega,S0,ju d (by omega)⟩
  case round =>
   clear S0 q1 q2 H3 H4
   obtain⟨s,r,rfl,rfl,hs0,hsr,hr,hg,S1,E1⟩:=hrel
   by_cases hlt:s<r
   ·have hltz:(s:Int)<(r:Int):=by omega
    obtain⟨c,hsc,hcr,ec⟩:∃c:Nat,s<=c/\c<r/\((s:Int)+(r:Int)) / 2=(c:Int):=⟨(s+r) / 2,by omega,by omega,by omega⟩
    obtain⟨i1,i2,i3,i4⟩:=mE (c:=c) HMid.out (by omega) (by omega) (by omega) HC0.out (by omega) (by omega)
    obtain⟨qq,hq,eq9⟩:∃qq:Nat,mid+m-1-c=qq/\(mid:Int)+(m:Int)-1-(c:Int)=(qq:Int):=⟨mid+m-1-c,rfl,by omega⟩
    rw[hq]at i3 i4
    have eqw:IntKind.i64.wrap ((mid:Int)+(m:Int)-1-(c:Int))=(qq:Int):=by rw[IntKind.wrap_i64];omega
    have HQ:=Lib.hid hq
    clear hq
    cases hlv:(ltOf cf) d[qq]! d[c]! with
    | false =>
     have E2:Hid (dZ (ltOf cf) d (mid+m) s0 r0 (c+1) r):=pN E1.out hsc hcr (by rw[HQ.out];exact hlv)
     obtain⟨iN2,hiN2⟩:∃q,q=qq:=⟨_,rfl⟩
     obtain⟨jN2,hjN2⟩:∃q,q=c:=⟨_,rfl⟩
     have ea2:((qq:Int)).toNat=iN2:=by omega
     have pa2:(0:Int)<=(qq:Int):=by omega
     have ba2:(qq:Int)<(d.size:Int):=by omega
     have ra2:IntKind.i64.wrap ((qq:Int))=(qq:Int):=by rw[IntKind.wrap_i64];omega
     have ec2:((c:Int)).toNat=jN2:=by omega
     have pc2:(0:Int)<=(c:Int):=by omega
     have bc2:(c:Int)<(d.size:Int):=by omega
     have rc2:IntKind.i64.wrap ((c:Int))=(c:Int):=by rw[IntKind.wrap_i64];omega
     obtain⟨x2,hx2⟩:∃x,x=d[qq]!:=⟨_,rfl⟩
     obtain⟨y2,hy2⟩:∃x,x=d[c]!:=⟨_,rfl⟩
     have l2a:=S1.out.cl R (by omega) (qq) (by omega)
     have l2b:=S1.out.cl R (by omega) (c) (by omega)
     rw[←hx2,←hiN2]at l2a
     rw[←hy2,←hjN2]at l2b
     have hc2:=S1.out.cmp HC.out (by omega) x2 y2
     have hv2:¬ cf x2 y2<0:=by rw[hx2,hy2];exact of_decide_eq_false hlv
     have hd2:decide (cf x2 y2<0)=false:=decide_eq_false hv2
     clear hx2 hy2 hiN2 hjN2
     go_wp2_with fail
     go_quiet_grown (first|(go_at_fn F;refine Calls.grown_of (hc2 _ _)))
     have S2:Aside (SW enc w0 blk off d (grow (wr.drewN nq) osq)):=S1.out.grown nq osq
     clear l2a l2b hc2 S1
     generalize grow (wr.drewN nq) osq=w2 at S2 ⊢
     clear nq osq
     clear ea2 ec2
     clear hlv E1
     go_wp2
     go_roundg (r-(c+1))
     case measure=>omega
     case rel=>exact⟨c+1,r,by go_num,rfl,by omega,by omega,by omega,by omega,S2,E2⟩
    | true =>
     have E2:Hid (dZ (ltOf cf) d (mid+m) s0 r0 s c):=lq E1.out hsc hcr (by rw[HQ.out];exact hlv)
     obtain⟨iN3,hiN3⟩:∃q,q=qq:=⟨_,rfl⟩
     obtain⟨jN3,hjN3⟩:∃q,q=c:=⟨_,rfl⟩
     have ea3:((qq:Int)).toNat=iN3:=by omega
     have pa3:(0:Int)<=(qq:Int):=by omega
     have ba3:(qq:Int)<(d.size:Int):=by omega
     have ra3:IntKind.i64.wrap ((qq:Int))=(qq:Int):=by rw[IntKind.wrap_i64];omega
     have ec3:((c:Int)).toNat=jN3:=by omega
     have pc3:(0:Int)<=(c:Int):=by omega
     have bc3:(c:Int)<(d.size:Int):=by omega
     have rc3:IntKind.i64.wrap ((c:Int))=(c:Int):=by rw[IntKind.wrap_i64];omega
     obtain⟨x3,hx3⟩:∃x,x=d[qq]!:=⟨_,rfl⟩
     obtain⟨y3,hy3⟩:∃x,x=d[c]!:=⟨_,rfl⟩
     have l3a:=S1.out.cl R (by omega) (qq) (by omega)
     have l3b:=S1.out.cl R (by omega) (c) (by omega)
     rw[←hx3,←hiN3]at l3a
     rw[←hy3,←hjN3]at l3b
     have hc3:=S1.out.cmp HC.out (by omega) x3 y3
     have hv3:cf x3 y3<0:=by rw[hx3,hy3];exact of_decide_eq_true hlv
     have hd3:decide (cf x3 y3<0)=true:=decide_eq_true hv3
     clear hx3 hy3 hiN3 hjN3
     go_wp2_with fail
     go_quiet_grown (first|(go_at_fn F;refine Calls.grown_of (hc3 _ _)))
     have S2:Aside (SW enc w0 blk off d (grow (wr.drewN nq) osq)):=S1.out.grown nq osq
     clear l3a l3b hc3 S1
     generalize grow (wr.drewN nq) osq=w2 at S2 ⊢
     clear nq osq
     clear ea3 ec3
     clear hlv E1
     go_wp2
     go_roundg (c-s)
     case measure=>omega
     case rel=>exact⟨s,c,rfl,rfl,by omega,by omega,by omega,by omega,S2,E2⟩
   ·obtain rfl:s=r:=by omega
    have hltz:¬ (s:Int)<(s:Int):=by omega
    have hfound:=pL HMid.out (by omega) (by omega) (by omega) HC0.out E1.out
    obtain⟨e,he⟩:∃e,mid+m-s=e:=⟨_,rfl⟩
    rw[he]at hfound
    obtain⟨k1,k2,k3,k4,k5,k6,_,_,k9,k10,k11⟩:=hfound
    have ee:(mid:Int)+(m:Int)-(s:Int)=(e:Int):=by omega
    have K:=Lib.hid (And.intro k9 (And.intro k10 k11))
    clear k9 k10 k11 he E1 HMid HC0 hlt
    go_upto_region 39 with fail
    go_cut [185] from 178 to 184 (λt wx=>∃bt:Bool,t=.bool bt/\bt=(decide (s<m) && decide (m<e))/\wx=wr)
    case first =>
     by_cases h1:s<m
     ·have h1z:(s:Int)<(m:Int):=by omega
      by_cases h2:m<e
      ·have h2z:(m:Int)<(e:Int):=by omega
       go_wp2_with fail
       go_meet
       exact⟨true,rfl,by simp[h1,h2],rfl⟩
      ·have h2z:¬ (m:Int)<(e:Int):=by omega
       go_wp2_with fail
       go_meet
       exact⟨false,rfl,by simp[h2],rfl⟩
     ·have h1z:¬ (s:Int)<(m:Int):=by omega
      go_wp2_with fail
      go_meet
      exact⟨false,rfl,by simp[h1],rfl⟩
    case rest =>
     obtain⟨bt,rfl,hbt,rfl⟩:=hcut
     have HB:=Lib.hid hbt
     clear hbt
     go_upto_if 185 with (fail)
     go_cut [] from 186 to 191 (λwx=>∃d1:Array α,d1.size=d.size/\Aside (SW enc w0 blk off d1 wx)/\Hid (Rot d d1 s m e/\PermIn s e d d1))
     case first =>
      cases bt with
      | true =>
       obtain⟨h1,h2⟩:s<m/\m<e:=by simpa using HB.out.symm
       have hcall:=mQ enc (.func (.func F) #[] cb) blk off cap s m e d0 d w0 _ R (by omega) S1.out h1 h2 (by omega) (by omega)
       clear S1
       go_wp2_with (go_at_call 244;refine hcall.mono ?_;rintro _ w1 ⟨rfl,d1,S2,h3⟩;have S3:Aside _:=S2;have H3:=Lib.hid h3;clear S2 h3 hcall)
       go_meet
       exact⟨d1,H3.out.1.1,S3,H3⟩
      | false =>
       have h3:s=m∨m=e:=by
        have:=HB.out
        by_cases h1:s<m
        ·by_cases h2:m<e
         ·simp[h1,h2]at this
         ·omega
        ·omega
       have H3:Hid (Rot d d s m e/\PermIn s e d d):=⟨jA h3 (by omega) (by omega),permIn_refl _ _ _⟩
       clear h3
       go_wp2_with fail
       go_meet
       exact⟨d,rfl,S1,H3⟩
     case rest =>
      clear S1 HB
      obtain⟨d1,hz1,S1,H3⟩:=hcut
      go_upto_region 41 with fail
      go_cut [199] from 192 to 198 (λt wx=>∃bt:Bool,t=.bool bt/\bt=(decide (a<s) && decide (s<mid))/\wx=wc)
      case first =>
       by_cases h1:a<s
       ·have h1z:(a:Int)<(s:Int):=by omega
        by_cases h2:s<mid
        ·have h2z:(s:Int)<(mid:Int):=by omega
         go_wp2_with fail
         go_meet
         exact⟨true,rfl,by simp[h1,h2],rfl⟩
        ·have h2z:¬ (s:Int)<(mid:Int):=by omega
         go_wp2_with fail
         go_meet
         exact⟨false,rfl,by simp[h2],rfl⟩
       ·have h1z:¬ (a:Int)<(s:Int):=by omega
        go_wp2_with fail
        go_meet
        exact⟨false,rfl,by simp[h1],rfl⟩
      case rest =>
       obtain⟨bt,rfl,hbt,rfl⟩:=hcut
       have HB:=Lib.hid hbt
       clear hbt
       go_upto_if 199 with (fail)
       go_cut [] from 200 to 205 (λwx=>∃d2:Array α,d2.size=d.size/\Aside (SW enc w0 blk off d2 wx)/\Hid (Merged (ltOf cf) d1 a s mid d2))
       case first =>
        cases bt with
        | true =>
         obtain⟨h1,h2⟩:a<s/\s<mid:=by simpa using HB.out.symm
         have hcall:=hIH.out a s mid d1 _ (by omega) (by omega) S1.out h1 h2 (by omega)
         rw[hz1]at hcall
         have HZ:Hid (∀d2,Merged (ltOf cf) d1 a s mid d2->d2.size=d.size):=λd2 h=>by rw[h.1.1];exact hz1
         clear S1 hz1
         go_wp2_with (go_at_call 192;refine hcall.mono ?_;rintro _ w1 ⟨rfl,d2,S2,h3⟩;have S3:Aside _:=S2;have H4:=Lib.hid h3;clear S2 h3 hcall)
         go_meet
         exact⟨d2,HZ.out d2 H4.out,S3,H4⟩
        | false =>
         have h3:s<=a∨mid<=s:=by
          have:=HB.out
          by_cases h1:a<s
          ·by_cases h2:s<mid
           ·simp[h1,h2]at this
           ·omega
          ·omega
         have H4:Hid (Merged (ltOf cf) d1 a s mid d1):=fb h3 (by omega) (by omega)
         have HZ:=Lib.hid hz1
         clear h3 hz1
         go_wp2_with fail
         go_meet
         exact⟨d1,HZ.out,S1,H4⟩
       case rest =>
        have HZ1:=Lib.hid hz1
        clear S1 HB hz1
        obtain⟨d2,hz2,S1,H4⟩:=hcut
        go_upto_region 43 with fail
        go_cut [213] from 206 to 212 (λt wx=>∃bt:Bool,t=.bool bt/\bt=(decide (mid<e) && decide (e<b))/\wx=wc)
        case first =>
         by_cases h1:mid<e
         ·have h1z:(mid:Int)<(e:Int):=by omega
          by_cases h2:e<b
          ·have h2z:(e:Int)<(b:Int):=by omega
           go_wp2_with fail
           go_meet
           exact⟨true,rfl,by simp[h1,h2],rfl⟩
          ·have h2z:¬ (e:Int)<(b:Int):=by omega
           go_wp2_with fail
           go_meet
           exact⟨false,rfl,by simp[h2],rfl⟩
         ·have h1z:¬ (mid:Int)<(e:Int):=by omega
          go_wp2_with fail
          go_meet
          exact⟨false,rfl,by simp[h1],rfl⟩
        case rest =>
         obtain⟨bt,rfl,hbt,rfl⟩:=hcut
         have HB:=Lib.hid hbt
         clear hbt
         have hfin:Hid (∀D,Merged (ltOf cf) d2 mid e b D->Merged (ltOf cf) d a m b D):=λD hD=>ql hO hb (by omega) (by omega) (by omega) (by omega) K.out.1 (by omega) (by omega) K.out.2.1 K.out.2.2 H3.out H4.out hD
         cases bt with
         | true =>
          obtain⟨h1,h2⟩:mid<e/\e<b:=by simpa using HB.out.symm
          have hcall:=hIH.out mid e b d2 _ (by omega) (by omega) S1.out h1 h2 (by omega)
          rw[hz2]at hcall
          clear S1 hz2
          go_wp2_with (go_at_call 192;refine hcall.mono ?_;rintro _ w1 ⟨rfl,d3,S2,h3⟩;have S3:Aside _:=S2;have H5:=Lib.hid h3;clear S2 h3 hcall)
          go_end0
          exact⟨rfl,d3,S3.out,hfin.out d3 H5.out⟩
         | false =>
          have h3:e<=mid∨b<=e:=by
           have:=HB.out
           by_cases h1:mid<e
           ·by_cases h2:e<b
            ·simp[h1,h2]at this
            ·omega
           ·omega
          have H5:Hid (Merged (ltOf cf) d2 mid e b d2):=fb h3 (by omega) (by omega)
          clear h3
          go_wp2
          go_end0
          exact⟨rfl,d2,S1.out,hfin.out d2 H5.out⟩
 ·have H3:Hid ((a:Int)=(s0:Int)):=congrArg _ q3.symm
  have H4:=Lib.hid q4
  clear q3 q4
  go_enter Tryz.func192,Tryz.ntmps192
  go_wp2
  go_loopg [20,21,23] b (λg1 vi vj vh wr=>∃(s r:Nat),vi=.int .i64 s/\vj=.int .i64 r/\s0<=s/\s<=r/\r<=r0/\r-s<=g1/\Aside (SW enc w0 blk off d wr)/\Hid (dZ (ltOf cf) d (mid+m) s0 r0 s r))
  case atStart=>exact⟨s0,r0,by first|rfl|rw[H3.out],by rw[H4.out],by omega,by omega,by omega,by omega,S0,ju d (by omega)⟩
  case round =>
   clear S0 q1 q2 H3 H4
   obtain⟨s,r,rfl,rfl,hs0,hsr,hr,hg,S1,E1⟩:=hrel
   by_cases hlt:s<r
   ·have hltz:(s:Int)<(r:Int):=by omega
    obtain⟨c,hsc,hcr,ec⟩:∃c:Nat,s<=c/\c<r/\((s:Int)+(r:Int)) / 2=(c:Int):=⟨(s+r) / 2,by omega,by omega,by omega⟩
    obtain⟨i1,i2,i3,i4⟩:=mE (c:=c) HMid.out (by omega) (by omega) (by omega) HC0.out (by omega) (by omega)
    obtain⟨qq,hq,eq9⟩:∃qq:Nat,mid+m-1-c=qq/\(mid:Int)+(m:Int)-1-(c:Int)=(qq:Int):=⟨mid+m-1-c,rfl,by omega⟩
    rw[hq]at i3 i4
    have eqw:IntKind.i64.wrap ((mid:Int)+(m:Int)-1-(c:Int))=(qq:Int):=by rw[IntKind.wrap_i64];omega
    have HQ:=Lib.hid hq
    clear hq
    cases hlv:(ltOf cf) d[qq]! d[c]! with
    | false =>
     have E2:Hid (dZ (ltOf cf) d (mid+m) s0 r0 (c+1) r):=pN E1.out hsc hcr (by rw[HQ.out];exact hlv)
     obtain⟨iN2,hiN2⟩:∃q,q=qq:=⟨_,rfl⟩
     obtain⟨jN2,hjN2⟩:∃q,q=c:=⟨_,rfl⟩
     have ea2:((qq:Int)).toNat=iN2:=by omega
     have pa2:(0:Int)<=(qq:Int):=by omega
     have ba2:(qq:Int)<(d.size:Int):=by omega
     have ra2:IntKind.i64.wrap ((qq:Int))=(qq:Int):=by rw[IntKind.wrap_i64];omega
     have ec2:((c:Int)).toNat=jN2:=by omega
     have pc2:(0:Int)<=(c:Int):=by omega
     have bc2:(c:Int)<(d.size:Int):=by omega
     have rc2:IntKind.i64.wrap ((c:Int))=(c:Int):=by rw[IntKind.wrap_i64];omega
     obtain⟨x2,hx2⟩:∃x,x=d[qq]!:=⟨_,rfl⟩
     obtain⟨y2,hy2⟩:∃x,x=d[c]!:=⟨_,rfl⟩
     have l2a:=S1.out.cl R (by omega) (qq) (by omega)
     have l2b:=S1.out.cl R (by omega) (c) (by omega)
     rw[←hx2,←hiN2]at l2a
     rw[←hy2,←hjN2]at l2b
     have hc2:=S1.out.cmp HC.out (by omega) x2 y2
     have hv2:¬ cf x2 y2<0:=by rw[hx2,hy2];exact of_decide_eq_false hlv
     have hd2:decide (cf x2 y2<0)=false:=decide_eq_false hv2
     clear hx2 hy2 hiN2 hjN2
     go_wp2_with fail
     go_quiet_grown (first|(go_at_fn F;refine Calls.grown_of (hc2 _ _)))
     have S2:Aside (SW enc w0 blk off d (grow (wr.drewN nq) osq)):=S1.out.grown nq osq
     clear l2a l2b hc2 S1
     generalize grow (wr.drewN nq) osq=w2 at S2 ⊢
     clear nq osq
     clear ea2 ec2
     clear hlv E1
     go_wp2
     go_roundg (r-(c+1))
     case measure=>omega
     case rel=>exact⟨c+1,r,by go_num,rfl,by omega,by omega,by omega,by omega,S2,E2⟩
    | true =>
     have E2:Hid (dZ (ltOf cf) d (mid+m) s0 r0 s c):=lq E1.out hsc hcr (by rw[HQ.out];exact hlv)
     obtain⟨iN3,hiN3⟩:∃q,q=qq:=⟨_,rfl⟩
     obtain⟨jN3,hjN3⟩:∃q,q=c:=⟨_,rfl⟩
     have ea3:((qq:Int)).toNat=iN3:=by omega
     have pa3:(0:Int)<=(qq:Int):=by omega
     have ba3:(qq:Int)<(d.size:Int):=by omega
     have ra3:IntKind.i64.wrap ((qq:Int))=(qq:Int):=by rw[IntKind.wrap_i64];omega
     have ec3:((c:Int)).toNat=jN3:=by omega
     have pc3:(0:Int)<=(c:Int):=by omega
     have bc3:(c:Int)<(d.size:Int):=by omega
     have rc3:IntKind.i64.wrap ((c:Int))=(c:Int):=by rw[IntKind.wrap_i64];omega
     obtain⟨x3,hx3⟩:∃x,x=d[qq]!:=⟨_,rfl⟩
     obtain⟨y3,hy3⟩:∃x,x=d[c]!:=⟨_,rfl⟩
     have l3a:=S1.out.cl R (by omega) (qq) (by omega)
     have l3b:=S1.out.cl R (by omega) (c) (by omega)
     rw[←hx3,←hiN3]at l3a
     rw[←hy3,←hjN3]at l3b
     have hc3:=S1.out.cmp HC.out (by omega) x3 y3
     have hv3:cf x3 y3<0:=by rw[hx3,hy3];exact of_decide_eq_true hlv
     have hd3:decide (cf x3 y3<0)=true:=decide_eq_true hv3
     clear hx3 hy3 hiN3 hjN3
     go_wp2_with fail
     go_quiet_grown (first|(go_at_fn F;refine Calls.grown_of (hc3 _ _)))
     have S2:Aside (SW enc w0 blk off d (grow (wr.drewN nq) osq)):=S1.out.grown nq osq
     clear l3a l3b hc3 S1
     generalize grow (wr.drewN nq) osq=w2 at S2 ⊢
     clear nq osq
     clear ea3 ec3
     clear hlv E1
     go_wp2
     go_roundg (c-s)
     case measure=>omega
     case rel=>exact⟨s,c,rfl,rfl,by omega,by omega,by omega,by omega,S2,E2⟩
   ·obtain rfl:s=r:=by omega
    have hltz:¬ (s:Int)<(s:Int):=by omega
    have hfound:=pL HMid.out (by omega) (by omega) (by omega) HC0.out E1.out
    obtain⟨e,he⟩:∃e,mid+m-s=e:=⟨_,rfl⟩
    rw[he]at hfound
    obtain⟨k1,k2,k3,k4,k5,k6,_,_,k9,k10,k11⟩:=hfound
    have ee:(mid:Int)+(m:Int)-(s:Int)=(e:Int):=by omega
    have K:=Lib.hid (And.intro k9 (And.intro k10 k11))
    clear k9 k10 k11 he E1 HMid HC0 hlt
    go_upto_region 39 with fail
    go_cut [185] from 178 to 184 (λt wx=>∃bt:Bool,t=.bool bt/\bt=(decide (s<m) && decide (m<e))/\wx=wr)
    case first =>
     by_cases h1:s<m
     ·have h1z:(s:Int)<(m:Int):=by omega
      by_cases h2:m<e
      ·have h2z:(m:Int)<(e:Int):=by omega
       go_wp2_with fail
       go_meet
       exact⟨true,rfl,by simp[h1,h2],rfl⟩
      ·have h2z:¬ (m:Int)<(e:Int):=by omega
       go_wp2_with fail
       go_meet
       exact⟨false,rfl,by simp[h2],rfl⟩
     ·have h1z:¬ (s:Int)<(m:Int):=by omega
      go_wp2_with fail
      go_meet
      exact⟨false,rfl,by simp[h1],rfl⟩
    case rest =>
     obtain⟨bt,rfl,hbt,rfl⟩:=hcut
     have HB:=Lib.hid hbt
     clear hbt
     go_upto_if 185 with (fail)
     go_cut [] from 186 to 191 (λwx=>∃d1:Array α,d1.size=d.size/\Aside (SW enc w0 blk off d1 wx)/\Hid (Rot d d1 s m e/\PermIn s e d d1))
     case first =>
      cases bt with
      | true =>
       obtain⟨h1,h2⟩:s<m/\m<e:=by simpa using HB.out.symm
       have hcall:=mQ enc (.func (.func F) #[] cb) blk off cap s m e d0 d w0 _ R (by omega) S1.out h1 h2 (by omega) (by omega)
       clear S1
       go_wp2_with (go_at_call 244;refine hcall.mono ?_;rintro _ w1 ⟨rfl,d1,S2,h3⟩;have S3:Aside _:=S2;have H3:=Lib.hid h3;clear S2 h3 hcall)
       go_meet
       exact⟨d1,H3.out.1.1,S3,H3⟩
      | false =>
       have h3:s=m∨m=e:=by
        have:=HB.out
        by_cases h1:s<m
        ·by_cases h2:m<e
         ·simp[h1,h2]at this
         ·omega
        ·omega
       have H3:Hid (Rot d d s m e/\PermIn s e d d):=⟨jA h3 (by omega) (by omega),permIn_refl _ _ _⟩
       clear h3
       go_wp2_with fail
       go_meet
       exact⟨d,rfl,S1,H3⟩
     case rest =>
      clear S1 HB
      obtain⟨d1,hz1,S1,H3⟩:=hcut
      go_upto_region 41 with fail
      go_cut [199] from 192 to 198 (λt wx=>∃bt:Bool,t=.bool bt/\bt=(decide (a<s) && decide (s<mid))/\wx=wc)
      case first =>
       by_cases h1:a<s
       ·have h1z:(a:Int)<(s:Int):=by omega
        by_cases h2:s<mid
        ·have h2z:(s:Int)<(mid:Int):=by omega
         go_wp2_with fail
         go_meet
         exact⟨true,rfl,by simp[h1,h2],rfl⟩
        ·have h2z:¬ (s:Int)<(mid:Int):=by omega
         go_wp2_with fail
         go_meet
         exact⟨false,rfl,by simp[h2],rfl⟩
       ·have h1z:¬ (a:Int)<(s:Int):=by omega
        go_wp2_with fail
        go_meet
        exact⟨false,rfl,by simp[h1],rfl⟩
      case rest =>
       obtain⟨bt,rfl,hbt,rfl⟩:=hcut
       have HB:=Lib.hid hbt
       clear hbt
       go_upto_if 199 with (fail)
       go_cut [] from 200 to 205 (λwx=>∃d2:Array α,d2.size=d.size/\Aside (SW enc w0 blk off d2 wx)/\Hid (Merged (ltOf cf) d1 a s mid d2))
       case first =>
        cases bt with
        | true =>
         obtain⟨h1,h2⟩:a<s/\s<mid:=by simpa using HB.out.symm
         have hcall:=hIH.out a s mid d1 _ (by omega) (by omega) S1.out h1 h2 (by omega)
         rw[hz1]at hcall
         have HZ:Hid (∀d2,Merged (ltOf cf) d1 a s mid d2->d2.size=d.size):=λd2 h=>by rw[h.1.1];exact hz1
         clear S1 hz1
         go_wp2_with (go_at_call 192;refine hcall.mono ?_;rintro _ w1 ⟨rfl,d2,S2,h3⟩;have S3:Aside _:=S2;have H4:=Lib.hid h3;clear S2 h3 hcall)
         go_meet
         exact⟨d2,HZ.out d2 H4.out,S3,H4⟩
        | false =>
         have h3:s<=a∨mid<=s:=by
          have:=HB.out
          by_cases h1:a<s
          ·by_cases h2:s<mid
           ·simp[h1,h2]at this
           ·omega
          ·omega
         have H4:Hid (Merged (ltOf cf) d1 a s mid d1):=fb h3 (by omega) (by omega)
         have HZ:=Lib.hid hz1
         clear h3 hz1
         go_wp2_with fail
         go_meet
         exact⟨d1,HZ.out,S1,H4⟩
       case rest =>
        have HZ1:=Lib.hid hz1
        clear S1 HB hz1
        obtain⟨d2,hz2,S1,H4⟩:=hcut
        go_upto_region 43 with fail
        go_cut [213] from 206 to 212 (λt wx=>∃bt:Bool,t=.bool bt/\bt=(decide (mid<e) && decide (e<b))/\wx=wc)
        case first =>
         by_cases h1:mid<e
         ·have h1z:(mid:Int)<(e:Int):=by omega
          by_cases h2:e<b
          ·have h2z:(e:Int)<(b:Int):=by omega
           go_wp2_with fail
           go_meet
           exact⟨true,rfl,by simp[h1,h2],rfl⟩
          ·have h2z:¬ (e:Int)<(b:Int):=by omega
           go_wp2_with fail
           go_meet
           exact⟨false,rfl,by simp[h2],rfl⟩
         ·have h1z:¬ (mid:Int)<(e:Int):=by omega
          go_wp2_with fail
          go_meet
          exact⟨false,rfl,by simp[h1],rfl⟩
        case rest =>
         obtain⟨bt,rfl,hbt,rfl⟩:=hcut
         have HB:=Lib.hid hbt
         clear hbt
         have hfin:Hid (∀D,Merged (ltOf cf) d2 mid e b D->Merged (ltOf cf) d a m b D):=λD hD=>ql hO hb (by omega) (by omega) (by omega) (by omega) K.out.1 (by omega) (by omega) K.out.2.1 K.out.2.2 H3.out H4.out hD
         cases bt with
         | true =>
          obtain⟨h1,h2⟩:mid<e/\e<b:=by simpa using HB.out.symm
          have hcall:=hIH.out mid e b d2 _ (by omega) (by omega) S1.out h1 h2 (by omega)
          rw[hz2]at hcall
          clear S1 hz2
          go_wp2_with (go_at_call 192;refine hcall.mono ?_;rintro _ w1 ⟨rfl,d3,S2,h3⟩;have S3:Aside _:=S2;have H5:=Lib.hid h3;clear S2 h3 hcall)
          go_end0
          exact⟨rfl,d3,S3.out,hfin.out d3 H5.out⟩
         | false =>
          have h3:e<=mid∨b<=e:=by
           have:=HB.out
           by_cases h1:mid<e
           ·by_cases h2:e<b
            ·simp[h1,h2]at this
            ·omega
           ·omega
          have H5:Hid (Merged (ltOf cf) d2 mid e b d2):=fb h3 (by omega) (by omega)
          clear h3
          go_wp2
          go_end0
          exact⟨rfl,d2,S1.out,hfin.out d2 H5.out⟩
end Go.Proofs.YtfcbghmbbjolcaaGreatDoor
