/- slices' symMergeCmpFunc at rows of slices: printed by gen/st -/
import Derived.Test.YtjldjeenfnahoaaGreatDoorJStabA
set_option maxHeartbeats 8000000
set_option maxRecDepth 1000000
namespace Go.Proofs.YtjldjeenfnahoaaGreatDoor
open Go Go.Shelf Go.RowKit Go.Lib Go.Sort Sy
variable {α:Type} [Inhabited α]
def Merged (lt:α->α->Bool) (d:Array α) (a m b:Nat) (D:Array α):Prop:=PermIn a b d D/\(SortedIn lt a m d->SortedIn lt m b d->SortedIn lt a b D)
theorem An (enc:α->Value) (cf:α->α->Int) (hO:SWO (ltOf cf)) (F:Nat) (cb:Array Value) (blk off cap a m b:Nat) (d0 d:Array α) (w0 w:World) (eg:∀args w,(callFunc F args).run Tryz.prog w=.ok (.enter F args) w)
  (hcmp:CmpLays1 Tryz.prog F cb enc cf blk off d0.size w0) (R:Row1 enc w0 blk off d0) (hs:d0.size=d.size) (S:SW enc w0 blk off d w) (ham:m=a+1) (hmb:m<b) (hb:b<=d.size) (hsz:d.size<2305843009213693952) :
  Calls Tryz.prog 132 #[.slice (some ⟨blk,off,none⟩) d.size cap,.int .i64 a,.int .i64 m,.int .i64 b,.func (.func F) #[] cb] w (nl enc w0 blk off (Merged (ltOf cf) d a m b)):=by
 have mixed:Tryz.prog.follows Departure.mixedOrders=true:=by kernel_rfl
 have hcl0:=R.hO.cells
 simp only[Value.cells]at hcl0
 have hst:=R.hO.store Tryz.prog
 have HC:Aside _:=hcmp
 have S0:Aside (SW enc w0 blk off d w):=S
 have eq1:(((m:Int)-(a:Int)) == 1)=true:=by rw[beq_iff_eq];omega
 have HM:=Lib.hid ham
 have hm1:m<=a+1:=by omega
 have hm2:a+1<=m:=by omega
 clear S hcmp ham
 go_enter Tryz.func132,Tryz.ntmps132
 go_wp2
 go_loopg [10,11,12] b (λg1 vi vj vh wr=>∃(i j:Nat),vi=.int .i64 i/\vj=.int .i64 j/\m<=i/\i<=j/\j<=b/\j-i<=g1/\Aside (SW enc w0 blk off d wr)/\Hid ((i=a+1∨(ltOf cf) d[i-1]! d[a]! = true)/\(j=b∨(ltOf cf) d[j]! d[a]! = false)))
 case atStart=>exact⟨m,b,rfl,rfl,by omega,by omega,by omega,by omega,S0,⟨.inl HM.out,.inl rfl⟩⟩
 case round =>
  clear S0
  obtain⟨i,j,rfl,rfl,hmi,hij,hjb,hg,S1,E1⟩:=hrel
  by_cases hlt:i<j
  ·have hltz:(i:Int)<(j:Int):=by omega
   obtain⟨h,hih,hhj,eh⟩:∃h:Nat,i<=h/\h<j/\((i:Int)+(j:Int)) / 2=(h:Int):=⟨(i+j) / 2,by omega,by omega,by omega⟩
   cases hlv:(ltOf cf) d[h]! d[a]! with
   | true =>
    have E2:Hid ((h+1=a+1∨(ltOf cf) d[h+1-1]! d[a]! = true)/\(j=b∨(ltOf cf) d[j]! d[a]! = false)):=⟨.inr hlv,E1.out.2⟩
    obtain⟨iN2,hiN2⟩:∃q,q=h:=⟨_,rfl⟩
    obtain⟨jN2,hjN2⟩:∃q,q=a:=⟨_,rfl⟩
    have ea2:((h:Int)).toNat=iN2:=by omega
    have pa2:(0:Int)<=(h:Int):=by omega
    have ba2:(h:Int)<(d.size:Int):=by omega
    have ra2:IntKind.i64.wrap ((h:Int))=(h:Int):=by rw[IntKind.wrap_i64];omega
    have ec2:((a:Int)).toNat=jN2:=by omega
    have pc2:(0:Int)<=(a:Int):=by omega
    have bc2:(a:Int)<(d.size:Int):=by omega
    have rc2:IntKind.i64.wrap ((a:Int))=(a:Int):=by rw[IntKind.wrap_i64];omega
    obtain⟨x2,hx2⟩:∃x,x=d[h]!:=⟨_,rfl⟩
    obtain⟨y2,hy2⟩:∃x,x=d[a]!:=⟨_,rfl⟩
    have l2a:=S1.out.cl R (by omega) (h) (by omega)
    have l2b:=S1.out.cl R (by omega) (a) (by omega)
    rw[←hx2,←hiN2]at l2a
    rw[←hy2,←hjN2]at l2b
    have hc2:=S1.out.cmp HC.out (by omega) x2 y2
    have hv2:cf x2 y2<0:=by rw[hx2,hy2];exact of_decide_eq_true hlv
    have hd2:decide (cf x2 y2<0)=true:=decide_eq_true hv2
    clear hx2 hy2 hiN2 hjN2
    go_wp2_with fail
    go_quiet_grown (first|(go_at_fn F;refine Calls.grown_of (hc2 _ _)))
    have S2:Aside (SW enc w0 blk off d (grow (wr.drewN nq) osq)):=S1.out.grown nq osq
    clear l2a l2b hc2 S1
    generalize grow (wr.drewN nq) osq=w2 at S2 ⊢
    clear nq osq
    clear ea2 ec2
    clear hlv E1
    go_wp2
    go_roundg (j-(h+1))
    case measure=>omega
    case rel=>exact⟨h+1,j,by go_num,rfl,by omega,by omega,by omega,by omega,S2,E2⟩
   | false =>
    have E2:Hid ((i=a+1∨(ltOf cf) d[i-1]! d[a]! = true)/\(h=b∨(ltOf cf) d[h]! d[a]! = false)):=⟨E1.out.1,.inr hlv⟩
    obtain⟨iN3,hiN3⟩:∃q,q=h:=⟨_,rfl⟩
    obtain⟨jN3,hjN3⟩:∃q,q=a:=⟨_,rfl⟩
    have ea3:((h:Int)).toNat=iN3:=by omega
    have pa3:(0:Int)<=(h:Int):=by omega
    have ba3:(h:Int)<(d.size:Int):=by omega
    have ra3:IntKind.i64.wrap ((h:Int))=(h:Int):=by rw[IntKind.wrap_i64];omega
    have ec3:((a:Int)).toNat=jN3:=by omega
    have pc3:(0:Int)<=(a:Int):=by omega
    have bc3:(a:Int)<(d.size:Int):=by omega
    have rc3:IntKind.i64.wrap ((a:Int))=(a:Int):=by rw[IntKind.wrap_i64];omega
    obtain⟨x3,hx3⟩:∃x,x=d[h]!:=⟨_,rfl⟩
    obtain⟨y3,hy3⟩:∃x,x=d[a]!:=⟨_,rfl⟩
    have l3a:=S1.out.cl R (by omega) (h) (by omega)
    have l3b:=S1.out.cl R (by omega) (a) (by omega)
    rw[←hx3,←hiN3]at l3a
    rw[←hy3,←hjN3]at l3b
    have hc3:=S1.out.cmp HC.out (by omega) x3 y3
    have hv3:¬ cf x3 y3<0:=by rw[hx3,hy3];exact of_decide_eq_false hlv
    have hd3:decide (cf x3 y3<0)=false:=decide_eq_false hv3
    clear hx3 hy3 hiN3 hjN3
    go_wp2_with fail
    go_quiet_grown (first|(go_at_fn F;refine Calls.grown_of (hc3 _ _)))
    have S2:Aside (SW enc w0 blk off d (grow (wr.drewN nq) osq)):=S1.out.grown nq osq
    clear l3a l3b hc3 S1
    generalize grow (wr.drewN nq) osq=w2 at S2 ⊢
    clear nq osq
    clear ea3 ec3
    clear hlv E1
    go_wp2
    go_roundg (h-i)
    case measure=>omega
    case rel=>exact⟨i,h,rfl,rfl,by omega,by omega,by omega,by omega,S2,E2⟩
  ·obtain rfl:i=j:=by omega
   have hltz:¬ (i:Int)<(i:Int):=by omega
   have E3:Hid (Rot d d a (a+1) (a+1)/\PermIn a b d d):=⟨iB (.inr rfl) (by omega) (by omega),permIn_refl _ _ _⟩
   go_wp2
   go_loopg [13] i (λg1 vk wr=>∃(k:Nat) (dk:Array α),vk=.int .i64 k/\a<=k/\k+1<=i/\i-1-k<=g1/\dk.size=d.size/\Aside (SW enc w0 blk off dk wr)/\Hid (Rot d dk a (a+1) (k+1)/\PermIn a b d dk))
   case atStart=>exact⟨a,d,rfl,by omega,by omega,by omega,rfl,S1,E3⟩
   case round =>
    clear S1 E3
    obtain⟨k,dk,rfl,hak,hki,hgk,hsk,S1,E3⟩:=hrel
    by_cases hk:k+1<i
    ·have hkz:(k:Int)<(i:Int)-1:=by omega
     have ek:(((k+1:Nat):Int))=(k:Int)+1:=by omega
     obtain⟨iN4,hiN4⟩:∃q,q=k:=⟨_,rfl⟩
     obtain⟨jN4,hjN4⟩:∃q,q=k+1:=⟨_,rfl⟩
     have ea4:((k:Int)).toNat=iN4:=by omega
     have pa4:(0:Int)<=(k:Int):=by omega
     have ba4:(k:Int)<(d.size:Int):=by omega
     have ra4:IntKind.i64.wrap ((k:Int))=(k:Int):=by rw[IntKind.wrap_i64];omega
     have ec4:((k:Int)+1).toNat=jN4:=by omega
     have pc4:(0:Int)<=(k:Int)+1:=by omega
     have bc4:(k:Int)+1<(d.size:Int):=by omega
     have rc4:IntKind.i64.wrap ((k:Int)+1)=(k:Int)+1:=by rw[IntKind.wrap_i64];omega
     obtain⟨x4,hx4⟩:∃x,x=dk[k]!:=⟨_,rfl⟩
     obtain⟨y4,hy4⟩:∃x,x=dk[k+1]!:=⟨_,rfl⟩
     have S2:Aside (SW enc w0 blk off (swp dk (k) (k+1)) ((wr.setCell ⟨blk,off+iN4,none⟩ (enc y4)).setCell ⟨blk,off+jN4,none⟩ (enc x4)).drew):=by rw[hiN4,hjN4,hx4,hy4];exact S1.out.swapped R (k) (k+1) (by omega) (by omega)
     have c4a:=S1.out.c1 R (by omega) (k) (by omega)
     have c4b:=S1.out.c1 R (by omega) (k+1) (by omega)
     have f4a:=S1.out.f1 R (by omega) (k) (by omega)
     have f4b:=S1.out.f1 R (by omega) (k+1) (by omega)
     obtain⟨u4,c4c⟩:=S1.out.c2 R (by omega) (k) (k+1) (by omega) (by omega) (enc y4)
     rw[←hjN4,←hiN4]at c4c
     rw[←hx4,←hiN4]at c4a
     rw[←hy4,←hjN4]at c4b
     rw[←hiN4]at f4a
     rw[←hjN4]at f4b
     clear S1 hx4 hy4 hiN4 hjN4 ek
     go_wp2_with fail
     go_big_region_o
     clear c4a c4b c4c f4a f4b
     generalize ((wr.setCell ⟨blk,off+iN4,none⟩ (enc y4)).setCell ⟨blk,off+jN4,none⟩ (enc x4)).drew=w2 at S2 ⊢
     clear ea4 ec4
     go_wp2
     go_roundg (i-1-(k+1))
     case measure=>omega
     case rel=>exact⟨k+1,swp dk k (k+1),by go_num,by omega,by omega,by omega,by rw[size_swp];exact hsk,S2,xz E3.out.1 hak (by omega),permIn_trans _ _ _ _ _ E3.out.2 (swp_permIn _ _ _ _ _ (by omega) (by omega) (by omega) (by omega) (by omega))⟩
    ·obtain rfl:i=k+1:=by omega
     have hkz:¬ (k:Int)<((k+1:Nat):Int)-1:=by omega
     have E4:Hid (Merged (ltOf cf) d a m b dk):=⟨E3.out.2,λ_ h2=>yn hO (by rw[←HM.out];exact h2) (by omega) (by omega) E1.out.1 E1.out.2 E3.out.1⟩
     go_wp2
     first|(go_end0;exact⟨rfl,dk,S1.out,E4.out⟩)|(refine bodyPost_ret (results_none rfl _ _ _) rfl ?_;exact⟨rfl,dk,S1.out,E4.out⟩)
theorem Am (enc:α->Value) (cf:α->α->Int) (hO:SWO (ltOf cf)) (F:Nat) (cb:Array Value) (blk off cap a m b:Nat) (d0 d:Array α) (w0 w:World) (eg:∀args w,(callFunc F args).run Tryz.prog w=.ok (.enter F args) w)
  (hcmp:CmpLays1 Tryz.prog F cb enc cf blk off d0.size w0) (R:Row1 enc w0 blk off d0) (hs:d0.size=d.size) (S:SW enc w0 blk off d w) (ham:a+1<m) (hmb:b=m+1) (hb:b<=d.size) (hsz:d.size<2305843009213693952) :
  Calls Tryz.prog 132 #[.slice (some ⟨blk,off,none⟩) d.size cap,.int .i64 a,.int .i64 m,.int .i64 b,.func (.func F) #[] cb] w (nl enc w0 blk off (Merged (ltOf cf) d a m b)):=by
 have mixed:Tryz.prog.follows Departure.mixedOrders=true:=by kernel_rfl
 have hcl0:=R.hO.cells
 simp only[Value.cells]at hcl0
 have hst:=R.hO.store Tryz.prog
 have HC:Aside _:=hcmp
 have S0:Aside (SW enc w0 blk off d w):=S
 have eq1:(((m:Int)-(a:Int)) == 1)=false:=by rw[beq_eq_false_iff_ne];omega
 have eq2:(((b:Int)-(m:Int)) == 1)=true:=by rw[beq_iff_eq];omega
 have HM:=Lib.hid hmb
 have hm1:b<=m+1:=by omega
 have hm2:m+1<=b:=by omega
 clear S hcmp hmb
 go_enter Tryz.func132,Tryz.ntmps132
 go_wp2
 go_loopg [14,15,16] b (λg1 vi vj vh wr=>∃(i j:Nat),vi=.int .i64 i/\vj=.int .i64 j/\a<=i/\i<=j/\j<=m/\j-i<=g1/\Aside (SW enc w0 blk off d wr)/\Hid ((i=a∨(ltOf cf) d[m]! d[i-1]! = false)/\(j=m∨(ltOf cf) d[m]! d[j]! = true)))
 case atStart=>exact⟨a,m,rfl,rfl,by omega,by omega,by omega,by omega,S0,⟨.inl rfl,.inl rfl⟩⟩
 case round =>
  clear S0
  obtain⟨i,j,rfl,rfl,hmi,hij,hjb,hg,S1,E1⟩:=hrel
  by_cases hlt:i<j
  ·have hltz:(i:Int)<(j:Int):=by omega
   obtain⟨h,hih,hhj,eh⟩:∃h:Nat,i<=h/\h<j/\((i:Int)+(j:Int)) / 2=(h:Int):=⟨(i+j) / 2,by omega,by omega,by omega⟩
   cases hlv:(ltOf cf) d[m]! d[h]! with
   | false =>
    have E2:Hid ((h+1=a∨(ltOf cf) d[m]! d[h+1-1]! = false)/\(j=m∨(ltOf cf) d[m]! d[j]! = true)):=⟨.inr hlv,E1.out.2⟩
    obtain⟨iN2,hiN2⟩:∃q,q=m:=⟨_,rfl⟩
    obtain⟨jN2,hjN2⟩:∃q,q=h:=⟨_,rfl⟩
    have ea2:((m:Int)).toNat=iN2:=by omega
    have pa2:(0:Int)<=(m:Int):=by omega
    have ba2:(m:Int)<(d.size:Int):=by omega
    have ra2:IntKind.i64.wrap ((m:Int))=(m:Int):=by rw[IntKind.wrap_i64];omega
    have ec2:((h:Int)).toNat=jN2:=by omega
    have pc2:(0:Int)<=(h:Int):=by omega
    have bc2:(h:Int)<(d.size:Int):=by omega
    have rc2:IntKind.i64.wrap ((h:Int))=(h:Int):=by rw[IntKind.wrap_i64];omega
    obtain⟨x2,hx2⟩:∃x,x=d[m]!:=⟨_,rfl⟩
    obtain⟨y2,hy2⟩:∃x,x=d[h]!:=⟨_,rfl⟩
    have l2a:=S1.out.cl R (by omega) (m) (by omega)
    have l2b:=S1.out.cl R (by omega) (h) (by omega)
    rw[←hx2,←hiN2]at l2a
    rw[←hy2,←hjN2]at l2b
    have hc2:=S1.out.cmp HC.out (by omega) x2 y2
    have hv2:¬ cf x2 y2<0:=by rw[hx2,hy2];exact of_decide_eq_false hlv
    have hd2:decide (cf x2 y2<0)=false:=decide_eq_false hv2
    clear hx2 hy2 hiN2 hjN2
    go_wp2_with fail
    go_quiet_grown (first|(go_at_fn F;refine Calls.grown_of (hc2 _ _)))
    have S2:Aside (SW enc w0 blk off d (grow (wr.drewN nq) osq)):=S1.out.grown nq osq
    clear l2a l2b hc2 S1
    generalize grow (wr.drewN nq) osq=w2 at S2 ⊢
    clear nq osq
    clear ea2 ec2
    clear hlv E1
    go_wp2
    go_roundg (j-(h+1))
    case measure=>omega
    case rel=>exact⟨h+1,j,by go_num,rfl,by omega,by omega,by omega,by omega,S2,E2⟩
   | true =>
    have E2:Hid ((i=a∨(ltOf cf) d[m]! d[i-1]! = false)/\(h=m∨(ltOf cf) d[m]! d[h]! = true)):=⟨E1.out.1,.inr hlv⟩
    obtain⟨iN3,hiN3⟩:∃q,q=m:=⟨_,rfl⟩
    obtain⟨jN3,hjN3⟩:∃q,q=h:=⟨_,rfl⟩
    have ea3:((m:Int)).toNat=iN3:=by omega
    have pa3:(0:Int)<=(m:Int):=by omega
    have ba3:(m:Int)<(d.size:Int):=by omega
    have ra3:IntKind.i64.wrap ((m:Int))=(m:Int):=by rw[IntKind.wrap_i64];omega
    have ec3:((h:Int)).toNat=jN3:=by omega
    have pc3:(0:Int)<=(h:Int):=by omega
    have bc3:(h:Int)<(d.size:Int):=by omega
    have rc3:IntKind.i64.wrap ((h:Int))=(h:Int):=by rw[IntKind.wrap_i64];omega
    obtain⟨x3,hx3⟩:∃x,x=d[m]!:=⟨_,rfl⟩
    obtain⟨y3,hy3⟩:∃x,x=d[h]!:=⟨_,rfl⟩
    have l3a:=S1.out.cl R (by omega) (m) (by omega)
    have l3b:=S1.out.cl R (by omega) (h) (by omega)
    rw[←hx3,←hiN3]at l3a
    rw[←hy3,←hjN3]at l3b
    have hc3:=S1.out.cmp HC.out (by omega) x3 y3
    have hv3:cf x3 y3<0:=by rw[hx3,hy3];exact of_decide_eq_true hlv
    have hd3:decide (cf x3 y3<0)=true:=decide_eq_true hv3
    clear hx3 hy3 hiN3 hjN3
    go_wp2_with fail
    go_quiet_grown (first|(go_at_fn F;refine Calls.grown_of (hc3 _ _)))
    have S2:Aside (SW enc w0 blk off d (grow (wr.drewN nq) osq)):=S1.out.grown nq osq
    clear l3a l3b hc3 S1
    generalize grow (wr.drewN nq) osq=w2 at S2 ⊢
    clear nq osq
    clear ea3 ec3
    clear hlv E1
    go_wp2
    go_roundg (h-i)
    case measure=>omega
    case rel=>exact⟨i,h,rfl,rfl,by omega,by omega,by omega,by omega,S2,E2⟩
  ·obtain rfl:i=j:=by omega
   have hltz:¬ (i:Int)<(i:Int):=by omega
   have E3:Hid (Rot d d m m (m+1)/\PermIn a b d d):=⟨iB (.inl rfl) (by omega) (by omega),permIn_refl _ _ _⟩
   go_wp2
   go_loopg [17] m (λg1 vk wr=>∃(k:Nat) (dk:Array α),vk=.int .i64 k/\i<=k/\k<=m/\k-i<=g1/\dk.size=d.size/\Aside (SW enc w0 blk off dk wr)/\Hid (Rot d dk k m (m+1)/\PermIn a b d dk))
   case atStart=>exact⟨m,d,rfl,by omega,by omega,by omega,rfl,S1,E3⟩
   case round =>
    clear S1 E3
    obtain⟨k,dk,rfl,hak,hki,hgk,hsk,S1,E3⟩:=hrel
    by_cases hk:i<k
    ·have hkz:decide ((k:Int) > (i:Int))=true:=decide_eq_true (by omega)
     have hkz':(i:Int)<(k:Int):=by omega
     obtain⟨iN4,hiN4⟩:∃q,q=k:=⟨_,rfl⟩
     obtain⟨jN4,hjN4⟩:∃q,q=k-1:=⟨_,rfl⟩
     have ea4:((k:Int)).toNat=iN4:=by omega
     have pa4:(0:Int)<=(k:Int):=by omega
     have ba4:(k:Int)<(d.size:Int):=by omega
     have ra4:IntKind.i64.wrap ((k:Int))=(k:Int):=by rw[IntKind.wrap_i64];omega
     have ec4:((k:Int)-1).toNat=jN4:=by omega
     have pc4:(0:Int)<=(k:Int)-1:=by omega
     have bc4:(k:Int)-1<(d.size:Int):=by omega
     have rc4:IntKind.i64.wrap ((k:Int)-1)=(k:Int)-1:=by rw[IntKind.wrap_i64];omega
     obtain⟨x4,hx4⟩:∃x,x=dk[k]!:=⟨_,rfl⟩
     obtain⟨y4,hy4⟩:∃x,x=dk[k-1]!:=⟨_,rfl⟩
     have S2:Aside (SW enc w0 blk off (swp dk (k) (k-1)) ((wr.setCell ⟨blk,off+iN4,none⟩ (enc y4)).setCell ⟨blk,off+jN4,none⟩ (enc x4)).drew):=by rw[hiN4,hjN4,hx4,hy4];exact S1.out.swapped R (k) (k-1) (by omega) (by omega)
     have c4a:=S1.out.c1 R (by omega) (k) (by omega)
     have c4b:=S1.out.c1 R (by omega) (k-1) (by omega)
     have f4a:=S1.out.f1 R (by omega) (k) (by omega)
     have f4b:=S1.out.f1 R (by omega) (k-1) (by omega)
     obtain⟨u4,c4c⟩:=S1.out.c2 R (by omega) (k) (k-1) (by omega) (by omega) (enc y4)
     rw[←hjN4,←hiN4]at c4c
     rw[←hx4,←hiN4]at c4a
     rw[←hy4,←hjN4]at c4b
     rw[←hiN4]at f4a
     rw[←hjN4]at f4b
     clear S1 hx4 hy4 hiN4 hjN4
     go_wp2_with fail
     go_big_region_o
     clear c4a c4b c4c f4a f4b
     generalize ((wr.setCell ⟨blk,off+iN4,none⟩ (enc y4)).setCell ⟨blk,off+jN4,none⟩ (enc x4)).drew=w2 at S2 ⊢
     clear ea4 ec4
     go_wp2
     go_roundg (k-1-i)
     case measure=>omega
     case rel=>exact⟨k-1,swp dk k (k-1),by congr 1;omega,by omega,by omega,by omega,by rw[size_swp];exact hsk,S2,xA E3.out.1 (by omega) hki (by omega),permIn_trans _ _ _ _ _ E3.out.2 (swp_permIn _ _ _ _ _ (by omega) (by omega) (by omega) (by omega) (by omega))⟩
    ·obtain rfl:i=k:=by omega
     have hkz:decide ((i:Int) > (i:Int))=false:=decide_eq_false (by omega)
     have hkz':¬ (i:Int)<(i:Int):=by omega
     have E4:Hid (Merged (ltOf cf) d a m b dk):=⟨E3.out.2,λh1 _=>by rw[HM.out];exact vF hO h1 (by omega) (by omega) E1.out.1 E1.out.2 E3.out.1⟩
     go_wp2
     first|(go_end0;exact⟨rfl,dk,S1.out,E4.out⟩)|(refine bodyPost_ret (results_none rfl _ _ _) rfl ?_;exact⟨rfl,dk,S1.out,E4.out⟩)
end Go.Proofs.YtjldjeenfnahoaaGreatDoor
namespace Go.Proofs
open Go.Shelf
def jB:Go.Shelf.Ren:=⟨fun|20=>131|n=>n,fun|24=>69|22=>23|3=>3|25=>120|4=>4|0=>0|n=>n,fun|n=>n⟩
theorem j3:Go.Proofs.SlLaysF.n20 Tryz.prog jB:={
 mixed:=by kernel_rfl
 f20:=⟨Tryz.f131.name,by decide,Tryz.func131.trans (congrArg some (by kernel_rfl))⟩
 t0:=Tryz.underlying0
 a0:=Tryz.isAgg0
 z0:=Tryz.sizeOf0
 v0:=Tryz.zeroValue0
 t3:=Tryz.underlying3
 a3:=Tryz.isAgg3
 z3:=Tryz.sizeOf3
 v3:=Tryz.zeroValue3
 t4:=Tryz.underlying4
 a4:=Tryz.isAgg4
 z4:=Tryz.sizeOf4
 v4:=Tryz.zeroValue4
 t22:=Tryz.underlying23
 a22:=Tryz.isAgg23
 z22:=Tryz.sizeOf23
 v22:=Tryz.zeroValue23
 a24:=Tryz.isAgg69
 z24:=Tryz.sizeOf69
 t25:=Tryz.underlying120
 a25:=Tryz.isAgg120
 z25:=Tryz.sizeOf120
 v25:=Tryz.zeroValue120}
end Go.Proofs
