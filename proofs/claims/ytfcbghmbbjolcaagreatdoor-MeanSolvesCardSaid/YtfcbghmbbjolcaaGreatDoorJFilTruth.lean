/- The program's package filter, walked: a judge's two (printed -/
import Derived.Test.YtfcbghmbbjolcaaGreatDoorJFilKind
set_option maxHeartbeats 4000000
set_option maxRecDepth 20000
namespace Go.Proofs.YtfcbghmbbjolcaaGreatDoor
open Go Go.RowKit Go.Maps Go.ChangeMaps Fm
theorem FG (vars:List ByteArray) (row:List Tm) (b:Nat) (k:Int) (s:ByteArray) (t:Tm) (A:Option Addr) (c n:Nat) (kids:List (ExT n)) (w:World) (hk:aJ n w A kids) (hkl:kids.length<=1353245080300)
  (hj:dx w b vars row) (hv:vars.length<=281474976710656) (hrl:row.length<=281474976710656) (hzr:∀u∈row,u.x.size<=281474976710656) (hzk:∀x∈kids,szE n x) :
  Calls Tryz.prog 127 #[.pointer (some ⟨b,0,none⟩),.agg #[.int .i64 k,.string s,.int .i64 t.k,.string t.x,.string t.l,.string t.y,.slice A kids.length c]] w
   λe w'=>e=.returned (.int .i64 (sE k (kids.map (dD vars row n))))/\Below w.heap.size w w':=by
 have hl':(kids.length:Int)<=1353245080300:=by omega
 by_cases hn:(kids.length:Int)=2
 case neg =>
  have hv:sE k (kids.map (dD vars row n))=3:=by
   exact B4 _ _ (by rw[List.length_map];omega)
  rw[hv]
  clear hk hv hj hzr hzk
  go_enter Tryz.func127,Tryz.ntmps127
  go_wp2
  go_ret
  exact⟨rfl,blw⟩
 case pos =>
  obtain⟨x0,x1,rfl⟩:∃x y,kids=[x,y]:=GH _ (by omega)
  clear hn
  obtain⟨A1,A2,c1,c2,r,h0',h1',h2',h3',h4',h5'⟩:=hj.ex
  obtain⟨W,hW⟩:∃W:World,w.alloc (.cells #[.int .i64 k,.string s,.int .i64 t.k,.string t.x,.string t.l,.string t.y,.slice A 2 c] 68)=W:=⟨_,rfl⟩
  have hB0:Below w.heap.size w W:=by rw[←hW];exact blw
  have hbx:∀(i:Nat) v,#[.int .i64 k,.string s,.int .i64 t.k,.string t.x,.string t.l,.string t.y,.slice A 2 c][i]?=some v->W.cell? ⟨w.heap.size,i,none⟩=some v:=by
   intro i v hv;rw[←hW,World.cell?,heap_alloc_new];exact hv
  obtain⟨g0,e0,k0,s0,t0,K0,m0,d0,rfl,hR0',q0_0,q0_1,q0_2,q0_3,q0_4,q0_5,q0_6⟩:=(aJ.later hk hB0).atv (j:=0) (e:=x0) rfl
  obtain⟨g1,e1,k1,s1,t1,K1,m1,d1,he,hR1',q1_0,q1_1,q1_2,q1_3,q1_4,q1_5,q1_6⟩:=(aJ.later hk hB0).atv (j:=1) (e:=x1) rfl
  injection he with he;injection he with he1 he2;subst he1 he2
  have hm0:=mD (hzk x0 (by simp)) hR0'
  have hR0:=λW a b=>jV vars row A1 A2 K0 c1 c2 m0 d0 k0 s0 t0 W hv hrl (by omega) a b
  have hz0:=eW vars row k0 s0 t0 (m0 == 0) hm0.1 hzr
  rw[←ko vars row hR0']at hR0 hz0
  have hm1:=mD (hzk x1 (by simp)) hR1'
  have hR1:=λW a b=>jV vars row A1 A2 K1 c1 c2 m1 d1 k1 s1 t1 W hv hrl (by omega) a b
  have hz1':=eW vars row k1 s1 t1 (m1 == 0) hm1.1 hzr
  rw[←ko vars row hR1']at hR1 hz1'
  simp only[List.map_cons,List.map_nil,List.length_cons,List.length_nil,Nat.zero_add,Nat.reduceAdd]at hl' ⊢
  simp only[Nat.zero_mul,Nat.one_mul,Nat.add_zero,Nat.add_assoc,Nat.reduceAdd]at q0_0 q0_1 q0_2 q0_3 q0_4 q0_5 q0_6 q1_0 q1_1 q1_2 q1_3 q1_4 q1_5 q1_6
  generalize dD vars row n x0=o0 at *
  generalize dD vars row n x1=o1 at *
  obtain⟨v,hvv⟩:∃v:Int,sE k ([o0,o1])=v:=⟨_,rfl⟩
  rw[hvv]
  have Hv:=Lib.hid hvv
  have ho0:=Lib.hid (show ∀u,o0=some u->o0.getD zTm=u from λu h=>by rw[h];rfl)
  unfold r7 tmV at hR0
  generalize o0.getD zTm=z0 at *
  have ho1:=Lib.hid (show ∀u,o1=some u->o1.getD zTm=u from λu h=>by rw[h];rfl)
  unfold r7 tmV at hR1
  generalize o1.getD zTm=z1 at *
  have h0:W.cell? ⟨b,0,none⟩=some (.slice A1 vars.length c1):=by rw[hB0.cell (ag h0')];exact h0'
  have h1:W.cell? ⟨b,1,none⟩=some (.slice A2 row.length c2):=by rw[hB0.cell (ag h1')];exact h1'
  have h4:=Rd.later h4' hB0
  have h5:=RdTs.later h5' hB0
  have hb6:=hbx 6 _ rfl
  have hb0:=hbx 0 _ rfl
  have HB0:=Lib.hid hB0
  clear hbx hk hj hzr hzk hvv hB0 h0' h1' h2' h3' h4' h5' hR0' hR1'
  go_enter Tryz.func127,Tryz.ntmps127
  go_wp2
  try simp only[hW]
  have HW:=Lib.hid hW
  clear hW
  refine Rf.p0 W.heap.size ?R0 (.quiet [0,1,2,3,4,5,6,7] (.fork 8 12 (.quiet [9,10,11] (.one 12 (.one 13 (.quiet [14] (.done))))) (.one 8 (.quiet [9,10,11] (.one 13 (.quiet [14] (.done))))))) ?_ ?_
  case R0=>exact λa W'=>∃(B:Nat) (z:Tm) (u14 u15 u16 u17 u18 u19 u20 u21 u22 u13 u23 u24:Value),a={tmps:=#[.pointer (some ⟨b,0,none⟩),.agg #[.int .i64 k,.string s,.int .i64 t.k,.string t.x,.string t.l,.string t.y,.slice (some ⟨g0,e0,none⟩) 2 c],undef,.pointer (some ⟨w.heap.size,0,none⟩),.int .i64 0,.pointer (some ⟨B,0,none⟩),.bool o0.isSome,undef,undef,.pointer (some ⟨w.heap.size,6,none⟩),.slice (some ⟨g0,e0,none⟩) 2 c,.int .i64 2,.bool false,u13,u14,u15,u16,u17,u18,u19,u20,u21,u22,u23,u24,undef,undef,undef,undef,undef,undef,undef,undef,undef,undef,undef,undef,undef,undef,undef,undef,undef,undef,undef,undef,undef,undef,undef,undef,undef,undef,undef,undef,undef,undef,undef,undef,undef,undef,undef,undef,undef,undef,undef,undef,undef,undef,undef,undef,undef,undef,undef,undef,undef,undef,undef],defers:=[]}/\(∀u,o0=some u->z=u)/\jp W' B z/\Below W.heap.size W W'
  ·intro wd hbd hwz
   have L_h0:=cellL h0 hbd
   have L_h1:=cellL h1 hbd
   have L_hb6:=cellL hb6 hbd
   have L_q0_0:=cellL q0_0 hbd
   have L_q0_1:=cellL q0_1 hbd
   have L_q0_2:=cellL q0_2 hbd
   have L_q0_3:=cellL q0_3 hbd
   have L_q0_4:=cellL q0_4 hbd
   have L_q0_5:=cellL q0_5 hbd
   have L_q0_6:=cellL q0_6 hbd
   have hr1:=(h4).later hbd
   have hr2:=RdTs.later h5 hbd
   have Hz:=Lib.hid hwz
   have hle:W.heap.size<=wd.heap.size:=hbd.size
   clear h0 h1 hb6 q0_0 q0_1 q0_2 q0_3 q0_4 q0_5 q0_6 q1_0 q1_1 q1_2 q1_3 q1_4 q1_5 q1_6 hwz
   refine Rf.pl_quiet ?_
   iterate 8 go_big_quiet_step (fail)
   refine wpQuiet_nil (Rf.pl_fork ?_ ?_)
   ·go_wp2_with (refine(hR0 _ hr1 hr2).mono ?_;rintro e w1 ⟨rfl,hb1⟩)
    have hb2:=hb1.mono hle
    refine⟨hb2,Rf.pl_quiet ?_⟩
    iterate 3 go_big_quiet_step (fail)
    refine wpQuiet_nil (Rf.pl_one ?_)
    go_wp2
    refine⟨(Below.refl _ _).alloc (Nat.le_trans hle hb1.size) _,Rf.pl_one ?_⟩
    go_wp2
    refine⟨fg (Nat.le_trans hle hb1.size) _ _,Rf.pl_quiet ?_⟩
    iterate 1 go_big_quiet_step (fail)
    exact wpQuiet_nil (Rf.pl_done ⟨_,z0,_,_,_,_,_,_,_,_,_,_,_,_,rfl,ho0.out,fN _ _ _,(hbd.trans hb2).alloc (Nat.le_trans hle hb1.size) _⟩)
   ·go_wp2
    refine⟨(Below.refl _ _).alloc hle _,Rf.pl_one ?_⟩
    go_wp2_with (refine(hR0 _ (hr1.later blw) (RdTs.later hr2 blw)).mono ?_;rintro e w1 ⟨rfl,hb1⟩)
    obtain⟨hc,hf⟩:=bD hb1
    refine⟨hb1.mono (by simp;omega),Rf.pl_quiet ?_⟩
    iterate 3 go_big_quiet_step (fail)
    refine wpQuiet_nil (Rf.pl_one ?_)
    go_wp2
    have hle2:W.heap.size<=wd.heap.size:=hle
    refine⟨ct hle2 _ _ _ _,Rf.pl_quiet ?_⟩
    have hT:jp w1 wd.heap.size zTm:=by
     refine⟨?_,?_,?_,?_⟩<;>(rw[hb1.cell (by simp),World.cell?,heap_alloc_new];rfl)
    iterate 1 go_big_quiet_step (fail)
    exact wpQuiet_nil (Rf.pl_done ⟨_,z0,_,_,_,_,_,_,_,_,_,_,_,_,rfl,ho0.out,hT.set z0,((hbd.trans ((Below.refl _ _).alloc hle _)).trans (hb1.mono (by simp;omega))).trans (ct hle2 _ _ _ _)⟩)
  ·rintro a W1 ⟨B0,y0,u14,u15,u16,u17,u18,u19,u20,u21,u22,u13,u23,u24,rfl,hz1,tm0,hb1⟩
   have h0b:=ac h0 hb1
   have h1b:=ac h1 hb1
   have hb6b:=ac hb6 hb1
   have hb0b:=ac hb0 hb1
   have h4b:=Rd.later h4 hb1
   have h5b:=RdTs.later h5 hb1
   have q1_0b:=ac q1_0 hb1
   have q1_1b:=ac q1_1 hb1
   have q1_2b:=ac q1_2 hb1
   have q1_3b:=ac q1_3 hb1
   have q1_4b:=ac q1_4 hb1
   have q1_5b:=ac q1_5 hb1
   have q1_6b:=ac q1_6 hb1
   have Hb1:=Lib.hid hb1
   have Hz1:=Lib.hid hz1
   have Htm:=Lib.hid tm0
   clear hb1 hz1 h0 h1 hb6 hb0 h4 h5 hR0 ho0 tm0 q0_0 q0_1 q0_2 q0_3 q0_4 q0_5 q0_6 q1_0 q1_1 q1_2 q1_3 q1_4 q1_5 q1_6
   try simp only[]
   go_wp2
   refine Rf.p0 W1.heap.size ?R1 (.quiet [0,1,2,3,4,5,6,7] (.fork 8 12 (.quiet [9,10,11] (.one 12 (.one 13 (.quiet [14] (.done))))) (.one 8 (.quiet [9,10,11] (.one 13 (.quiet [14] (.done))))))) ?_ ?_
   case R1=>exact λa W'=>∃(B:Nat) (z:Tm) (u26 u27 u28 u29 u30 u31 u32 u33 u34 u25 u35 u36:Value),a={tmps:=#[.pointer (some ⟨b,0,none⟩),.agg #[.int .i64 k,.string s,.int .i64 t.k,.string t.x,.string t.l,.string t.y,.slice (some ⟨g0,e0,none⟩) 2 c],undef,.pointer (some ⟨w.heap.size,0,none⟩),.int .i64 0,.pointer (some ⟨B0,0,none⟩),.bool o0.isSome,.pointer (some ⟨B,0,none⟩),.bool o1.isSome,.pointer (some ⟨w.heap.size,6,none⟩),.slice (some ⟨g0,e0,none⟩) 2 c,.int .i64 2,.bool false,u13,u14,u15,u16,u17,u18,u19,u20,u21,u22,u23,u24,u25,u26,u27,u28,u29,u30,u31,u32,u33,u34,u35,u36,undef,undef,undef,undef,undef,undef,undef,undef,undef,undef,undef,undef,undef,undef,undef,undef,undef,undef,undef,undef,undef,undef,undef,undef,undef,undef,undef,undef,undef,undef,undef,undef,undef,undef,undef,undef,undef,undef,undef],defers:=[]}/\(∀u,o1=some u->z=u)/\jp W' B z/\Below W1.heap.size W1 W'
   ·intro wd hbd hwz
    have L_h0:=cellL h0b hbd
    have L_h1:=cellL h1b hbd
    have L_hb6:=cellL hb6b hbd
    have L_q1_0:=cellL q1_0b hbd
    have L_q1_1:=cellL q1_1b hbd
    have L_q1_2:=cellL q1_2b hbd
    have L_q1_3:=cellL q1_3b hbd
    have L_q1_4:=cellL q1_4b hbd
    have L_q1_5:=cellL q1_5b hbd
    have L_q1_6:=cellL q1_6b hbd
    have hr1:=(h4b).later hbd
    have hr2:=RdTs.later h5b hbd
    have Hz:=Lib.hid hwz
    have hle:W1.heap.size<=wd.heap.size:=hbd.size
    clear h0b h1b hb6b hb0b q1_0b q1_1b q1_2b q1_3b q1_4b q1_5b q1_6b hwz
    refine Rf.pl_quiet ?_
    iterate 8 go_big_quiet_step (fail)
    refine wpQuiet_nil (Rf.pl_fork ?_ ?_)
    ·go_wp2_with (refine(hR1 _ hr1 hr2).mono ?_;rintro e w1 ⟨rfl,hb1⟩)
     have hb2:=hb1.mono hle
     refine⟨hb2,Rf.pl_quiet ?_⟩
     iterate 3 go_big_quiet_step (fail)
     refine wpQuiet_nil (Rf.pl_one ?_)
     go_wp2
     refine⟨(Below.refl _ _).alloc (Nat.le_trans hle hb1.size) _,Rf.pl_one ?_⟩
     go_wp2
     refine⟨fg (Nat.le_trans hle hb1.size) _ _,Rf.pl_quiet ?_⟩
     iterate 1 go_big_quiet_step (fail)
     exact wpQuiet_nil (Rf.pl_done ⟨_,z1,_,_,_,_,_,_,_,_,_,_,_,_,rfl,ho1.out,fN _ _ _,(hbd.trans hb2).alloc (Nat.le_trans hle hb1.size) _⟩)
    ·go_wp2
     refine⟨(Below.refl _ _).alloc hle _,Rf.pl_one ?_⟩
     go_wp2_with (refine(hR1 _ (hr1.later blw) (RdTs.later hr2 blw)).mono ?_;rintro e w1 ⟨rfl,hb1⟩)
     obtain⟨hc,hf⟩:=bD hb1
     refine⟨hb1.mono (by simp;omega),Rf.pl_quiet ?_⟩
     iterate 3 go_big_quiet_step (fail)
     refine wpQuiet_nil (Rf.pl_one ?_)
     go_wp2
     have hle2:W1.heap.size<=wd.heap.size:=hle
     refine⟨ct hle2 _ _ _ _,Rf.pl_quiet ?_⟩
     have hT:jp w1 wd.heap.size zTm:=by
      refine⟨?_,?_,?_,?_⟩<;>(rw[hb1.cell (by simp),World.cell?,heap_alloc_new];rfl)
     iterate 1 go_big_quiet_step (fail)
     exact wpQuiet_nil (Rf.pl_done ⟨_,z1,_,_,_,_,_,_,_,_,_,_,_,_,rfl,ho1.out,hT.set z1,((hbd.trans ((Below.refl _ _).alloc hle _)).trans (hb1.mono (by simp;omega))).trans (ct hle2 _ _ _ _)⟩)
   ·rintro a W2 ⟨B1,y1,u26,u27,u28,u29,u30,u31,u32,u33,u34,u25,u35,u36,rfl,hz2,tm1,hb2⟩
    obtain⟨v0,v1,v2,v3⟩:=Htm.out.on hb2
    obtain⟨w0,w1,w2,w3⟩:=tm1
    have hb0c:=ac hb0b hb2
    have HB:=Lib.hid (aa (aa HB0.out Hb1.out) hb2)
    have Hz2:=Lib.hid hz2
    clear hb2 hz2 h0b h1b hb6b hb0b h4b h5b hR1 ho1 q1_0b q1_1b q1_2b q1_3b q1_4b q1_5b q1_6b Htm
    cases o0 with
    | none =>
     simp only[Option.isSome_none]
     go_wp2
     go_ret
     exact⟨by rw[←Hv.out];rfl,HB.out⟩
    | some x =>
     obtain rfl:=Hz1.out x rfl
     cases o1 with
     | none =>
      simp only[Option.isSome_none,Option.isSome_some]
      go_wp2
      go_ret
      exact⟨by rw[←Hv.out];rfl,HB.out⟩
     | some x' =>
      obtain rfl:=Hz2.out x' rfl
      have hs0:=hz0 y0 rfl
      have hs1:=hz1' y1 rfl
      clear hz0 hz1'
      simp only[Option.isSome_some]
      have hvk:sE k [some y0,some y1]=IB k y0 y1:=rfl
      rw[hvk]at Hv
      by_cases k6:k=6
      ·subst k6
       go_wp2_with fail
       refine(xS _ _ _ _ _ _ _ _ _ hs0 hs1).mono ?_
       rintro e w4 ⟨rfl,hb4⟩
       go_wp2
       go_ret
       exact⟨by rw[←Hv.out];rfl,aa HB.out hb4⟩
      have k6':(k == 6)=false:=by simpa using k6
      by_cases k7:k=7
      ·subst k7
       go_wp2_with fail
       refine(xS _ _ _ _ _ _ _ _ _ hs0 hs1).mono ?_
       rintro e w4 ⟨rfl,hb4⟩
       go_wp2_with fail
       refine(kT _ _).mono ?_
       rintro e w5 ⟨rfl,rfl⟩
       go_wp2
       go_ret
       exact⟨by rw[←Hv.out];rfl,aa HB.out hb4⟩
      have k7':(k == 7)=false:=by simpa using k7
      by_cases k8:k=8
      ·subst k8
       go_wp2_with fail
       refine(mo _ _ _ _ _ _ _ _ _ hs0 hs1).mono ?_
       rintro e w4 ⟨rfl,hb4⟩
       go_wp2
       go_ret
       exact⟨by rw[←Hv.out];rfl,aa HB.out hb4⟩
      have k8':(k == 8)=false:=by simpa using k8
      by_cases k10:k=10
      ·subst k10
       go_wp2_with fail
       refine(mo _ _ _ _ _ _ _ _ _ hs1 hs0).mono ?_
       rintro e w4 ⟨rfl,hb4⟩
       go_wp2
       go_ret
       exact⟨by rw[←Hv.out];rfl,aa HB.out hb4⟩
      have k10':(k == 10)=false:=by simpa using k10
      by_cases k9:k=9
      ·subst k9
       go_wp2_with fail
       refine(mo _ _ _ _ _ _ _ _ _ hs1 hs0).mono ?_
       rintro e w4 ⟨rfl,hb4⟩
       go_wp2_with fail
       refine(kT _ _).mono ?_
       rintro e w5 ⟨rfl,rfl⟩
       go_wp2
       go_ret
       exact⟨by rw[←Hv.out];rfl,aa HB.out hb4⟩
      have k9':(k == 9)=false:=by simpa using k9
      have hvv:v=iy (nT y0 y1):=by rw[←Hv.out];unfold IB;rw[k6',k7',k8',k10',k9'];rfl
      have Hvv:=Lib.hid hvv
      clear hvv
      go_wp2_with fail
      refine(mo _ _ _ _ _ _ _ _ _ hs0 hs1).mono ?_
      rintro e w4 ⟨rfl,hb4⟩
      go_wp2_with fail
      refine(kT _ _).mono ?_
      rintro e w5 ⟨rfl,rfl⟩
      go_wp2
      go_ret
      exact⟨by rw[Hvv.out];rfl,aa HB.out hb4⟩
def Eh (vars:List ByteArray) (row:List Tm) (b:Nat) (w:World) (n:Nat) (x:ExT n):Prop:=
 ∀(cs:List Value) (W:World),Below w.heap.size w W->RdE n W cs x->Calls Tryz.prog 74 #[.pointer (some ⟨b,0,none⟩),.agg cs.toArray] W
  λe w'=>e=.returned (.int .i64 (ofI vars row n x))/\Below W.heap.size W w'
theorem FH (vars:List ByteArray) (row:List Tm) (b:Nat) (k:Int) (s:ByteArray) (t:Tm) (A:Option Addr) (c n:Nat) (kids:List (ExT n)) (w:World) (hk:aJ n w A kids) (hkl:kids.length<=1353245080300)
  (ih:∀x∈kids,Eh vars row b w n x) :
  Calls Tryz.prog 125 #[.pointer (some ⟨b,0,none⟩),.agg #[.int .i64 k,.string s,.int .i64 t.k,.string t.x,.string t.l,.string t.y,.slice A kids.length c]] w
   λe w'=>e=.returned (.int .i64 (noI (kids.map (ofI vars row n))))/\Below w.heap.size w w':=by
 have hl':(kids.length:Int)<=1353245080300:=by omega
 by_cases h1:(kids.length:Int)=1
 ·obtain⟨x,rfl⟩:∃x,kids=[x]:=List.length_eq_one_iff.1 (by omega)
  have hB0:Below w.heap.size w (w.alloc (.cells #[.int .i64 k,.string s,.int .i64 t.k,.string t.x,.string t.l,.string t.y,.slice A 1 c] 68)):=blw
  obtain⟨g,o,u0,u1,u2,u3,u4,u5,u6,rfl,hR,c0,c1,c2,c3,c4,c5,c6⟩:=(aJ.later hk hB0).at7 (j:=0) rfl
  have hS:=ih x (by simp) _ _ hB0 hR
  clear ih hk hR h1
  have HB0:=Lib.hid hB0
  clear hB0
  simp only[List.map_cons,List.map_nil,noI,List.length_cons,List.length_nil,Nat.zero_add]at hl' ⊢
  simp only[Nat.zero_mul,Nat.add_zero]at c0 c1 c2 c3 c4 c5 c6
  go_enter Tryz.func125,Tryz.ntmps125
  go_wp2_with fail
  refine hS.mono ?_
  rintro e w2 ⟨rfl,hb2⟩
  go_wp2_with fail
  refine(kT _ _).mono ?_
  rintro e w3 ⟨rfl,rfl⟩
  go_wp2
  go_ret
  exact⟨rfl,aa HB0.out hb2⟩
 ·have hv:noI (kids.map (ofI vars row n))=3:=by
   rcases kids with _|⟨x,_|⟨y,r⟩⟩
   ·rfl
   ·exact(h1 rfl).elim
   ·rfl
  rw[hv]
  clear ih hk hv
  go_enter Tryz.func125,Tryz.ntmps125
  go_wp2
  go_ret
  exact⟨rfl,blw⟩
theorem Dn (vars:List ByteArray) (row:List Tm) (b:Nat) (k:Int) (s:ByteArray) (t:Tm) (A:Option Addr) (c n:Nat) (kids:List (ExT n)) (w:World) (hk:aJ n w A kids) (hkl:kids.length<=1353245080300)
  (ih:∀x∈kids,Eh vars row b w n x) :
  Calls Tryz.prog 126 #[.pointer (some ⟨b,0,none⟩),.agg #[.int .i64 k,.string s,.int .i64 t.k,.string t.x,.string t.l,.string t.y,.slice A kids.length c]] w
   λe w'=>e=.returned (.int .i64 (if k == 4 then AO (kids.map (ofI vars row n)) else orI (kids.map (ofI vars row n))))/\Below w.heap.size w w':=by
 have hl':(kids.length:Int)<=1353245080300:=by omega
 obtain⟨v,hv⟩:∃v:Int,(if k == 4 then AO (kids.map (ofI vars row n)) else orI (kids.map (ofI vars row n)))=v:=⟨_,rfl⟩
 rw[hv]
 have Hv:=Lib.hid hv
 clear hv
 go_enter Tryz.func126,Tryz.ntmps126
 go_wp2
 obtain⟨W,hW⟩:∃W:World,w.alloc (.cells #[.int .i64 k,.string s,.int .i64 t.k,.string t.x,.string t.l,.string t.y,.slice A kids.length c] 68)=W:=⟨_,rfl⟩
 have hB0:Below w.heap.size w W:=by rw[←hW];exact blw
 have hz:W.heap.size=w.heap.size+1:=by rw[←hW];simp
 have hc0:W.cell? ⟨w.heap.size,0,none⟩=some (.int .i64 k):=by rw[←hW,World.cell?,heap_alloc_new];rfl
 simp only[hW]
 have Hz:=Lib.hid hz
 have HW:=Lib.hid hW
 clear hW hz
 go_loopw [5,11] (λvv i wr=>∃j:Nat,j<=kids.length/\i=.int .i64 j/\El wr W.heap.size 134 vv ((kids.take j).map (ofI vars row n))/\Below W.heap.size W wr) (λ_ i _=>kids.length-(intOf i).toNat)
 case atStart=>exact⟨0,by omega,rfl,by simpa[El] using World.ownsRow_nil _ _ _ _,Below.refl _ _⟩
 case round =>
  obtain⟨j,hj,rfl,hown,hB⟩:=hrel
  by_cases hlt:j<kids.length
  ·obtain⟨x,hx⟩:∃x,kids[j]?=some x:=⟨_,List.getElem?_eq_getElem hlt⟩
   obtain⟨g,o,k',s',t',A',m',d',rfl,hR,c0,c1,c2,c3,c4,c5,c6⟩:=(aJ.later (aJ.later hk hB0) hB).atv hx
   have hts:=ah hx
   have hS:=ih x (List.mem_of_getElem? hx) [.int .i64 k',.string s',.int .i64 t'.k,.string t'.x,.string t'.l,.string t'.y,.slice A' m' d'] (wr.alloc (.cells #[.int .i64 k',.string s',.int .i64 t'.k,.string t'.x,.string t'.l,.string t'.y,.slice A' m' d'] 68)) (dS (aa hB0 hB)) (hR.later blw)
   have hlk:((kids.take j).map (ofI vars row n)).length=j:=by simp;omega
   have Hts:=Lib.hid hts
   have HB0:=Lib.hid hB0
   have HR:=Lib.hid hR
   unfold El at hown
   rw[hlk]at hown
   have Hc0:=Lib.hid hc0
   have hle:W.heap.size<=wr.heap.size:=hB.size
   clear hx hts hlk hR ih hc0 hB0
   go_wp2_with fail
   refine hS.mono ?_
   rintro e w2 ⟨rfl,hb2⟩
   have hb3:Below wr.heap.size wr w2:=((Below.refl _ _).alloc (Nat.le_refl _) _).trans (hb2.mono (by simp))
   have hbW:Below W.heap.size W w2:=hB.trans (hb3.mono hle)
   have hown2:=own_below hown hb3 (Nat.le_refl _)
   have hle2:W.heap.size<=w2.heap.size:=hbW.size
   clear hown hS hb3
   go_wp2_with (at_builtin;refine bg rfl rfl Tryz.underlying234 yy rfl (by omega) rfl (hown2.alloc _) rfl (Rd.of_block (heap_alloc_new w2 _) rfl) rfl (Jm [_]) (by omega) (by omega) (by simp;omega) ?_;intro v' w3 hown3 hb4)
   have hB2:=(hbW.alloc hbW.size (.cells #[.int .i64 (ofI vars row n x)] 134)).trans hb4
   go_roundw
   case rel =>
    refine⟨j+1,by omega,by go_num,?_,hB2⟩
    rw[Hts.out]
    unfold El
    rw[List.map_append,List.length_append,List.length_map,List.length_take,Nat.min_eq_left (by omega),List.map_append]
    exact hown3
   case measure=>simp[intOf];omega
  ·have hk2:kids.take j=kids:=List.take_of_length_le (by omega)
   rw[hk2]at hown
   obtain⟨A1,c1,rfl,hcc,hrt⟩:=Cf hown
   have hc:=hB.cell (p:=⟨w.heap.size,0,none⟩) (by have:=Hz.out;simp;omega)
   rw[hc0]at hc
   have hlen:(kids.map (ofI vars row n)).length=kids.length:=List.length_map _
   have HB:=Lib.hid (aa hB0 hB)
   clear hown hk2 ih hk hB0 hB hc0
   have hAnd:=Iq (kids.map (ofI vars row n)) A1 c1 wr (by omega) hrt
   have hOr:=Jn (kids.map (ofI vars row n)) A1 c1 wr (by omega) hrt
   rw[hlen]at hAnd hOr
   clear hlen hrt
   by_cases h4:k=4
   ·subst h4
    go_wp2_with fail
    refine hAnd.mono ?_
    rintro e w2 ⟨rfl,hb2⟩
    go_wp2
    go_ret
    exact⟨by rw[←Hv.out];rfl,aa HB.out hb2⟩
   ·go_wp2_with fail
    refine hOr.mono ?_
    rintro e w2 ⟨rfl,hb2⟩
    go_wp2
    go_ret
    refine⟨?_,aa HB.out hb2⟩
    have h4':(k == 4)=false:=by simpa using h4
    rw[←Hv.out,h4'];rfl
theorem ua {α:Type} (l:List α):l.isEmpty=(l.length == 0):=by cases l<;>rfl
theorem uo (vars:List ByteArray) (row:List Tm) (b:Nat) (hv:vars.length<=281474976710656) (hrl:row.length<=281474976710656) (hzr:∀u∈row,u.x.size<=281474976710656) (n:Nat) :
  ∀(x:ExT n) (cs:List Value) (w:World),dx w b vars row->RdE n w cs x->szE n x ->
  Calls Tryz.prog 74 #[.pointer (some ⟨b,0,none⟩),.agg cs.toArray] w λe w'=>e=.returned (.int .i64 (ofI vars row n x))/\Below w.heap.size w w':=by
 induction n with
 | zero=>intro x cs w _ h;exact h.elim
 | succ n ih =>
  rintro⟨k,s,t,kids⟩ cs w hj ⟨A,c,rfl,hcap,hk⟩ ⟨hs1,hs2,hkl,hkz⟩
  have hS:∀W,Below w.heap.size w W->∀x∈kids,Eh vars row b W n x:=λW hW x hx cs W' hW' hr=>ih x cs W' ((hj.later hW).later hW') hr (hkz x hx)
  have hkl2:kids.length<=281474976710656:=by omega
  by_cases h12:(k == 1 || k == 2)=true
  ·have hz:=eW vars row k s t (kids.length == 0) hs2 hzr
   have hd:dc (.pointer (some ⟨b,0,none⟩)) k=.func (.func 124) #[.pointer (some ⟨b,0,none⟩)] #[]:=by unfold dc;rw[if_pos h12]
   have ho:ofI vars row (n+1) (k,s,t,kids)=CU (gy vars row k s t (kids.length == 0)):=by rw[ofI,if_pos h12,ua]
   rw[ho]
   exact gM vars row b k s t A kids.length c w hj _ hd (enters_of Tryz.func124 (by kernel_rfl) rfl) _ λW hW=>zS vars row b k s t A kids.length c W (hj.later hW) hv hrl hkl2 hz
  have h12':(k == 1 || k == 2)=false:=by simpa using h12
  by_cases h3:(k == 3)=true
  ·have hd:dc (.pointer (some ⟨b,0,none⟩)) k=.func (.func 125) #[.pointer (some ⟨b,0,none⟩)] #[]:=by unfold dc;rw[if_neg h12,if_pos h3]
   have ho:ofI vars row (n+1) (k,s,t,kids)=noI (kids.map (ofI vars row n)):=by rw[ofI,if_neg h12,if_pos h3]
   rw[ho]
   exact gM vars row b k s t A kids.length c w hj _ hd (enters_of Tryz.func125 (by kernel_rfl) rfl) _ λW hW=>FH vars row b k s t A c n kids W (aJ.later hk hW) hkl (hS W hW)
  by_cases h45:(k == 4 || k == 5)=true
  ·have hd:dc (.pointer (some ⟨b,0,none⟩)) k=.func (.func 126) #[.pointer (some ⟨b,0,none⟩)] #[]:=by unfold dc;rw[if_neg h12,if_neg h3,if_pos h45]
   have ho:ofI vars row (n+1) (k,s,t,kids)=if k == 4 then AO (kids.map (ofI vars row n)) else orI (kids.map (ofI vars row n)):=by
    rw[ofI,if_neg h12,if_neg h3]
    by_cases h4:(k == 4)=true
    ·rw[if_pos h4,if_pos h4]
    ·have h5:(k == 5)=true:=by simpa[h4] using h45
     rw[if_neg h4,if_pos h5,if_neg h4]
   rw[ho]
   exact gM vars row b k s t A kids.length c w hj _ hd (enters_of Tryz.func126 (by kernel_rfl) rfl) _ λW hW=>Dn vars row b k s t A c n kids W (aJ.later hk hW) hkl (hS W hW)
  have h45':(k == 4 || k == 5)=false:=by simpa using h45
  have h4:¬ (k == 4)=true:=by intro h;rw[h]at h45';cases h45'
  have h5:¬ (k == 5)=true:=by intro h;rw[h,Bool.or_true]at h45';cases h45'
  by_cases hc:xK k=true
  ·have hd:dc (.pointer (some ⟨b,0,none⟩)) k=.func (.func 127) #[.pointer (some ⟨b,0,none⟩)] #[]:=by unfold dc;rw[if_neg h12,if_neg h3,if_neg h45,if_pos hc]
   have ho:ofI vars row (n+1) (k,s,t,kids)=sE k (kids.map (dD vars row n)):=by rw[ofI,if_neg h12,if_neg h3,if_neg h4,if_neg h5,if_pos hc]
   rw[ho]
   exact gM vars row b k s t A kids.length c w hj _ hd (enters_of Tryz.func127 (by kernel_rfl) rfl) _ λW hW=>FG vars row b k s t A c n kids W (aJ.later hk hW) hkl (hj.later hW) hv hrl hzr hkz
  by_cases hq:isKind k=true
  ·have hd:dc (.pointer (some ⟨b,0,none⟩)) k=.func (.func 128) #[.pointer (some ⟨b,0,none⟩)] #[]:=by unfold dc;rw[if_neg h12,if_neg h3,if_neg h45,if_neg hc,if_pos hq]
   have ho:ofI vars row (n+1) (k,s,t,kids)=tu k (kids.map (dD vars row n)):=by rw[ofI,if_neg h12,if_neg h3,if_neg h4,if_neg h5,if_neg hc,if_pos hq]
   rw[ho]
   exact gM vars row b k s t A kids.length c w hj _ hd (enters_of Tryz.func128 (by kernel_rfl) rfl) _ λW hW=>Do vars row b k s t A c n kids W (aJ.later hk hW) hkl (hj.later hW) hv hrl hzr hkz
  ·have hd:dc (.pointer (some ⟨b,0,none⟩)) k=.nilFunc:=by unfold dc;rw[if_neg h12,if_neg h3,if_neg h45,if_neg hc,if_neg hq]
   have ho:ofI vars row (n+1) (k,s,t,kids)=3:=by rw[ofI,if_neg h12,if_neg h3,if_neg h4,if_neg h5,if_neg hc,if_neg hq]
   rw[ho]
   exact wA vars row b k s t A kids.length c w hj hd
end Go.Proofs.YtfcbghmbbjolcaaGreatDoor
