/- The program's package filter, walked: a judge's two (printed -/
import Derived.Test.YtoejnneknpoanaaGreatDoorJFilKind
namespace Go.Proofs.YtoejnneknpoanaaGreatDoor
open Go Go.RowKit Go.Maps Go.ChangeMaps Fm
set_option maxRecDepth 20000 in
set_option maxHeartbeats 4000000 in
theorem filJTwo (vars:List ByteArray) (row:List Tm) (b:Nat) (k:Int) (s:ByteArray) (t:Tm) (A:Option Addr) (c n:Nat) (kids:List (ExT n)) (w:World) (hk:RdEs n w A kids) (hkl:kids.length<=1353245080300)
  (hj:JudgeAt w b vars row) (hv:vars.length<=281474976710656) (hrl:row.length<=281474976710656) (hzr:∀u∈row,u.x.size<=281474976710656) (hzk:∀x∈kids,szE n x) :
  Calls Tryz.prog 115 #[.pointer (some ⟨b,0,none⟩),.agg #[.int .i64 k,.string s,.int .i64 t.k,.string t.x,.string t.l,.string t.y,.slice A kids.length c]] w
   λe w'=>e=.returned (.int .i64 (twoI k (kids.map (termOf vars row n))))/\Below w.heap.size w w':=by
 have hl':(kids.length:Int)<=1353245080300:=by omega
 by_cases hn:(kids.length:Int)=2
 case neg =>
  have hv:twoI k (kids.map (termOf vars row n))=3:=by
   exact twoI_len _ _ (by rw[List.length_map];omega)
  rw[hv]
  clear hk hv hj hzr hzk
  go_enter Tryz.func115,Tryz.ntmps115
  go_wp2
  go_ret
  exact⟨rfl,blw⟩
 case pos =>
  obtain⟨x0,x1,rfl⟩:∃x y,kids=[x,y]:=two_of _ (by omega)
  clear hn
  obtain⟨A1,A2,c1,c2,r,h0',h1',h2',h3',h4',h5'⟩:=hj.ex
  obtain⟨W,hW⟩:∃W:World,w.alloc (.cells #[.int .i64 k,.string s,.int .i64 t.k,.string t.x,.string t.l,.string t.y,.slice A 2 c] 78)=W:=⟨_,rfl⟩
  have hB0:Below w.heap.size w W:=by rw[←hW];exact blw
  have hbx:∀(i:Nat) v,#[.int .i64 k,.string s,.int .i64 t.k,.string t.x,.string t.l,.string t.y,.slice A 2 c][i]?=some v->W.cell? ⟨w.heap.size,i,none⟩=some v:=by
   intro i v hv;rw[←hW,World.cell?,heap_alloc_new];exact hv
  obtain⟨g0,e0,k0,s0,t0,K0,m0,d0,rfl,hR0',q0_0,q0_1,q0_2,q0_3,q0_4,q0_5,q0_6⟩:=(RdEs.later hk hB0).atv (j:=0) (e:=x0) rfl
  obtain⟨g1,e1,k1,s1,t1,K1,m1,d1,he,hR1',q1_0,q1_1,q1_2,q1_3,q1_4,q1_5,q1_6⟩:=(RdEs.later hk hB0).atv (j:=1) (e:=x1) rfl
  injection he with he;injection he with he1 he2;subst he1 he2
  have hm0:=szE_kids (hzk x0 (by simp)) hR0'
  have hR0:=λW a b=>filRowOf vars row A1 A2 K0 c1 c2 m0 d0 k0 s0 t0 W hv hrl (by omega) a b
  have hz0:=termP_sized vars row k0 s0 t0 (m0 == 0) hm0.1 hzr
  rw[←termOf_rd vars row hR0']at hR0 hz0
  have hm1:=szE_kids (hzk x1 (by simp)) hR1'
  have hR1:=λW a b=>filRowOf vars row A1 A2 K1 c1 c2 m1 d1 k1 s1 t1 W hv hrl (by omega) a b
  have hz1':=termP_sized vars row k1 s1 t1 (m1 == 0) hm1.1 hzr
  rw[←termOf_rd vars row hR1']at hR1 hz1'
  simp only[List.map_cons,List.map_nil,List.length_cons,List.length_nil,Nat.zero_add,Nat.reduceAdd]at hl' ⊢
  simp only[Nat.zero_mul,Nat.one_mul,Nat.add_zero,Nat.add_assoc,Nat.reduceAdd]at q0_0 q0_1 q0_2 q0_3 q0_4 q0_5 q0_6 q1_0 q1_1 q1_2 q1_3 q1_4 q1_5 q1_6
  generalize termOf vars row n x0=o0 at *
  generalize termOf vars row n x1=o1 at *
  obtain⟨v,hvv⟩:∃v:Int,twoI k ([o0,o1])=v:=⟨_,rfl⟩
  rw[hvv]
  have Hv:=Lib.hid hvv
  have ho0:=Lib.hid (show ∀u,o0=some u->o0.getD zTm=u from λu h=>by rw[h];rfl)
  unfold optV tmV at hR0
  generalize o0.getD zTm=z0 at *
  have ho1:=Lib.hid (show ∀u,o1=some u->o1.getD zTm=u from λu h=>by rw[h];rfl)
  unfold optV tmV at hR1
  generalize o1.getD zTm=z1 at *
  have h0:W.cell? ⟨b,0,none⟩=some (.slice A1 vars.length c1):=by rw[hB0.cell (cell_lt h0')];exact h0'
  have h1:W.cell? ⟨b,1,none⟩=some (.slice A2 row.length c2):=by rw[hB0.cell (cell_lt h1')];exact h1'
  have h4:=Rd.later h4' hB0
  have h5:=RdTs.later h5' hB0
  have hb6:=hbx 6 _ rfl
  have hb0:=hbx 0 _ rfl
  have HB0:=Lib.hid hB0
  clear hbx hk hj hzr hzk hvv hB0 h0' h1' h2' h3' h4' h5' hR0' hR1'
  go_enter Tryz.func115,Tryz.ntmps115
  go_wp2
  try simp only[hW]
  have HW:=Lib.hid hW
  clear hW
  refine Rf.p0 W.heap.size ?R0 (.quiet [0,1,2,3,4,5,6,7] (.fork 8 12 (.quiet [9,10,11] (.one 12 (.one 13 (.quiet [14] (.done))))) (.one 8 (.quiet [9,10,11] (.one 13 (.quiet [14] (.done))))))) ?_ ?_
  case R0=>exact λa W'=>∃(B:Nat) (z:Tm) (u14 u15 u16 u17 u18 u19 u20 u21 u22 u13 u23 u24:Value),a={tmps:=#[.pointer (some ⟨b,0,none⟩),.agg #[.int .i64 k,.string s,.int .i64 t.k,.string t.x,.string t.l,.string t.y,.slice (some ⟨g0,e0,none⟩) 2 c],undef,.pointer (some ⟨w.heap.size,0,none⟩),.int .i64 0,.pointer (some ⟨B,0,none⟩),.bool o0.isSome,undef,undef,.pointer (some ⟨w.heap.size,6,none⟩),.slice (some ⟨g0,e0,none⟩) 2 c,.int .i64 2,.bool false,u13,u14,u15,u16,u17,u18,u19,u20,u21,u22,u23,u24,undef,undef,undef,undef,undef,undef,undef,undef,undef,undef,undef,undef,undef,undef,undef,undef,undef,undef,undef,undef,undef,undef,undef,undef,undef,undef,undef,undef,undef,undef,undef,undef,undef,undef,undef,undef,undef,undef,undef,undef,undef,undef,undef,undef,undef,undef,undef,undef,undef,undef,undef],defers:=[]}/\(∀u,o0=some u->z=u)/\TmAt W' B z/\Below W.heap.size W W'
  ·intro wd hbd hwz
   have L_h0:=cellL h0 hbd
   have L_h1:=cellL h1 hbd
   have L_hb6:=cellL hb6 hbd
   have L_q0_0:=cellL q0_0 hbd
   have L_q0_1:=cellL q0_1 hbd
   have L_q0_2:=cellL q0_2 hbd
   have L_q0_3:=cellL q0_3 hbd
   have L_q0_4:=cellL q0_4 hbd
   have L_q0_5:=cellL q0_5 hbd
   have L_q0_6:=cellL q0_6 hbd
   have hr1:=(h4).later hbd
   have hr2:=RdTs.later h5 hbd
   have Hz:=Lib.hid hwz
   have hle:W.heap.size<=wd.heap.size:=hbd.size
   clear h0 h1 hb6 q0_0 q0_1 q0_2 q0_3 q0_4 q0_5 q0_6 q1_0 q1_1 q1_2 q1_3 q1_4 q1_5 q1_6 hwz
   refine Rf.pl_quiet ?_
   iterate 8 go_big_quiet_step (fail)
   refine wpQuiet_nil (Rf.pl_fork ?_ ?_)
   ·go_wp2_with (refine(hR0 _ hr1 hr2).mono ?_;rintro e w1 ⟨rfl,hb1⟩)
    have hb2:=hb1.mono hle
    refine⟨hb2,Rf.pl_quiet ?_⟩
    iterate 3 go_big_quiet_step (fail)
    refine wpQuiet_nil (Rf.pl_one ?_)
    go_wp2
    refine⟨(Below.refl _ _).alloc (Nat.le_trans hle hb1.size) _,Rf.pl_one ?_⟩
    go_wp2
    refine⟨below_reset (Nat.le_trans hle hb1.size) _ _,Rf.pl_quiet ?_⟩
    iterate 1 go_big_quiet_step (fail)
    exact wpQuiet_nil (Rf.pl_done ⟨_,z0,_,_,_,_,_,_,_,_,_,_,_,_,rfl,ho0.out,tmAt_alloc _ _ _,(hbd.trans hb2).alloc (Nat.le_trans hle hb1.size) _⟩)
   ·go_wp2
    refine⟨(Below.refl _ _).alloc hle _,Rf.pl_one ?_⟩
    go_wp2_with (refine(hR0 _ (hr1.later blw) (RdTs.later hr2 blw)).mono ?_;rintro e w1 ⟨rfl,hb1⟩)
    obtain⟨hc,hf⟩:=bcell hb1
    refine⟨hb1.mono (by simp;omega),Rf.pl_quiet ?_⟩
    iterate 3 go_big_quiet_step (fail)
    refine wpQuiet_nil (Rf.pl_one ?_)
    go_wp2
    have hle2:W.heap.size<=wd.heap.size:=hle
    refine⟨below_set4 hle2 _ _ _ _,Rf.pl_quiet ?_⟩
    have hT:TmAt w1 wd.heap.size zTm:=by
     refine⟨?_,?_,?_,?_⟩<;>(rw[hb1.cell (by simp),World.cell?,heap_alloc_new];rfl)
    iterate 1 go_big_quiet_step (fail)
    exact wpQuiet_nil (Rf.pl_done ⟨_,z0,_,_,_,_,_,_,_,_,_,_,_,_,rfl,ho0.out,hT.set z0,((hbd.trans ((Below.refl _ _).alloc hle _)).trans (hb1.mono (by simp;omega))).trans (below_set4 hle2 _ _ _ _)⟩)
  ·rintro a W1 ⟨B0,y0,u14,u15,u16,u17,u18,u19,u20,u21,u22,u13,u23,u24,rfl,hz1,tm0,hb1⟩
   have h0b:=cell_on h0 hb1
   have h1b:=cell_on h1 hb1
   have hb6b:=cell_on hb6 hb1
   have hb0b:=cell_on hb0 hb1
   have h4b:=Rd.later h4 hb1
   have h5b:=RdTs.later h5 hb1
   have q1_0b:=cell_on q1_0 hb1
   have q1_1b:=cell_on q1_1 hb1
   have q1_2b:=cell_on q1_2 hb1
   have q1_3b:=cell_on q1_3 hb1
   have q1_4b:=cell_on q1_4 hb1
   have q1_5b:=cell_on q1_5 hb1
   have q1_6b:=cell_on q1_6 hb1
   have Hb1:=Lib.hid hb1
   have Hz1:=Lib.hid hz1
   have Htm:=Lib.hid tm0
   clear hb1 hz1 h0 h1 hb6 hb0 h4 h5 hR0 ho0 tm0 q0_0 q0_1 q0_2 q0_3 q0_4 q0_5 q0_6 q1_0 q1_1 q1_2 q1_3 q1_4 q1_5 q1_6
   try simp only[]
   go_wp2
   refine Rf.p0 W1.heap.size ?R1 (.quiet [0,1,2,3,4,5,6,7] (.fork 8 12 (.quiet [9,10,11] (.one 12 (.one 13 (.quiet [14] (.done))))) (.one 8 (.quiet [9,10,11] (.one 13 (.quiet [14] (.done))))))) ?_ ?_
   case R1=>exact λa W'=>∃(B:Nat) (z:Tm) (u26 u27 u28 u29 u30 u31 u32 u33 u34 u25 u35 u36:Value),a={tmps:=#[.pointer (some ⟨b,0,none⟩),.agg #[.int .i64 k,.string s,.int .i64 t.k,.string t.x,.string t.l,.string t.y,.slice (some ⟨g0,e0,none⟩) 2 c],undef,.pointer (some ⟨w.heap.size,0,none⟩),.int .i64 0,.pointer (some ⟨B0,0,none⟩),.bool o0.isSome,.pointer (some ⟨B,0,none⟩),.bool o1.isSome,.pointer (some ⟨w.heap.size,6,none⟩),.slice (some ⟨g0,e0,none⟩) 2 c,.int .i64 2,.bool false,u13,u14,u15,u16,u17,u18,u19,u20,u21,u22,u23,u24,u25,u26,u27,u28,u29,u30,u31,u32,u33,u34,u35,u36,undef,undef,undef,undef,undef,undef,undef,undef,undef,undef,undef,undef,undef,undef,undef,undef,undef,undef,undef,undef,undef,undef,undef,undef,undef,undef,undef,undef,undef,undef,undef,undef,undef,undef,undef,undef,undef,undef,undef],defers:=[]}/\(∀u,o1=some u->z=u)/\TmAt W' B z/\Below W1.heap.size W1 W'
   ·intro wd hbd hwz
    have L_h0:=cellL h0b hbd
    have L_h1:=cellL h1b hbd
    have L_hb6:=cellL hb6b hbd
    have L_q1_0:=cellL q1_0b hbd
    have L_q1_1:=cellL q1_1b hbd
    have L_q1_2:=cellL q1_2b hbd
    have L_q1_3:=cellL q1_3b hbd
    have L_q1_4:=cellL q1_4b hbd
    have L_q1_5:=cellL q1_5b hbd
    have L_q1_6:=cellL q1_6b hbd
    have hr1:=(h4b).later hbd
    have hr2:=RdTs.later h5b hbd
    have Hz:=Lib.hid hwz
    have hle:W1.heap.size<=wd.heap.size:=hbd.size
    clear h0b h1b hb6b hb0b q1_0b q1_1b q1_2b q1_3b q1_4b q1_5b q1_6b hwz
    refine Rf.pl_quiet ?_
    iterate 8 go_big_quiet_step (fail)
    refine wpQuiet_nil (Rf.pl_fork ?_ ?_)
    ·go_wp2_with (refine(hR1 _ hr1 hr2).mono ?_;rintro e w1 ⟨rfl,hb1⟩)
     have hb2:=hb1.mono hle
     refine⟨hb2,Rf.pl_quiet ?_⟩
     iterate 3 go_big_quiet_step (fail)
     refine wpQuiet_nil (Rf.pl_one ?_)
     go_wp2
     refine⟨(Below.refl _ _).alloc (Nat.le_trans hle hb1.size) _,Rf.pl_one ?_⟩
     go_wp2
     refine⟨below_reset (Nat.le_trans hle hb1.size) _ _,Rf.pl_quiet ?_⟩
     iterate 1 go_big_quiet_step (fail)
     exact wpQuiet_nil (Rf.pl_done ⟨_,z1,_,_,_,_,_,_,_,_,_,_,_,_,rfl,ho1.out,tmAt_alloc _ _ _,(hbd.trans hb2).alloc (Nat.le_trans hle hb1.size) _⟩)
    ·go_wp2
     refine⟨(Below.refl _ _).alloc hle _,Rf.pl_one ?_⟩
     go_wp2_with (refine(hR1 _ (hr1.later blw) (RdTs.later hr2 blw)).mono ?_;rintro e w1 ⟨rfl,hb1⟩)
     obtain⟨hc,hf⟩:=bcell hb1
     refine⟨hb1.mono (by simp;omega),Rf.pl_quiet ?_⟩
     iterate 3 go_big_quiet_step (fail)
     refine wpQuiet_nil (Rf.pl_one ?_)
     go_wp2
     have hle2:W1.heap.size<=wd.heap.size:=hle
     refine⟨below_set4 hle2 _ _ _ _,Rf.pl_quiet ?_⟩
     have hT:TmAt w1 wd.heap.size zTm:=by
      refine⟨?_,?_,?_,?_⟩<;>(rw[hb1.cell (by simp),World.cell?,heap_alloc_new];rfl)
     iterate 1 go_big_quiet_step (fail)
     exact wpQuiet_nil (Rf.pl_done ⟨_,z1,_,_,_,_,_,_,_,_,_,_,_,_,rfl,ho1.out,hT.set z1,((hbd.trans ((Below.refl _ _).alloc hle _)).trans (hb1.mono (by simp;omega))).trans (below_set4 hle2 _ _ _ _)⟩)
   ·rintro a W2 ⟨B1,y1,u26,u27,u28,u29,u30,u31,u32,u33,u34,u25,u35,u36,rfl,hz2,tm1,hb2⟩
    obtain⟨v0,v1,v2,v3⟩:=Htm.out.on hb2
    obtain⟨w0,w1,w2,w3⟩:=tm1
    have hb0c:=cell_on hb0b hb2
    have HB:=Lib.hid (below_tr (below_tr HB0.out Hb1.out) hb2)
    have Hz2:=Lib.hid hz2
    clear hb2 hz2 h0b h1b hb6b hb0b h4b h5b hR1 ho1 q1_0b q1_1b q1_2b q1_3b q1_4b q1_5b q1_6b Htm
    cases o0 with
    | none =>
     simp only[Option.isSome_none]
     go_wp2
     go_ret
     exact⟨by rw[←Hv.out];rfl,HB.out⟩
    | some x =>
     obtain rfl:=Hz1.out x rfl
     cases o1 with
     | none =>
      simp only[Option.isSome_none,Option.isSome_some]
      go_wp2
      go_ret
      exact⟨by rw[←Hv.out];rfl,HB.out⟩
     | some x' =>
      obtain rfl:=Hz2.out x' rfl
      have hs0:=hz0 y0 rfl
      have hs1:=hz1' y1 rfl
      clear hz0 hz1'
      simp only[Option.isSome_some]
      have hvk:twoI k [some y0,some y1]=cmpK k y0 y1:=rfl
      rw[hvk]at Hv
      by_cases k6:k=6
      ·subst k6
       go_wp2_with fail
       refine(filSame _ _ _ _ _ _ _ _ _ hs0 hs1).mono ?_
       rintro e w4 ⟨rfl,hb4⟩
       go_wp2
       go_ret
       exact⟨by rw[←Hv.out];rfl,below_tr HB.out hb4⟩
      have k6':(k == 6)=false:=by simpa using k6
      by_cases k7:k=7
      ·subst k7
       go_wp2_with fail
       refine(filSame _ _ _ _ _ _ _ _ _ hs0 hs1).mono ?_
       rintro e w4 ⟨rfl,hb4⟩
       go_wp2_with fail
       refine(filNot _ _).mono ?_
       rintro e w5 ⟨rfl,rfl⟩
       go_wp2
       go_ret
       exact⟨by rw[←Hv.out];rfl,below_tr HB.out hb4⟩
      have k7':(k == 7)=false:=by simpa using k7
      by_cases k8:k=8
      ·subst k8
       go_wp2_with fail
       refine(filLess _ _ _ _ _ _ _ _ _ hs0 hs1).mono ?_
       rintro e w4 ⟨rfl,hb4⟩
       go_wp2
       go_ret
       exact⟨by rw[←Hv.out];rfl,below_tr HB.out hb4⟩
      have k8':(k == 8)=false:=by simpa using k8
      by_cases k10:k=10
      ·subst k10
       go_wp2_with fail
       refine(filLess _ _ _ _ _ _ _ _ _ hs1 hs0).mono ?_
       rintro e w4 ⟨rfl,hb4⟩
       go_wp2
       go_ret
       exact⟨by rw[←Hv.out];rfl,below_tr HB.out hb4⟩
      have k10':(k == 10)=false:=by simpa using k10
      by_cases k9:k=9
      ·subst k9
       go_wp2_with fail
       refine(filLess _ _ _ _ _ _ _ _ _ hs1 hs0).mono ?_
       rintro e w4 ⟨rfl,hb4⟩
       go_wp2_with fail
       refine(filNot _ _).mono ?_
       rintro e w5 ⟨rfl,rfl⟩
       go_wp2
       go_ret
       exact⟨by rw[←Hv.out];rfl,below_tr HB.out hb4⟩
      have k9':(k == 9)=false:=by simpa using k9
      have hvv:v=notI (lessI y0 y1):=by rw[←Hv.out];unfold cmpK;rw[k6',k7',k8',k10',k9'];rfl
      have Hvv:=Lib.hid hvv
      clear hvv
      go_wp2_with fail
      refine(filLess _ _ _ _ _ _ _ _ _ hs0 hs1).mono ?_
      rintro e w4 ⟨rfl,hb4⟩
      go_wp2_with fail
      refine(filNot _ _).mono ?_
      rintro e w5 ⟨rfl,rfl⟩
      go_wp2
      go_ret
      exact⟨by rw[Hvv.out];rfl,below_tr HB.out hb4⟩
end Go.Proofs.YtoejnneknpoanaaGreatDoor
