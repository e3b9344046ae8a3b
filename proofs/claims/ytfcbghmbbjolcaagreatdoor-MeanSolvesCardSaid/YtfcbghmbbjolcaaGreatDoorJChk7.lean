/- The program's package check, walked: Query. -/
import Derived.Test.YtfcbghmbbjolcaaGreatDoorJChk6
namespace Go.Proofs.YtfcbghmbbjolcaaGreatDoor
open Go Go.RowKit Go.Maps Go.ChangeMaps Go.Shelf Um Fm Mt Mp
attribute [local go_sem] Oper.semAt_some
def dq {n:Nat} (q:Qy n):Int:=Ah (fj q) q.vars (dA q.ord) (eU n q.fils) (ae q.pats)
theorem Dw {n:Nat} {q:Qy n} (h:fj q=false):dq q=2:=by unfold dq Ah;rw[h];rfl
theorem uw {n:Nat} {q:Qy n} (h:fj q=true) (h2:(fo q.vars || fo (dA q.ord))=true):dq q=9:=by unfold dq Ah;rw[h,h2];rfl
theorem wG {n:Nat} {q:Qy n} (h:fj q=true) (h2:(fo q.vars || fo (dA q.ord))=false):dq q=if g8 (ae q.pats) (eD q) then 15 else 0:=by
 unfold dq Ah eD;rw[h,h2,List.append_assoc];rfl
theorem qv (k a b:List ByteArray):g8 k (a++b)=(g8 k a || g8 k b):=List.any_append
structure uT (w:World) (Bc r:Nat) (known:List ByteArray) (W:World):Prop where
 res:(W.cell? ⟨w.heap.size+1,0,none⟩).isSome=true
 fres:W.frozen? ⟨w.heap.size+1,0,none⟩=false
 chk:W.cell? ⟨Bc,0,none⟩=some (.map (some r))
 cnt:bV W r (bB [] known)
 below:Below w.heap.size w W
 lt:Bc<W.heap.size
theorem uT.own {w:World} {Bc r:Nat} {known:List ByteArray} {S:Nat} (hrS:r<S) (hwS:w.heap.size<=S) {A B:World} {row:Option Nat} (h:uT w Bc r known A) (hg:A.grownBy B row) (hr:∀q,row=some q->S<=q/\∃o:Obj,A.heap[q]?=some o/\o.isCells=false):uT w Bc r known B:=by
 have hr2:∀q,row=some q->∃o:Obj,A.heap[q]?=some o/\o.isCells=false:=λq e=>(hr q e).2
 obtain⟨v,hv⟩:=Option.isSome_iff_exists.1 h.res
 refine⟨by rw[cell_kept hv hg hr2];rfl,(frozen_kept hv hg hr2).trans h.fres,cell_kept h.chk hg hr2,?_,h.below.grown hg h.below.size λq e=>by have:=(hr q e).1;omega,Nat.lt_of_lt_of_le h.lt hg.size⟩
 have hc:=h.cnt
 unfold bV at hc ⊢
 rw[hg.block r (Array.getElem?_eq_some_iff.1 hc).1 (λe=>by have:=(hr r e.symm).1;omega)];exact hc
theorem uT.later {w:World} {Bc r:Nat} {known:List ByteArray} {A B:World} (h:uT w Bc r known A) (hb:Below A.heap.size A B):uT w Bc r known B:=by
 obtain⟨v,hv⟩:=Option.isSome_iff_exists.1 h.res
 exact⟨by rw[ac hv hb];rfl,by rw[hb.frozen (ag hv)];exact h.fres,ac h.chk hb,h.cnt.on hb,aa h.below hb,Nat.lt_of_lt_of_le h.lt hb.size⟩
theorem jl {B Bc r:Nat} {v:World} {z vs:Array Value} {T:TypeId} {m:List (ByteArray × Int)} (hz:v.heap[Bc]?=some (.cells z T (0,0))) (hM:bV v r m) (hBc:B<=Bc) :
  (v.setRow Bc vs).heap[Bc]?=some (.cells vs T (0,0))/\bV (v.setRow Bc vs) r m/\Below B v (v.setRow Bc vs):=by
 refine⟨setRow_heap v Bc _ vs T (0,0) hz,?_,below_setRow (Below.refl _ _) hBc _⟩
 unfold bV at hM ⊢
 rw[setRow_other _ _ _ _ (λe=>by rw[e,hz]at hM;cases hM)];exact hM
theorem oe (r:Nat) (v1 v2 v3 v4 v5 v6 v7 v8:Value) (W:World):(Instr.field 122 (.agg #[.map (some r),v1,v2,v3,v4,v5,v6,v7,v8]) 0).run Tryz.prog W=.ok (.agg #[.map (some r)]) W:=by kernel_rfl
set_option maxRecDepth 100000 in
set_option maxHeartbeats 8000000 in
theorem ID (n:Nat) (q:Qy n) (a1 a2 a3 a4:Option Addr) (c1 c2 c3 c4:Nat) (w:World) (hC:Ctx w) (hf:zT q) (hz:szQ q)
  (hq:RdQ n w [.bool q.ask,.bool q.dist,.slice a1 q.vars.length c1,.slice a2 q.pats.length c2,.slice a3 q.fils.length c3,.slice a4 q.ord.length c4,.int .i64 q.lim,.int .i64 q.off] q)
  (h1:Rd w a1 (q.vars.map Value.string)) (h2:bI w a2 q.pats) (h3:aJ n w a3 q.fils) (h4:eN w a4 q.ord) :
  Calls Tryz.prog 34 #[.agg #[.bool q.ask,.bool q.dist,.slice a1 q.vars.length c1,.slice a2 q.pats.length c2,.slice a3 q.fils.length c3,.slice a4 q.ord.length c4,.int .i64 q.lim,.int .i64 q.off]] w λe w'=>e=.returned (.int .i64 (dq q))/\Below w.heap.size w w':=by
 refine(callsIn_wide (n:=6)).1 ?_
 refine callsIn_of_wp_marks Tryz.func34 rfl trivial ?_ rfl
 simp only[Tryz.ntmps34,List.size_toArray,List.length_cons,List.length_nil,Nat.reduceAdd,Nat.reduceSub,Array.replicate_succ,Array.replicate_zero,List.push_toArray,List.append_toArray,List.nil_append,List.cons_append]
 refine wpIn_wide.2 ?_
 obtain⟨W0,hW0⟩:∃W:World,(w.alloc (.cells #[.bool q.ask,.bool q.dist,.slice a1 q.vars.length c1,.slice a2 q.pats.length c2,.slice a3 q.fils.length c3,.slice a4 q.ord.length c4,.int .i64 q.lim,.int .i64 q.off] 28)).alloc (.cells #[.int .i64 0] 38)=W:=⟨_,rfl⟩
 have hB0:Below w.heap.size w W0:=by rw[←hW0];exact blw
 have hbx:∀(i:Nat) v,(#[.bool q.ask,.bool q.dist,.slice a1 q.vars.length c1,.slice a2 q.pats.length c2,.slice a3 q.fils.length c3,.slice a4 q.ord.length c4,.int .i64 q.lim,.int .i64 q.off]:Array Value)[i]?=some v->W0.cell? ⟨w.heap.size,i,none⟩=some v:=by
  intro i v hv;rw[←hW0,World.cell?,aL];exact hv
 have hr0:W0.cell? ⟨w.heap.size+1,0,none⟩=some (.int .i64 0):=by rw[←hW0,World.cell?,av];rfl
 have hf0:W0.frozen? ⟨w.heap.size+1,0,none⟩=false:=by rw[←hW0,World.frozen?,av];rfl
 have hR:=GT n q _ W0 (hC.step hB0) (hq.later hB0) hz
 have k1:=h1.later hB0
 have k2:=RdL.mono h2 hB0 (λ_ _ _ h=>h)
 have k3:=aJ.later h3 hB0
 have k4:=RdL.mono h4 hB0 (λ_ _ _ h=>h)
 have HW:=Lib.hid hW0
 have HB0:=Lib.hid hB0
 clear hB0 h1 h2 h3 h4 hq hC hW0
 cases hrq:fj q
 ·rw[hrq]at hR
  have He:=Lib.hid (Dw hrq)
  clear k1 k2 k3 k4 hrq hz hf hbx
  go_wp2_with fail
  simp only[HW.out]
  refine hR.mono ?_
  rintro e w1 ⟨rfl,hb1⟩
  have d0:=ac hr0 hb1
  have d1:w1.frozen? ⟨w.heap.size+1,0,none⟩=false:=by rw[hb1.frozen (ag hr0)];exact hf0
  clear hr0 hf0 hR
  go_wp2
  have hc3:(w1.setCell ⟨w.heap.size+1,0,none⟩ (.int .i64 2)).cell? ⟨w.heap.size+1,0,none⟩=some (.int .i64 2):=World.cell?_setCell_same' _ _ _ (by rw[d0];rfl)
  refine⟨.int .i64 2,?_,by rw[He.out],(aa HB0.out hb1).setCell (p:=⟨w.heap.size+1,0,none⟩) (by simp) _⟩
  simp[results,Tryz.results34,go_sem,hc3]
 ·rw[hrq]at hR
  go_wp2_with fail
  simp only[HW.out]
  refine hR.mono ?_
  rintro e w1 ⟨rfl,hb1⟩
  have hbx1:∀(i:Nat) v,(#[.bool q.ask,.bool q.dist,.slice a1 q.vars.length c1,.slice a2 q.pats.length c2,.slice a3 q.fils.length c3,.slice a4 q.ord.length c4,.int .i64 q.lim,.int .i64 q.off]:Array Value)[i]?=some v->w1.cell? ⟨w.heap.size,i,none⟩=some v:=λi v hv=>ac (hbx i v hv) hb1
  have d0:=ac hr0 hb1
  have d1:w1.frozen? ⟨w.heap.size+1,0,none⟩=false:=by rw[hb1.frozen (ag hr0)];exact hf0
  have j1:=k1.later hb1
  have j2:=RdL.mono k2 hb1 (λ_ _ _ h=>h)
  have j3:=aJ.later k3 hb1
  have j4:=RdL.mono k4 hb1 (λ_ _ _ h=>h)
  have HB1:=Lib.hid (aa HB0.out hb1)
  have hlt0:w.heap.size+1<w1.heap.size:=ag d0
  clear hR k1 k2 k3 k4 hbx hr0 hf0 hb1 hz
  obtain⟨f1,f2,f3,f4,f5,f6⟩:=id hf
  have hf':=hf
  have hCi:(Tryz.prog.info? 122).map (·.size)=some 9:=by kernel_rfl
  have hvl:=fu q.pats
  go_wp2
  refine Rf.p0 w1.heap.size ?R (.quiet [0,1,2] (.fork 3 5 (.fork 4 5 (.one 5 (.one 6 (.done))) (.one 4 (.one 6 (.done)))) (.one 3 (.one 4 (.one 6 (.done)))))) ?_ ?_
  case R=>exact λa W'=>∃(Bc r:Nat) (u5 u6 u7 u8 u9 u10 u11 u12:Value),a={tmps:=#[.agg #[.bool q.ask,.bool q.dist,.slice a1 q.vars.length c1,.slice a2 q.pats.length c2,.slice a3 q.fils.length c3,.slice a4 q.ord.length c4,.int .i64 q.lim,.int .i64 q.off],.pointer (some ⟨w.heap.size,0,none⟩),.pointer (some ⟨w.heap.size+1,0,none⟩),.pointer (some ⟨Bc,0,none⟩),undef,u5,u6,u7,u8,u9,u10,u11,u12,undef,undef,undef,undef,undef,undef,undef,undef,undef,undef,undef,undef,undef,undef,undef,undef,undef,undef,undef,undef,undef,undef],defers:=[]}/\W'.heap[Bc]?=some (.cells #[.map (some r),.bool q.ask,.bool q.dist,.slice a1 q.vars.length c1,.slice a2 q.pats.length c2,.slice a3 q.fils.length c3,.slice a4 q.ord.length c4,.int .i64 q.lim,.int .i64 q.off] 122 (0,0))/\bV W' r (bB [] (ae q.pats))/\w1.heap.size<=r/\w1.heap.size<=Bc/\Below w1.heap.size w1 W'
  ·intro wd hbd hwz
   have b0:=cellL (hbx1 0 (.bool q.ask) rfl) hbd
   have b1:=cellL (hbx1 1 (.bool q.dist) rfl) hbd
   have b2:=cellL (hbx1 2 (.slice a1 q.vars.length c1) rfl) hbd
   have b3:=cellL (hbx1 3 (.slice a2 q.pats.length c2) rfl) hbd
   have b4:=cellL (hbx1 4 (.slice a3 q.fils.length c3) rfl) hbd
   have b5:=cellL (hbx1 5 (.slice a4 q.ord.length c4) rfl) hbd
   have b6:=cellL (hbx1 6 (.int .i64 q.lim) rfl) hbd
   have b7:=cellL (hbx1 7 (.int .i64 q.off) rfl) hbd
   have e2:=RdL.mono j2 hbd (λ_ _ _ h=>h)
   have Hz:=Lib.hid hwz
   have Hbd:=Lib.hid hbd
   have hle:w1.heap.size<=wd.heap.size:=hbd.size
   clear j1 j2 j3 j4 hbx1 hwz d0 d1 hbd
   refine Rf.pl_quiet ?_
   iterate 3 go_big_quiet_step (fail)
   refine wpQuiet_nil (Rf.pl_fork ?_ ?_)
   ·go_wp2_with (refine(C0 q.pats a2 c2 wd e2 f2).mono ?_;rintro e v1 ⟨x1,rfl,own1,g1⟩)
    obtain⟨A1,m1,rfl,_,r1⟩:=own_slice own1
    have G1:Below w1.heap.size wd v1:=g1.mono hle
    have hs1:w1.heap.size<=v1.heap.size:=Nat.le_trans hle g1.size
    clear own1 e2
    refine⟨G1,Rf.pl_fork ?_ ?_⟩
    ·go_wp2_with (refine(uL (ae q.pats) A1 m1 q.ask q.dist q.vars.length q.pats.length q.fils.length q.ord.length a1 a2 a3 a4 c1 c2 c3 c4 q.lim q.off v1 r1 (by omega)).mono ?_;rintro e v2 ⟨r,rfl,hM,hr,g2⟩)
     have hs2:w1.heap.size<=v2.heap.size:=Nat.le_trans hs1 g2.size
     refine⟨g2.mono hs1,Rf.pl_one ?_⟩
     go_wp2_with fail
     have g3:Below v2.heap.size v2 (v2.alloc (.cells #[.map none,.bool false,.bool false,.slice none 0 0,.slice none 0 0,.slice none 0 0,.slice none 0 0,.int .i64 0,.int .i64 0] 122)):=blw
     refine⟨g3.mono hs2,Rf.pl_one ?_⟩
     obtain⟨q1,q2,q3⟩:=jl (B:=w1.heap.size) (vs:=#[.map (some r),.bool q.ask,.bool q.dist,.slice a1 q.vars.length c1,.slice a2 q.pats.length c2,.slice a3 q.fils.length c3,.slice a4 q.ord.length c4,.int .i64 q.lim,.int .i64 q.off]) (heap_alloc_new v2 (.cells #[.map none,.bool false,.bool false,.slice none 0 0,.slice none 0 0,.slice none 0 0,.slice none 0 0,.int .i64 0,.int .i64 0] 122)) (hM.on g3) hs2
     go_wp2_with (refine wpList_store_row rfl 122 _ _ rfl rfl rfl hCi (heap_alloc_new _ _) rfl rfl ?_)
     exact⟨q3,Rf.pl_done ⟨v2.heap.size,r,_,_,_,_,_,_,_,_,rfl,q1,q2,by omega,hs2,(((Hbd.out.trans G1).trans (g2.mono hs1)).trans (g3.mono hs2)).trans q3⟩⟩
    ·go_wp2_with fail
     have g3:Below v1.heap.size v1 (v1.alloc (.cells #[.map none,.bool false,.bool false,.slice none 0 0,.slice none 0 0,.slice none 0 0,.slice none 0 0,.int .i64 0,.int .i64 0] 122)):=blw
     refine⟨g3.mono hs1,Rf.pl_one ?_⟩
     have hh:(v1.alloc (.cells #[.map none,.bool false,.bool false,.slice none 0 0,.slice none 0 0,.slice none 0 0,.slice none 0 0,.int .i64 0,.int .i64 0] 122)).heap[v1.heap.size]?=_:=heap_alloc_new v1 (.cells #[.map none,.bool false,.bool false,.slice none 0 0,.slice none 0 0,.slice none 0 0,.slice none 0 0,.int .i64 0,.int .i64 0] 122)
     have hsz3:(v1.alloc (.cells #[.map none,.bool false,.bool false,.slice none 0 0,.slice none 0 0,.slice none 0 0,.slice none 0 0,.int .i64 0,.int .i64 0] 122)).heap.size=v1.heap.size+1:=by simp
     have r2:=r1.later g3
     obtain⟨V,hV⟩:∃V:World,v1.alloc (.cells #[.map none,.bool false,.bool false,.slice none 0 0,.slice none 0 0,.slice none 0 0,.slice none 0 0,.int .i64 0,.int .i64 0] 122)=V:=⟨_,rfl⟩
     rw[hV]at hh hsz3 r2 g3
     simp only[hV]
     have HV:=Lib.hid hV
     have Hs3:=Lib.hid hsz3
     clear hV hsz3
     go_wp2_with (refine(uL (ae q.pats) A1 m1 q.ask q.dist q.vars.length q.pats.length q.fils.length q.ord.length a1 a2 a3 a4 c1 c2 c3 c4 q.lim q.off V r2 (by omega)).mono ?_;rintro e v2 ⟨r,rfl,hM,hr,g2⟩)
     have hh2:=(g2.block _ (by rw[Hs3.out];omega)).trans hh
     have hsV:w1.heap.size<=V.heap.size:=by rw[Hs3.out];omega
     refine⟨g2.mono hsV,Rf.pl_one ?_⟩
     obtain⟨q1,q2,q3⟩:=jl (B:=w1.heap.size) (vs:=#[.map (some r),.bool q.ask,.bool q.dist,.slice a1 q.vars.length c1,.slice a2 q.pats.length c2,.slice a3 q.fils.length c3,.slice a4 q.ord.length c4,.int .i64 q.lim,.int .i64 q.off]) hh2 hM hs1
     go_wp2_with (refine wpList_store_row rfl 122 _ _ rfl rfl rfl hCi hh2 rfl rfl ?_)
     exact⟨q3,Rf.pl_done ⟨v1.heap.size,r,_,_,_,_,_,_,_,_,rfl,q1,q2,by omega,hs1,(((Hbd.out.trans G1).trans (g3.mono hs1)).trans (g2.mono hsV)).trans q3⟩⟩
   ·go_wp2_with fail
    have g0:Below wd.heap.size wd (wd.alloc (.cells #[.map none,.bool false,.bool false,.slice none 0 0,.slice none 0 0,.slice none 0 0,.slice none 0 0,.int .i64 0,.int .i64 0] 122)):=blw
    refine⟨g0.mono hle,Rf.pl_one ?_⟩
    have hh:(wd.alloc (.cells #[.map none,.bool false,.bool false,.slice none 0 0,.slice none 0 0,.slice none 0 0,.slice none 0 0,.int .i64 0,.int .i64 0] 122)).heap[wd.heap.size]?=_:=heap_alloc_new wd (.cells #[.map none,.bool false,.bool false,.slice none 0 0,.slice none 0 0,.slice none 0 0,.slice none 0 0,.int .i64 0,.int .i64 0] 122)
    have hsz3:(wd.alloc (.cells #[.map none,.bool false,.bool false,.slice none 0 0,.slice none 0 0,.slice none 0 0,.slice none 0 0,.int .i64 0,.int .i64 0] 122)).heap.size=wd.heap.size+1:=by simp
    have e3:=RdL.mono e2 g0 (λ_ _ _ h=>h)
    obtain⟨V,hV⟩:∃V:World,wd.alloc (.cells #[.map none,.bool false,.bool false,.slice none 0 0,.slice none 0 0,.slice none 0 0,.slice none 0 0,.int .i64 0,.int .i64 0] 122)=V:=⟨_,rfl⟩
    rw[hV]at hh hsz3 e3 g0
    simp only[hV]
    have HV:=Lib.hid hV
    have Hs3:=Lib.hid hsz3
    clear hV hsz3 e2
    have hsV:w1.heap.size<=V.heap.size:=by rw[Hs3.out];omega
    go_wp2_with (refine(C0 q.pats a2 c2 V e3 f2).mono ?_;rintro e v1 ⟨x1,rfl,own1,g1⟩)
    obtain⟨A1,m1,rfl,_,r1⟩:=own_slice own1
    have hs1:w1.heap.size<=v1.heap.size:=Nat.le_trans hsV g1.size
    have hh1:=(g1.block _ (by rw[Hs3.out];omega)).trans hh
    have hl1:wd.heap.size<v1.heap.size:=by have:=g1.size;rw[Hs3.out]at this;omega
    clear own1 e3 hh
    refine⟨g1.mono hsV,Rf.pl_one ?_⟩
    go_wp2_with (refine(uL (ae q.pats) A1 m1 q.ask q.dist q.vars.length q.pats.length q.fils.length q.ord.length a1 a2 a3 a4 c1 c2 c3 c4 q.lim q.off v1 r1 (by omega)).mono ?_;rintro e v2 ⟨r,rfl,hM,hr,g2⟩)
    have hh2:=(g2.block _ hl1).trans hh1
    refine⟨g2.mono hs1,Rf.pl_one ?_⟩
    obtain⟨q1,q2,q3⟩:=jl (B:=w1.heap.size) (vs:=#[.map (some r),.bool q.ask,.bool q.dist,.slice a1 q.vars.length c1,.slice a2 q.pats.length c2,.slice a3 q.fils.length c3,.slice a4 q.ord.length c4,.int .i64 q.lim,.int .i64 q.off]) hh2 hM hle
    go_wp2_with (refine wpList_store_row rfl 122 _ _ rfl rfl rfl hCi hh2 rfl rfl ?_)
    exact⟨q3,Rf.pl_done ⟨wd.heap.size,r,_,_,_,_,_,_,_,_,rfl,q1,q2,by omega,hle,(((Hbd.out.trans (g0.mono hle)).trans (g1.mono hsV)).trans (g2.mono hs1)).trans q3⟩⟩
  ·rintro a W1 ⟨Bc,r,u5,u6,u7,u8,u9,u10,u11,u12,rfl,hbc,hM,hr,hBc,hb2⟩
   have hbxW:∀(i:Nat) v,(#[.bool q.ask,.bool q.dist,.slice a1 q.vars.length c1,.slice a2 q.pats.length c2,.slice a3 q.fils.length c3,.slice a4 q.ord.length c4,.int .i64 q.lim,.int .i64 q.off]:Array Value)[i]?=some v->W1.cell? ⟨w.heap.size,i,none⟩=some v:=λi v hv=>ac (hbx1 i v hv) hb2
   have hcW:∀(i:Nat) v,(#[.map (some r),.bool q.ask,.bool q.dist,.slice a1 q.vars.length c1,.slice a2 q.pats.length c2,.slice a3 q.fils.length c3,.slice a4 q.ord.length c4,.int .i64 q.lim,.int .i64 q.off]:Array Value)[i]?=some v->W1.cell? ⟨Bc,i,none⟩=some v:=λi v hv=>by rw[World.cell?,hbc];exact hv
   have d2:=ac d0 hb2
   have d3:W1.frozen? ⟨w.heap.size+1,0,none⟩=false:=by rw[hb2.frozen (ag d0)];exact d1
   have i1:=j1.later hb2
   have i3:=aJ.later j3 hb2
   have i4:=RdL.mono j4 hb2 (λ_ _ _ h=>h)
   have HX:=Lib.hid hbxW
   have HZ:=Lib.hid hcW
   have HB2:=Lib.hid (aa HB1.out hb2)
   have HM:=Lib.hid hM
   have hltB:w.heap.size+1<Bc:=by omega
   have hBcW:Bc<W1.heap.size:=(Array.getElem?_eq_some_iff.1 hbc).1
   have hrW:r<W1.heap.size:=(Array.getElem?_eq_some_iff.1 (show W1.heap[r]?=_ from hM)).1
   clear hbx1 hbxW hcW hbc d0 d1 j1 j2 j3 j4 hb2 hM
   obtain⟨D,hD⟩:∃D,(fo q.vars || fo (dA q.ord))=D:=⟨_,rfl⟩
   have HD:=Lib.hid hD
   clear hD
   go_wp2
   refine Rf.p0 W1.heap.size ?R2 (.quiet [0,3,4] (.one 1 (.quiet [2] (.one 5 (.quiet [6,7,10] (.one 8 (.quiet [9] (.one 11 (.one 12 (.quiet [13] (.done))))))))))) ?_ ?_
   case R2=>exact λa W'=>∃(u13 u14 u15 u16 u17 u18 u19 u20 u21 u22 u23 u24 u25:Value),a={tmps:=#[.agg #[.bool q.ask,.bool q.dist,.slice a1 q.vars.length c1,.slice a2 q.pats.length c2,.slice a3 q.fils.length c3,.slice a4 q.ord.length c4,.int .i64 q.lim,.int .i64 q.off],.pointer (some ⟨w.heap.size,0,none⟩),.pointer (some ⟨w.heap.size+1,0,none⟩),.pointer (some ⟨Bc,0,none⟩),undef,u5,u6,u7,u8,u9,u10,u11,u12,u13,u14,u15,u16,u17,u18,u19,u20,u21,u22,u23,u24,u25,.bool D,undef,undef,undef,undef,undef,undef,undef,undef],defers:=[]}/\Below W1.heap.size W1 W'
   ·intro wd hbd hwz
    have y0:=cellL (HX.out 0 (.bool q.ask) rfl) hbd
    have y1:=cellL (HX.out 1 (.bool q.dist) rfl) hbd
    have y2:=cellL (HX.out 2 (.slice a1 q.vars.length c1) rfl) hbd
    have y3:=cellL (HX.out 3 (.slice a2 q.pats.length c2) rfl) hbd
    have y4:=cellL (HX.out 4 (.slice a3 q.fils.length c3) rfl) hbd
    have y5:=cellL (HX.out 5 (.slice a4 q.ord.length c4) rfl) hbd
    have y6:=cellL (HX.out 6 (.int .i64 q.lim) rfl) hbd
    have y7:=cellL (HX.out 7 (.int .i64 q.off) rfl) hbd
    have e1:=i1.later hbd
    have e4:=RdL.mono i4 hbd (λ_ _ _ h=>h)
    have Hbd:=Lib.hid hbd
    have hle:W1.heap.size<=wd.heap.size:=hbd.size
    have I4:=Lib.hid i4
    clear i1 i3 i4 hwz hbd d2 d3
    refine Rf.pl_quiet ?_
    iterate 3 go_big_quiet_step (fail)
    refine wpQuiet_nil (Rf.pl_one ?_)
    go_wp2_with (refine(uL [] none 0 q.ask q.dist q.vars.length q.pats.length q.fils.length q.ord.length a1 a2 a3 a4 c1 c2 c3 c4 q.lim q.off wd (Rd.nil _ _) (by simp)).mono ?_;rintro e v2 ⟨r2,rfl,hM2,hr2,g2⟩)
    refine⟨g2.mono hle,Rf.pl_quiet ?_⟩
    have hs2:W1.heap.size<=v2.heap.size:=Nat.le_trans hle g2.size
    have e12:=e1.later g2
    have e42:=RdL.mono e4 g2 (λ_ _ _ h=>h)
    have hb2:=Hbd.out.trans (g2.mono hle)
    clear e1 e4 y0 y1 y2 y3 y4 y5 y6 y7
    have hfd:∀W:World,(Instr.field 122 (.agg #[.map (some r2),.bool q.ask,.bool q.dist,.slice a1 q.vars.length c1,.slice a2 q.pats.length c2,.slice a3 q.fils.length c3,.slice a4 q.ord.length c4,.int .i64 q.lim,.int .i64 q.off]) 0).run Tryz.prog W=.ok (.agg #[.map (some r2)]) W:=λW=>oe _ _ _ _ _ _ _ _ _ W
    iterate 1 go_big_quiet_step (fail)
    refine wpQuiet_nil (Rf.pl_one ?_)
    clear hfd
    have hmt:=E7 r2 (bB [] []) q.vars a1 c1 v2 hM2 e12 (by omega) (λs=>by simp[bB,aK])
    have htw:dh (bB [] []) q.vars=fo q.vars:=pC _
    obtain⟨dv,hdv⟩:∃dv,fo q.vars=dv:=⟨_,rfl⟩
    rw[hdv]at htw
    have Htw:=Lib.hid htw
    clear htw e12
    go_wp2_with (refine hmt.mono ?_;rintro e v3 ⟨he,hM3,g3⟩;rw[Htw.out]at he;subst he)
    have hb23:Below W1.heap.size v2 v3:=(Below.refl _ _).grown g3 hs2 λq e=>by cases e;omega
    have hb3:=hb2.trans hb23
    refine⟨hb23,Rf.pl_quiet ?_⟩
    have hs3:W1.heap.size<=v3.heap.size:=hb3.size
    have e43:eN v3 a4 q.ord:=RdL.mono I4.out hb3 (λ_ _ _ h=>h)
    clear hmt e42 g3 hM2 hM3
    cases dv
    ·have HDk:Hid (fo (dA q.ord)=D):=by show _=_;rw[←HD.out,hdv];rfl
     clear hdv
     have x0:=cellL (HX.out 0 (.bool q.ask) rfl) hb3
     have x1:=cellL (HX.out 1 (.bool q.dist) rfl) hb3
     have x2:=cellL (HX.out 2 (.slice a1 q.vars.length c1) rfl) hb3
     have x3:=cellL (HX.out 3 (.slice a2 q.pats.length c2) rfl) hb3
     have x4:=cellL (HX.out 4 (.slice a3 q.fils.length c3) rfl) hb3
     have x5:=cellL (HX.out 5 (.slice a4 q.ord.length c4) rfl) hb3
     have x6:=cellL (HX.out 6 (.int .i64 q.lim) rfl) hb3
     have x7:=cellL (HX.out 7 (.int .i64 q.off) rfl) hb3
     have z0:=cellL (HZ.out 0 (.map (some r)) rfl) hb3
     have z1:=cellL (HZ.out 1 (.bool q.ask) rfl) hb3
     have z2:=cellL (HZ.out 2 (.bool q.dist) rfl) hb3
     have z3:=cellL (HZ.out 3 (.slice a1 q.vars.length c1) rfl) hb3
     have z4:=cellL (HZ.out 4 (.slice a2 q.pats.length c2) rfl) hb3
     have z5:=cellL (HZ.out 5 (.slice a3 q.fils.length c3) rfl) hb3
     have z6:=cellL (HZ.out 6 (.slice a4 q.ord.length c4) rfl) hb3
     have z7:=cellL (HZ.out 7 (.int .i64 q.lim) rfl) hb3
     have z8:=cellL (HZ.out 8 (.int .i64 q.off) rfl) hb3
     iterate 3 go_big_quiet_step (fail)
     refine wpQuiet_nil (Rf.pl_one ?_)
     go_wp2_with (refine(uL [] none 0 q.ask q.dist q.vars.length q.pats.length q.fils.length q.ord.length a1 a2 a3 a4 c1 c2 c3 c4 q.lim q.off v3 (Rd.nil _ _) (by simp)).mono ?_;rintro e v4 ⟨r4,rfl,hM4,hr4,g4⟩)
     clear x0 x1 x2 x3 x4 x5 x6 x7 z0 z1 z2 z3 z4 z5 z6 z7 z8
     refine⟨g4.mono hs3,Rf.pl_quiet ?_⟩
     have hfd:∀W:World,(Instr.field 122 (.agg #[.map (some r4),.bool q.ask,.bool q.dist,.slice a1 q.vars.length c1,.slice a2 q.pats.length c2,.slice a3 q.fils.length c3,.slice a4 q.ord.length c4,.int .i64 q.lim,.int .i64 q.off]) 0).run Tryz.prog W=.ok (.agg #[.map (some r4)]) W:=λW=>oe _ _ _ _ _ _ _ _ _ W
     iterate 1 go_big_quiet_step (fail)
     refine wpQuiet_nil (Rf.pl_one ?_)
     clear hfd
     have hs4:W1.heap.size<=v4.heap.size:=Nat.le_trans hs3 g4.size
     go_wp2_with (refine(Gu (some r) q.ask q.dist q.vars.length q.pats.length q.fils.length a1 a2 a3 a4 c1 c2 c3 c4 q.lim q.off q.ord v4 (RdL.mono e43 g4 (λ_ _ _ h=>h)) (by omega)).mono ?_;rintro e v5 ⟨x5,rfl,own5,g5⟩)
     obtain⟨A5,m5,rfl,_,r5⟩:=own_slice own5
     refine⟨g5.mono hs4,Rf.pl_one ?_⟩
     have hs5:W1.heap.size<=v5.heap.size:=Nat.le_trans hs4 g5.size
     have hmt2:=E7 r4 (bB [] []) (dA q.ord) A5 m5 v5 (hM4.on g5) r5 (by rw[kM];omega) (λs=>by simp[bB,aK])
     have htw2:dh (bB [] []) (dA q.ord)=D:=(pC _).trans HDk.out
     have Htw2:=Lib.hid htw2
     clear htw2 own5 r5 e43
     go_wp2_with (refine hmt2.mono ?_;rintro e v6 ⟨he,hM6,g6⟩;rw[Htw2.out]at he;subst he)
     have hb56:Below W1.heap.size v5 v6:=(Below.refl _ _).grown g6 hs5 λq e=>by cases e;omega
     refine⟨hb56,Rf.pl_quiet ?_⟩
     have hb6:=((hb3.trans (g4.mono hs3)).trans (g5.mono hs4)).trans hb56
     clear hmt2 g6 hM4 hM6
     iterate 1 go_big_quiet_step (fail)
     exact wpQuiet_nil (Rf.pl_done ⟨_,_,_,_,_,_,_,_,_,_,_,_,_,rfl,hb6⟩)
    ·obtain rfl:D=true:=by rw[←HD.out,hdv];rfl
     clear hdv
     iterate 3 go_big_quiet_step (fail)
     refine wpQuiet_nil (Rf.pl_one ?_)
     go_wp2
     refine⟨Below.refl _ _,Rf.pl_quiet ?_⟩
     iterate 1 go_big_quiet_step (fail)
     refine wpQuiet_nil (Rf.pl_one ?_)
     go_wp2
     refine⟨Below.refl _ _,Rf.pl_one ?_⟩
     go_wp2
     refine⟨Below.refl _ _,Rf.pl_quiet ?_⟩
     iterate 1 go_big_quiet_step (fail)
     exact wpQuiet_nil (Rf.pl_done ⟨_,_,_,_,_,_,_,_,_,_,_,_,_,rfl,hb3⟩)
   ·rintro a W2 ⟨u13,u14,u15,u16,u17,u18,u19,u20,u21,u22,u23,u24,u25,rfl,hb3⟩
    have d4:=ac d2 hb3
    have d5:W2.frozen? ⟨w.heap.size+1,0,none⟩=false:=by rw[hb3.frozen (ag d2)];exact d3
    have hB3:=aa HB2.out hb3
    have HB3:=Lib.hid hB3
    cases D
    ·-- none stands twice
     have Hlk:=Lib.hid (wG hrq HD.out)
     have k1:=i1.later hb3
     have k3:=aJ.later i3 hb3
     have k4:=RdL.mono i4 hb3 (λ_ _ _ h=>h)
     have hU:=Js (some r) n q a1 a2 a3 a4 c1 c2 c3 c4 W2 hf k1 k3 k4
     have z0:=ac (HZ.out 0 (.map (some r)) rfl) hb3
     have z1:=ac (HZ.out 1 (.bool q.ask) rfl) hb3
     have z2:=ac (HZ.out 2 (.bool q.dist) rfl) hb3
     have z3:=ac (HZ.out 3 (.slice a1 q.vars.length c1) rfl) hb3
     have z4:=ac (HZ.out 4 (.slice a2 q.pats.length c2) rfl) hb3
     have z5:=ac (HZ.out 5 (.slice a3 q.fils.length c3) rfl) hb3
     have z6:=ac (HZ.out 6 (.slice a4 q.ord.length c4) rfl) hb3
     have z7:=ac (HZ.out 7 (.int .i64 q.lim) rfl) hb3
     have z8:=ac (HZ.out 8 (.int .i64 q.off) rfl) hb3
     have HM3:=Lib.hid (HM.out.on hb3)
     have hrW2:r<W2.heap.size:=Nat.lt_of_lt_of_le hrW hb3.size
     have hBcW2:Bc<W2.heap.size:=Nat.lt_of_lt_of_le hBcW hb3.size
     have hlt2:w.heap.size+1<W2.heap.size:=ag d4
     clear i1 i3 i4 k1 k3 k4 hb3 d2 d3 hB3 hf
     go_wp2_with (refine hU.mono ?_;rintro e W3 ⟨Bp,rfl,⟨A,c,hbp,hrA,hBp,hAb⟩,hb4⟩)
     have hI0:uT w Bc r (ae q.pats) W3:=by
      refine⟨by rw[ac d4 hb4];rfl,by rw[hb4.frozen (ag d4)];exact d5,ac z0 hb4,HM3.out.on hb4,aa HB3.out hb4,Nat.lt_of_lt_of_le hBcW2 hb4.size⟩
     have hs:=uK Fence.wide rfl trivial rfl (λk _=>k == w.heap.size+1) (6-1) W3 (eD q) A c Bp
      (by
       rcases hrA with h0|⟨g,o,hA,hx⟩
       ·exact .inl h0
       ·refine .inr ⟨g,o,hA,λj u hu=>gt.2 ⟨hx j u hu,?_⟩⟩
        have:=hAb _ hA
        simp at this ⊢
        omega)
      (by
       have hsl:=pP hf'
       omega) (gt.2 ⟨hbp,by simp;omega⟩)
     have hrW3:r<W3.heap.size:=Nat.lt_of_lt_of_le hrW2 hb4.size
     have hlt3:w.heap.size+1<W3.heap.size:=Nat.lt_of_lt_of_le hlt2 hb4.size
     have hsl:=pP hf'
     clear hU d4 d5 z0 z1 z2 z3 z4 z5 z6 z7 z8 hb4 hbp hrA hAb
     refine(wpIn_wide (n:=6)).1 ?_
     refine wpIn_rangeFunc_ownH rfl (by omega) (gf:=180) (lb:=#[.pointer (some ⟨Bp,0,none⟩)]) rfl trivial (enters_of Tryz.func180 (by kernel_rfl) rfl)
      hs (λh k=>h.trans k) (λW l o o' hl ho hc _=>Kb.put hl ho hc) (Below.refl _ _) (λ_=>rfl)
      (λpre W=>uT w Bc r (ae q.pats) W/\Kb (λk _=>k == w.heap.size+1) W3.heap.size W3 W/\g8 (ae q.pats) pre=false)
      (λcc pre W=>cc=.ret/\W.cell? ⟨w.heap.size+1,0,none⟩=some (.int .i64 15)/\Below w.heap.size w W/\g8 (ae q.pats) pre=true)
      (λs A B row hs hg hr=>⟨hs.1.own hrW3 (by omega) hg hr,hs.2.1.grown hg hr,hs.2.2⟩)
      (λc s A B row hs hg hr=>⟨hs.1,cell_kept hs.2.1 hg (λq e=>(hr q e).2),hs.2.2.1.grown hg hs.2.2.1.size (λq e=>by have:=(hr q e).1;omega),hs.2.2.2⟩)
      ⟨hI0,Kb.refl _ _ _,rfl⟩
      (λs a' W=>∃(x27:Value),a'={tmps:=#[.agg #[.bool q.ask,.bool q.dist,.slice a1 q.vars.length c1,.slice a2 q.pats.length c2,.slice a3 q.fils.length c3,.slice a4 q.ord.length c4,.int .i64 q.lim,.int .i64 q.off],.pointer (some ⟨w.heap.size,0,none⟩),.pointer (some ⟨w.heap.size+1,0,none⟩),.pointer (some ⟨Bc,0,none⟩),.string s,u5,u6,u7,u8,u9,u10,u11,u12,u13,u14,u15,u16,u17,u18,u19,u20,u21,u22,u23,u24,u25,.bool false,x27,.func (.func 180) #[] #[.pointer (some ⟨Bp,0,none⟩)],.string s,undef,undef,undef,undef,undef],defers:=[]})
      ?hAx ?assign ?body ?done ?stop
     case hAx =>
      rintro a a' _ A B row h hg hr
      exact h
     case assign =>
      rintro l' pre a W K ⟨hi,hk,hlk⟩ hK
      have e:∀(b:Array Value) (v:Value),(#[29].zip #[v]).foldl (λt (p,v)=>t.setIfInBounds p v) b=b.setIfInBounds 29 v:=λb v=>by simp
      rw[e]
      have Hfin:=Lib.hid (λa' h=>hK a' W (KeepsFrom.refl _ _) (Kb.refl _ _ _) ⟨hi,hk,hlk⟩ h)
      clear hK hi hk hlk hI0 hs
      gi_wp2
      exact Hfin.out _ ⟨_,rfl⟩
     case body =>
      rintro l' pre s a' W hl' ⟨rr,hrr⟩ ⟨hi,hk,hlk⟩ ⟨x27,rfl⟩ hlN
      have hH:=K9 r (bB [] (ae q.pats)) s W hi.cnt
      rw[tP]at hH
      have c0:=hi.chk
      have hdd:∀k:Nat,((Fence.wide.inRound l').depth.isSome=true->1<=k):=λk h=>by cases h
      have c3:=hi.fres
      obtain⟨v0,c4⟩:=Option.isSome_iff_exists.1 hi.res
      have hnx:g8 (ae q.pats) (pre++[s]) = !dz (ae q.pats) s:=by rw[qv,hlk];simp[g8]
      have Hnx:=Lib.hid hnx
      have Hi:=Lib.hid hi
      have Hk:=Lib.hid hk
      clear hI0 hs hi hk hlk hnx
      generalize dz (ae q.pats) s=b at *
      cases b
      ·gi_wp2_with ((try refine⟨trivial,?_⟩);gi_at_call 69;refine(CallsIn.inRound l' (callsIn_wide.2 hH)).mono ?_;rintro e w' ⟨rfl,hb'⟩;have d4:=ac c4 hb';have d3:=(hb'.frozen (p:=⟨w.heap.size+1,0,none⟩) (ag c4)).trans c3)
       have hB':=aa Hi.out.below hb'
       refine⟨(bk hb').trans ((KeepsOthers.setCell _ _ _).from _),rfl,World.cell?_setCell_same' _ _ _ (by rw[d4];rfl),hB'.setCell (p:=⟨w.heap.size+1,0,none⟩) (by simp) _,by rw[Hnx.out];rfl⟩
      ·gi_wp2_with ((try refine⟨trivial,?_⟩);gi_at_call 69;refine(CallsIn.inRound l' (callsIn_wide.2 hH)).mono ?_;rintro e w' ⟨rfl,hb'⟩)
       have hkk:=Kb.of_below (hd:=λk _=>k == w.heap.size+1) hb' Hk.out.size
       exact⟨bk hb',hkk,Hi.out.later hb',Hk.out.trans hkk,by rw[Hnx.out];rfl⟩
     case done =>
      rintro D ys W hD hS ⟨hi,hk,hlk⟩ hK
      obtain rfl:ys=eD q:=hS
      have c3:=hi.fres
      obtain⟨v0,c4⟩:=Option.isSome_iff_exists.1 hi.res
      have hB:=Lib.hid hi.below
      have hv:dq q=0:=by rw[Hlk.out,hlk];rfl
      clear hi hk hlk hI0 hs
      go_wp2
      have hK2:=(KeepsOthers.setCell W ⟨w.heap.size+1,0,none⟩ (Value.int .i64 0)).same D _ hK rfl
      refine⟨by simp,.inl ⟨_,_,rfl,run_takeDeferred hK2,?_⟩⟩
      have hc2:(W.setCell ⟨w.heap.size+1,0,none⟩ (Value.int .i64 0)).cell? ⟨w.heap.size+1,0,none⟩=some (.int .i64 0):=World.cell?_setCell_same' _ _ _ (by rw[c4];rfl)
      have hc3:=cell_kept hc2 (grownBy_putObj' _ D (.deferred none)) (λr e=>by cases e;exact⟨_,hK2,rfl⟩)
      refine⟨.int .i64 0,?_,by rw[hv],(hB.out.setCell (p:=⟨w.heap.size+1,0,none⟩) (by simp) _).trans (belowK_b (w:=w) (Nat.le_refl _) _ D _ _ (by omega) hK2 rfl rfl)⟩
      simp[results,Tryz.results34,go_sem,hc3]
     case stop =>
      rintro D cc pre W hD hS ⟨rfl,hc,hB,hbad⟩ hK
      have hv:dq q=15:=by
       obtain⟨rest,hrest⟩:=hS
       rw[Hlk.out,←hrest,qv,hbad];rfl
      have HB:=Lib.hid hB
      clear hbad hB hS hI0 hs
      gi_wp2
      refine⟨by simp,.inl ⟨_,_,rfl,run_takeDeferred hK,?_⟩⟩
      have hc3:=cell_kept hc (grownBy_putObj' _ D (.deferred none)) (λr e=>by cases e;exact⟨_,hK,rfl⟩)
      refine⟨.int .i64 15,?_,by rw[hv],HB.out.trans (belowK_b (w:=w) (Nat.le_refl _) _ D _ _ (by omega) hK rfl rfl)⟩
      simp[results,Tryz.results34,go_sem,hc3]
    ·-- some stands twice
     have He:=Lib.hid (uw hrq HD.out)
     clear i1 i3 i4 d2 d3 hb3 hB3
     go_wp2
     have hc3:(W2.setCell ⟨w.heap.size+1,0,none⟩ (.int .i64 9)).cell? ⟨w.heap.size+1,0,none⟩=some (.int .i64 9):=World.cell?_setCell_same' _ _ _ (by rw[d4];rfl)
     refine⟨.int .i64 9,?_,by rw[He.out],HB3.out.setCell (p:=⟨w.heap.size+1,0,none⟩) (by simp) _⟩
     simp[results,Tryz.results34,go_sem,hc3]
end Go.Proofs.YtfcbghmbbjolcaaGreatDoor
