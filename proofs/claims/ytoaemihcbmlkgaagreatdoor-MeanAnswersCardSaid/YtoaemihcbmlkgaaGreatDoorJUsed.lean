/- The program's package mean, walked: Solutions. A list lent b -/
import Derived.Test.YtoaemihcbmlkgaaGreatDoorJShSet2
import Derived.Great.Walk
set_option maxHeartbeats 8000000
set_option maxRecDepth 100000
namespace Go.Proofs.YtoaemihcbmlkgaaGreatDoor
open Go Go.RowKit Go.Maps Go.ChangeMaps Go.Shelf Um Fm Mt Tx Om Mv Mn
attribute [local go_sem] Oper.semAt_some
theorem SolO.tell {w:World} {r B:Nat} {pre:List (Yl w.heap.size B)} {x:Yl w.heap.size B} {W w4:World} {v v4:Value} {xs:List Value} (hrB:r<B)
  (h1:W.heap[w.heap.size]?=some (.cells #[v] 33 (0,0))) (own:W.ownsRow w.heap.size 36 1 v (pre.map (·.row)).length xs) (hall:All 1 (OwnRow w.heap.size W) xs (pre.map (·.row))) (hB:Below w.heap.size w W) (hf:∃f,FdOf W r f) (hP:x.P W)
  (hrow:OwnRow w.heap.size W [x.v] x.row) (own4:w4.ownsRow w.heap.size 36 1 v4 ((pre.map (·.row)).length+1) (xs++[x.v])) (hg4:(W.alloc (.cells #[x.v] 36)).grownBy w4 v.ownBlock) :
  KeepsOthers W (w4.setCell ⟨w.heap.size,0,none⟩ v4)/\YieldP (SolO w r) pre x (w4.setCell ⟨w.heap.size,0,none⟩ v4)/\w4.heap[w.heap.size]?=some (.cells #[v] 33 (0,0)):=by
 have hb:Below W.heap.size W (W.alloc (.cells #[x.v] 36)):=(Below.refl _ _).alloc (Nat.le_refl _) _
 obtain⟨q1,q2,q3,q4,q5⟩:=Boxed.appended (W:=W) (n₀:=w.heap.size) (B:=w.heap.size) (show Boxed W w.heap.size 33 v from h1) (by decide) own hB.size (Nat.le_refl _) own4 hg4
 have hrs:=rows_push own hall hb (hrow.keep (KeepT.below hb)) own4 hg4
 have own2:=own_below own hb (Nat.le_refl _)
 have k5:∀e,36≠e->KeepT e W w4:=λe he=>(KeepT.below hb).trans (KeepT.grown hg4 (own_blockR own2) he)
 have kS:∀e,33≠e->KeepT e w4 (w4.setCell ⟨w.heap.size,0,none⟩ v4):=λe he=>KeepT.setCell (show w4.heap[w.heap.size]?=_ from q1) he
 have hsv:Sv w.heap.size B W (w4.setCell ⟨w.heap.size,0,none⟩ v4):=by
  refine⟨q4.size,λk o hk hd hor=>?_⟩
  cases o with
  | cells cs T fr =>
   have hT:k<w.heap.size∨(T≠33/\T≠36):=by
    unfold hdR at hd
    rw[Bool.and_eq_false_iff]at hd
    rcases hd with hd|hd
    ·exact .inl (by simpa using hd)
    ·simp only[Bool.or_eq_false_iff,beq_eq_false_iff_ne]at hd
     exact .inr hd
   rcases hT with hT|⟨h3,h4⟩
   ·rw[q5.block k hT];exact hk
   ·exact kS T (Ne.symm h3) _ _ _ (k5 T (Ne.symm h4) _ _ _ hk)
  | _=>exact q4.same k _ hk rfl
 refine⟨q4,⟨⟨⟨v4,q2,?_⟩,hB.trans q5,?_⟩,x.stab _ _ hP hsv⟩,q1⟩
 ·rw[List.map_append]
  exact hrs.keep (kS _ (by decide)) (kS _ (by decide))
 ·obtain⟨f,hM⟩:=hf
  exact⟨f,hsv.fd hM hrB⟩
def SolsR (set:List Tp) (pats:List Pat) (w:World) (e:Ending) (w':World):Prop:=
 ∃vv vr,e=.returned (.tuple #[vv,vr])/\w'.ownsRow w.heap.size 9 1 vv (varsN pats).length ((varsN pats).map Value.string)/\OwnRs w.heap.size w' vr (solP set pats)/\Below w.heap.size w w'
theorem mAll (ab nv cv:Nat) (Av:Option Addr) (w:World):Calls Tryz.prog 26 #[.pointer (some ⟨ab,0,none⟩),.slice Av nv cv] w λe w' =>
  e=.returned (.func (.func 50) #[] #[.pointer (some ⟨w.heap.size,0,none⟩),.pointer (some ⟨w.heap.size+1,0,none⟩)])/\w'=(w.alloc (.cells #[.pointer (some ⟨ab,0,none⟩)] 67)).alloc (.cells #[.slice Av nv cv] 32):=by
 go_enter Tryz.func26,Tryz.ntmps26
 go_wp2
 go_ret
 exact⟨rfl,rfl⟩
theorem own_wo {W:World} {base b:Nat} {e:TypeId} {size n c:Nat} {A:Option Addr} {xs:List Value} (h:W.ownsRow b e size (.slice A n c) n xs) (h1:e≠33) (h2:e≠36):Rd (wo (hdR base) W) A xs:=by
 obtain⟨A',c',e1,_,hr⟩:=own_slice h
 injection e1 with e1 _ _
 subst e1
 rcases hr with hr|⟨g,o,rfl,hx⟩
 ·exact .inl hr
 ·refine .inr ⟨g,o,rfl,λj u hu=>wo_cell.2 ⟨hx j u hu,?_⟩⟩
  rcases h.2 with ⟨e2,_⟩|⟨g',cap,cur,e2,_,hh,_⟩
  ·cases e2
  ·injection e2 with e2
   injection e2 with e2
   injection e2 with e2
   subst e2
   exact⟨_,hh,hdR_of h1 h2⟩
theorem old_wo {w W:World} {A:Option Addr} {xs:List Value} (hr:Rd w A xs) (hb:Below w.heap.size w W):Rd (wo (hdR w.heap.size) W) A xs:=by
 rcases hr with h|⟨g,o,hA,hx⟩
 ·exact .inl h
 ·refine .inr ⟨g,o,hA,λj u hu=>?_⟩
  have hc:=hx j u hu
  have hlt:=cell_lt hc
  simp only at hlt
  refine wo_cell.2 ⟨cell_on hc hb,W.heap[g]'(Nat.lt_of_lt_of_le hlt hb.size),Array.getElem?_eq_getElem _,?_⟩
  unfold hdR
  rw[Bool.and_eq_false_iff]
  exact .inl (by simp;exact hlt)
theorem mSolutions (set:List Tp) (pats:List Pat) (As Ap:Option Addr) (cs cp:Nat) (w:World) (hC:CtxT w) (hls:set.length<=1000) (hlp:pats.length<=300) (hz:∀t∈set,smallP3 t) (hs:Rd w As (set.flatMap tpL)) (hp:RdPat w Ap pats) (hN:prodP set pats<=1500) :
  Calls Tryz.prog 8 #[.slice As set.length cs,.slice Ap pats.length cp] w (SolsR set pats w):=by
 have hB0:Below w.heap.size w (w.alloc (.cells #[.slice none 0 0] 33)):=blw
 have hq:=qVars pats Ap cp (w.alloc (.cells #[.slice none 0 0] 33)) (RdL.mono hp hB0 λ_ _ _ h=>h) (by omega)
 have hshow:=λW (h:Below w.heap.size w W)=>showSet set As cs W (hC.step h) (hs.later h) hz (by omega)
 have hx0:Boxed (w.alloc (.cells #[.slice none 0 0] 33)) w.heap.size 33 (.slice none 0 0):=Boxed.new w _ _
 have HC:=Lib.hid hC
 have HB0:=Lib.hid hB0
 have HX0:=Lib.hid hx0
 have HP:=Lib.hid hp
 clear hB0 hx0 hC hs hp
 refine(callsIn_wide (n:=6)).1 ?_
 refine callsIn_of_wp_marks Tryz.func8 rfl trivial ?_ rfl
 simp only[Tryz.ntmps8,List.size_toArray,List.length_cons,List.length_nil,Nat.reduceAdd,Nat.reduceSub,Array.replicate_succ,Array.replicate_zero,List.push_toArray,List.append_toArray,List.nil_append,List.cons_append]
 gi_wp2_with fail
 refine⟨trivial,?_⟩
 refine(callsIn_wide.2 hq).mono ?_
 rintro e w1 ⟨vv,rfl,own1,b1⟩
 obtain⟨Av,cv,rfl,hcv,hrv⟩:=own_slice own1
 have HB1:=Lib.hid (below_tr HB0.out b1)
 have HX1:Hid (Boxed w1 w.heap.size 33 (.slice none 0 0)):=below_blk b1 HX0.out
 have hm1:Below w1.heap.size w1 (w1.alloc (.map #[] 0)):=blw
 have hshow:=hshow (w1.alloc (.map #[] 0)) (below_tr HB1.out hm1)
 have HO1:=Lib.hid own1
 have HM1:=Lib.hid hm1
 have hmm:=@run_makeMap Tryz.prog
 clear b1 own1 hrv hm1 hq
 gi_wp2_with fail
 refine⟨trivial,?_⟩
 refine(callsIn_wide.2 hshow).mono ?_
 rintro e w2 ⟨vs,rfl,own2,b2⟩
 obtain⟨As2,cs2,rfl,hcs2,hrs2⟩:=own_slice own2
 have HB2:=Lib.hid b2
 have HO2:=Lib.hid own2
 clear b2 own2 hrs2 hshow
 gi_wp2_with fail
 refine⟨trivial,?_⟩
 refine(callsIn_wide.2 (mAll _ _ _ _ _)).mono ?_
 rintro e w3 ⟨rfl,hw3⟩
 gi_wp2
 obtain⟨W3,hW3⟩:∃V:World,((w2.alloc (.cells #[.map (some w1.heap.size),.slice As2 (setTp set).length cs2,.slice Ap pats.length cp] 73)).alloc (.cells #[.pointer (some ⟨w2.heap.size,0,none⟩)] 67)).alloc (.cells #[.slice Av (varsN pats).length cv] 32)=V:=⟨_,rfl⟩
 have b3:Below w2.heap.size w2 W3:=by rw[←hW3];exact blw
 have bM3:=below_tr (below_tr HM1.out HB2.out) b3
 have bw3:=below_tr HB1.out bM3
 have hM3:FdOf W3 w1.heap.size (encB noB):=((FdOf.new w1).on HB2.out).on b3
 have hX3:Boxed W3 w.heap.size 33 (.slice none 0 0):=below_blk bM3 HX1.out
 have hE3:EnvM w.heap.size w2.heap.size w1.heap.size (w2.heap.size+2) (w2.heap.size+1) As2 Ap Av (setTp set).length cs2 pats.length cp (varsN pats).length cv (setTp set) pats (varsN pats) W3:=by
  refine⟨by rw[←hW3];exact heap3_1 _ _ _ _,by rw[←hW3];exact heap3_3 _ _ _ _,by rw[←hW3];exact heap3_2 _ _ _ _,own_wo (own_below HO2.out b3 (Nat.le_refl _)) (by decide) (by decide),?_,own_wo (own_below HO1.out bM3 (Nat.le_refl _)) (by decide) (by decide)⟩
  obtain⟨xs,h1,h2⟩:=HP.out
  exact⟨xs,old_wo h1 bw3,h2⟩
 have hz1:w.heap.size<=w1.heap.size:=HB1.out.size
 have hz2:w1.heap.size+1<=w2.heap.size:=by have:=HB2.out.size;simpa using this
 have hz3:W3.heap.size=w2.heap.size+3:=by rw[←hW3];simp
 have hlv:=varsN_len pats
 have hN2:(dfs (setTp set) pats noB).length<=1500:=Nat.le_trans (Nat.le_trans (dfs_len _ _ _) (prodP_le (set_cnt set) pats)) hN
 have hls2:=Tx.set_len set
 rw[hW3]
 have HO1b:=Lib.hid (And.intro HO1.out bM3)
 clear HO2 HX1 HX0 HB0 HM1 HB2 b3 bM3 hW3 hmm HO1 HP
 refine wpIn_range_sm (F:=Fence.wide) (n:=6) w1.heap.size ?hrw rfl ?h1 (gf:=50) (lb:=#[.pointer (some ⟨w2.heap.size+1,0,none⟩),.pointer (some ⟨w2.heap.size+1+1,0,none⟩)]) rfl trivial (enters_of Tryz.func50 (by kernel_rfl) rfl)
  (λx:Yl w.heap.size W3.heap.size=>#[x.v]) ?hps
  (λpre X=>SolO w w1.heap.size (pre.map (·.row)) X/\EnvM w.heap.size w2.heap.size w1.heap.size (w2.heap.size+2) (w2.heap.size+1) As2 Ap Av (setTp set).length cs2 pats.length cp (varsN pats).length cv (setTp set) pats (varsN pats) X/\FdOf X w1.heap.size (encB noB)/\KeepT 9 W3 X)
  (YieldJ (SolO w w1.heap.size) 1500) (YieldP (SolO w w1.heap.size))
  (λxs=>xs.map (·.row)=solD (setTp set) pats) ?hI ?hJ ?hIp ?h0
  (λx=>{tmps:=#[.slice As set.length cs,.slice Ap pats.length cp,undef,undef,.slice Av (varsN pats).length cv,.pointer (some ⟨w.heap.size,0,none⟩),.pointer (some ⟨w2.heap.size,0,none⟩),x.v,.slice Ap pats.length cp,.slice Av (varsN pats).length cv,.map (some w1.heap.size),.agg #[.map (some w1.heap.size)],.slice As set.length cs,.slice As2 (setTp set).length cs2,.slice Ap pats.length cp,.agg #[.map (some w1.heap.size),.slice As2 (setTp set).length cs2,.slice Ap pats.length cp],.pointer (some ⟨w2.heap.size,0,none⟩),.pointer (some ⟨w2.heap.size,0,none⟩),.slice Av (varsN pats).length cv,.func (.func 50) #[] #[.pointer (some ⟨w2.heap.size+1,0,none⟩),.pointer (some ⟨w2.heap.size+1+1,0,none⟩)],x.v,undef,undef,undef,undef,undef,undef,undef,undef],defers:=[]})
  ?assign ?body ?iter ?done
 case hrw=>omega
 case h1=>omega
 case hps=>intro x;rfl
 case hI =>
  rintro pre u X Y row ⟨ho,hE,hM,hk⟩ hg hr
  have hf:=far_keeps hg hr
  exact⟨ho.far (by omega) (by omega) hg hr,hE.keep (hf.1 _).sw,(hf.1 0).fd hM (by omega),hk.trans (hf.2 _)⟩
 case hJ =>
  rintro pre x u X Y row ⟨ho,hP,hrow,hlen⟩ hg hr
  have hf:=far_keeps hg hr
  exact⟨ho.far (by omega) (by omega) hg hr,x.stab _ _ hP (hf.1 _),hrow.keep (hf.2 _),hlen⟩
 case hIp =>
  rintro pre x u X Y row ⟨ho,hP⟩ hg hr
  have hf:=far_keeps hg hr
  exact⟨ho.far (by omega) (by omega) hg hr,x.stab _ _ hP (hf.1 _)⟩
 case h0=>exact⟨⟨⟨_,hX3,OwnRs.nil _ _⟩,bw3,_,hM3⟩,hE3,hM3,KeepT.refl _ _⟩
 case assign =>
  intro l x W K hK
  have e:∀(b:Array Value) (v:Value),(#[20].zip #[v]).foldl (λt (p,v)=>t.setIfInBounds p v) b=b.setIfInBounds 20 v:=λb v=>by simp
  rw[e]
  gi_wp2
  exact hK
 case body =>
  rintro l pre ⟨xv,row,P,stab⟩ W ⟨⟨⟨v,h1,xs,own,hall⟩,hB,hf⟩,hP,hrow,hlen⟩
  obtain⟨v',e1,own'⟩:=hrow
  injection e1 with e1 _
  simp only at e1 own'
  subst e1
  obtain⟨Ax,cx,rfl,hcx,_⟩:=own_slice own'
  have hba:Below W.heap.size W (W.alloc (.cells #[.slice Ax row.length cx] 36)):=blw
  have own0:=own_below own hba (Nat.le_refl _)
  have c0:W.cell? ⟨w.heap.size,0,none⟩=some v:=by rw[World.cell?,h1];rfl
  have hnew:∀(j:Nat) (u:Value),[Value.slice Ax row.length cx][j]?=some u->(W.alloc (.cells #[.slice Ax row.length cx] 36)).cell? ((⟨W.heap.size,0,none⟩:Addr).add j)=some u:=by
   intro j u hu
   rw[add_zero_spot,Nat.zero_add,World.cell?,heap_alloc_new]
   simpa using hu
  obtain⟨i,hi,hz,hsize,hby⟩:=info_parts rowInfo
  have hn:(pre.map (·.row)).length<=1500:=by rw[List.length_map];omega
  obtain⟨nn,hnn⟩:∃nn,(pre.map (·.row)).length=nn:=⟨_,rfl⟩
  have HT:=Lib.hid (λw4 v4 h4 hg4=>SolO.tell (pre:=pre) (x:=⟨.slice Ax row.length cx,row,P,stab⟩) (w4:=w4) (v4:=v4) (by omega:w1.heap.size<W3.heap.size) h1 own hall hB hf hP ⟨_,rfl,own'⟩ h4 hg4)
  rw[hnn]at own0 HT hn
  obtain⟨Ar,cr,rfl,_,_⟩:=own_slice own0
  have hbs:=hB.size
  have hlt:=cell_lt c0
  simp only at hlt
  clear own hall hB hf hP own' h1 hba hnn hcx
  gi_wp2_with (gi_at_builtin;(refine wpListIn_append_own_at _ rfl _ _ 33 rfl w.heap.size 36 i _ 1 24 Tryz.underlying33 hi hz hsize hby rfl (by omega) _ nn xs rfl own0 ⟨W.heap.size,0,none⟩ 1 1 [.slice Ax row.length cx] rfl rfl hnew (by intro u hu;simp at hu;subst hu;rfl) (by unfold maxLen;omega) (by omega) (by simp;omega) ?_;intro v4 w4 own4 hg4 _ _;obtain⟨k1,k2,k3⟩:=HT.out w4 v4 own4 hg4;obtain⟨A4,c4,rfl,_,_⟩:=own_slice own4;have g0:w4.cell? ⟨w.heap.size,0,none⟩=some _:=(by rw[World.cell?,k3];rfl);have g1:w4.frozen? ⟨w.heap.size,0,none⟩=false:=(by simp[World.frozen?,k3])))
  exact⟨k1,k2⟩
 case iter =>
  intro l K W hI hk hK hY
  obtain⟨ho,hE,hM,hks⟩:=hI
  refine callsIn_wide.2 ((mAll1 (m:=6-1-1) (λrows X Y h hg hf=>?_) hK hY (by omega) rfl (by omega) rfl (by omega) rfl (by omega) hN2 W hE hM ?_ (by simpa using ho) hk).mono ?_)
  ·exact h.on hz1 hg hf
  ·exact ho.2.1.size
  ·rintro e Y ⟨h1,xs,hxs,ho',hk',hM',hs'⟩
   exact⟨h1,xs,hxs,⟨ho',hE.keep hs',hM',hks.trans (hs'.keepT (by decide) (by decide))⟩,hk'⟩
 case done =>
  rintro D xs W hD hS ⟨⟨⟨v,h1,hO⟩,hB,hf⟩,hE,hM,hks⟩ hK
  obtain⟨A,c,rfl,hc,_⟩:=hO.rd
  rw[hS]at hO h1 hc
  have hsl:(solD (setTp set) pats).length<=1500:=Nat.le_trans (solD_len set pats) hN
  have hsort:=mnSort w HC.out (varsN pats).length _ _ (solD (setTp set) pats) W hB hO rfl (by omega) (λr hr=>⟨by rw[solD_row hr];omega,λt ht=>by
   obtain⟨u,hu,h⟩:=solD_val hr ht
   have hzu:=hz u ((set_mem set u).1 hu)
   rcases h with rfl|rfl|rfl
   ·exact hzu.1
   ·exact hzu.2.1
   ·exact hzu.2.2⟩) (λr hr=>solD_row hr)
  have hlen:Hid ((solD (setTp set) pats).length=(solP set pats).length):=(solP_perm set pats).length_eq.symm
  have hP:Hid (sortK [] (solD (setTp set) pats)=solP set pats):=rfl
  have c0:W.cell? ⟨w.heap.size,0,none⟩=some (.slice A (solD (setTp set) pats).length c):=by rw[World.cell?,h1];rfl
  have H1:=Lib.hid (And.intro h1 (And.intro hK hks))
  clear hks h1 hK hE hB hO hf hM hS hM3 hX3 hE3 bw3 hN2 hls2
  gi_wp2_with (refine⟨trivial,?_⟩;gi_at_call 27;refine(callsIn_wide.2 hsort).mono ?_;rintro e w5 ⟨rfl,hB5,hk5,hO5,hko5⟩)
  have h5:=hk5 33 (by decide) _ _ _ H1.out.1
  have d5:=hko5.same D _ H1.out.2.1 rfl
  have c5:w5.cell? ⟨w.heap.size,0,none⟩=some (.slice A (solD (setTp set) pats).length c):=by rw[World.cell?,h5];rfl
  have ov5:w5.ownsRow (w.heap.size+1) 9 1 (.slice Av (varsN pats).length cv) (varsN pats).length ((varsN pats).map Value.string):=by
   have h3:=own_keep (own_keep (own_below HO1b.out.1 HO1b.out.2 (Nat.le_refl _)) H1.out.2.2) (hk5 _ (by decide))
   simpa using h3
  have H5:=Lib.hid (And.intro h5 (And.intro d5 (And.intro hB5 (And.intro hO5 ov5))))
  clear h5 d5 hB5 hO5 ov5 hk5 hko5 c0 hsort
  refine wpIn_wide.2 ?_
  refine Rs.p0 w5.heap.size [3] _ [(3,[0]),(0,[1]),(3,[2]),(2,[3])] ?_ (λa w h=>h)
  intro wd hbd hwz
  have y0:=cellL c5 hbd
  have HBD:=Lib.hid hbd
  clear hwz c5 hbd
  refine Rs.st_pure ?_
  iterate 1 go_big_quiet_step (fail)
  refine wpQuiet_nil (Rs.st_quiet ?_)
  iterate 1 go_big_quiet_step (fail)
  refine wpQuiet_nil (Rs.st_pure ?_)
  iterate 1 go_big_quiet_step (fail)
  refine wpQuiet_nil (Rs.st_free ?_)
  have hd5:=KeepT.below HBD.out _ _ _ H5.out.1
  have g0:wd.cell? ⟨w.heap.size,0,none⟩=some (.slice A (solD (setTp set) pats).length c):=by rw[World.cell?,hd5];rfl
  have g1:wd.frozen? ⟨w.heap.size,0,none⟩=false:=by simp[World.frozen?,hd5]
  have hlt:=cell_lt g0
  simp only at hlt
  have HD:=Lib.hid hd5
  clear y0 hd5
  go_wp2
  refine⟨⟨rfl,rfl,rfl,by simp,λ_ h=>absurd h (Nat.not_lt_zero _)⟩,Rs.st_done ?_⟩
  gi_wp2
  obtain⟨h5,d5,hB5,hO5,ov5⟩:=H5.out
  have hbd:=HBD.out
  have dd:wd.heap[D]?=some (.deferred (some [])):=by rw[hbd.block D (Array.getElem?_eq_some_iff.1 d5).1];exact d5
  have hK2:=(KeepsOthers.setCell wd ⟨w.heap.size,0,none⟩ (.slice A (solD (setTp set) pats).length c)).same D _ dd rfl
  have hX:Boxed wd w.heap.size 33 (.slice A (solD (setTp set) pats).length c):=HD.out
  have hb2:=hX.set (.slice A (solD (setTp set) pats).length c)
  have hgp:=grownBy_putObj' (wd.setCell ⟨w.heap.size,0,none⟩ (.slice A (solD (setTp set) pats).length c)) D (.deferred none)
  refine⟨by simp,.inl ⟨_,_,rfl,run_takeDeferred hK2,?_⟩⟩
  have hc3:=cell_kept hb2.cell hgp (λr e=>by cases e;exact⟨_,hK2,rfl⟩)
  have hkp:=(far_keeps (B:=0) hgp (λq e=>by cases e;exact⟨Nat.zero_le _,_,hK2,rfl⟩)).2
  have hks:∀e,33≠e->KeepT e w5 ((wd.setCell ⟨w.heap.size,0,none⟩ (.slice A (solD (setTp set) pats).length c)).putObj D (.deferred none)):=λe he=>((KeepT.below hbd).trans (KeepT.setCell HD.out he)).trans (hkp e)
  refine⟨.tuple #[.slice Av (varsN pats).length cv,.slice A (solD (setTp set) pats).length c],?_,_,_,rfl,own_lower (own_keep ov5 (hks _ (by decide))) (Nat.le_succ _),hO5.keep (hks _ (by decide)) (hks _ (by decide)),?_⟩
  ·simp[results,Tryz.results8,go_sem,hc3]
  ·exact(((hB5.trans (hbd.mono hB5.size)).setCell (p:=⟨w.heap.size,0,none⟩) (Nat.le_refl _) _)).grown hgp (by simp;omega) (λq e=>by injection e with e;omega)
attribute [local go_sem] Oper.semAt_some
def isStr:Obj->Bool
 | .cells _ t _=>t == 9
 | _=>false
abbrev hidU (b:Nat):Nat->Obj->Bool:=λk o=>k == b || (decide (b<=k) && isStr o)
theorem Kb.of_met {b S:Nat} {w w':World} {v v':Value} {l:List ByteArray} (hM:MetAt b b w v l) (hK:MetKeeps b b w v w' v'):Kb (hidU b) S w w':=by
 refine .of_blocks (λk o ho hn _=>?_) hK.size
 rw[Bool.or_eq_false_iff]at hn
 rw[hK.keep k (Array.getElem?_eq_some_iff.1 ho).1 (by simpa using hn.1) ?_];exact ho
 intro e
 rcases hM.own.2 with ⟨hv,_⟩|⟨g,cap,cur,hv,hg,hh,_⟩
 ·rw[hv]at e;simp[Value.ownBlock]at e
 ·rw[hv]at e
  simp only[Value.ownBlock,Option.some.injEq]at e
  subst e
  rw[hh]at ho
  injection ho with ho
  subst ho
  have:=hn.2
  simp[isStr]at this
  omega
theorem MetKeeps.from {base b:Nat} {w w':World} {v v':Value} {l:List ByteArray} (hM:MetAt base b w v l) (h:MetKeeps base b w v w' v') (B:Nat):KeepsFrom B w w':=by
 refine⟨h.size,λk o _ hk hc=>?_⟩
 rw[h.keep k (Array.getElem?_eq_some_iff.1 hk).1 ?_ ?_];exact hk
 ·rintro rfl
  have:=hM.cell
  rw[World.cell?,hk]at this
  cases o<;>simp[Obj.isCells]at hc this
 ·intro e
  rcases hM.own.2 with ⟨hv,_⟩|⟨g,cap,cur,hv,hg,hh,_⟩
  ·rw[hv]at e;simp[Value.ownBlock]at e
  ·rw[hv]at e
   simp only[Value.ownBlock,Option.some.injEq]at e
   subst e
   rw[hh]at hk
   injection hk with hk
   subst hk
   simp[Obj.isCells]at hc
def UsedI (w:World) (b:Nat) (l:List ByteArray) (W:World):Prop:=∃v,MetAt w.heap.size b W v l/\Below w.heap.size w W/\b<W.heap.size
theorem UsedI.later {w:World} {b:Nat} {l:List ByteArray} {W W':World} (h:UsedI w b l W) (hb:Below W.heap.size W W'):UsedI w b l W':=by
 obtain⟨v,h1,h2,h3⟩:=h
 exact⟨v,h1.later hb,below_tr h2 hb,Nat.lt_of_lt_of_le h3 hb.size⟩
theorem UsedI.grown {w:World} {b:Nat} {l:List ByteArray} {A B:World} {row:Option Nat} {S:Nat} (hS:w.heap.size<=S) (h:UsedI w b l A) (hg:A.grownBy B row) (hr:∀q,row=some q->S<=q/\∃o:Obj,A.heap[q]?=some o/\o.isCells=false):UsedI w b l B:=by
 obtain⟨v,h1,h2,h3⟩:=h
 have hr2:∀q,row=some q->∃o:Obj,A.heap[q]?=some o/\o.isCells=false:=λq e=>(hr q e).2
 refine⟨v,⟨cell_kept h1.cell hg hr2,(frozen_kept h1.cell hg hr2).trans h1.fr,h1.own.kept hg ?_,h1.lo,h1.ne⟩,h2.grown hg h2.size λq e=>by have:=(hr q e).1;omega,Nat.lt_of_lt_of_le h3 hg.size⟩
 rcases Option.eq_none_or_eq_some v.ownBlock with e|⟨g,e⟩
 ·exact .inl e
 ·right
  intro e2
  obtain⟨o,ho,hc⟩:=hr2 g (e2.symm.trans e)
  rcases h1.own.2 with ⟨hv,_⟩|⟨g',cap,cur,hv,_,hh,_⟩
  ·rw[hv]at e;simp[Value.ownBlock]at e
  ·rw[hv]at e
   simp only[Value.ownBlock,Option.some.injEq]at e
   subst e
   rw[hh]at ho
   injection ho with ho
   subst ho
   simp[Obj.isCells]at hc
theorem qUsed (n:Nat) (es:List (ExT n)) (A:Option Addr) (c:Nat) (w:World) (hr:RdEs n w A es) (hl:es.length<=1353245080300) (hz:∀x∈es,szE n x) (hN:(es.flatMap (preE n)).length<=500000) :
  Calls Tryz.prog 117 #[.slice A es.length c] w (NamesR (usedN n es) w):=by
 refine(callsIn_wide (n:=6)).1 ?_
 generalize hF:Fence.wide=F
 have hd:F.depth=none:=by rw[←hF];rfl
 have hfn:∀k,F.fn k:=by rw[←hF];exact λ_=>trivial
 have hro:F.round=none:=by rw[←hF];rfl
 have hpl:∀{m:Nat} {f:FuncId} {args:Array Value} {W:World} {R:Ending->World->Prop},Calls Tryz.prog f args W R->CallsIn F m Tryz.prog f args W R:=by rw[←hF];exact λh=>callsIn_wide.2 h
 have hdd:∀k:Nat,(F.depth.isSome=true->1<=k):=λk h=>by rw[hd]at h;cases h
 have h4:=hfn 167
 have h0:=hfn 117
 have h5:=hfn 213
 have h6:=hfn 214
 have h7:=hfn 82
 clear hF hfn
 refine callsIn_of_wp_marks Tryz.func117 rfl h0 ?_ hro
 simp only[Tryz.ntmps117,List.size_toArray,List.length_cons,List.length_nil,Nat.reduceAdd,Nat.reduceSub,Array.replicate_succ,Array.replicate_zero,List.push_toArray,List.append_toArray,List.nil_append,List.cons_append]
 gi_wp2_with ((try refine⟨hdd _,?_⟩);gi_at_call 167;refine(qParts_in F _ h4 hro _ _ _ _).mono ?_;rintro e w' ⟨rfl,rfl⟩)
 obtain⟨W1,hW1⟩:∃W:World,(w.alloc (.cells #[.slice none 0 0] 101)).alloc (.cells #[.slice A es.length c] 47)=W:=⟨_,rfl⟩
 have hsz:W1.heap.size=w.heap.size+1+1:=by rw[←hW1];simp
 have hB1:Below w.heap.size w W1:=by rw[←hW1];exact blw
 have g0:W1.heap[w.heap.size]?=some (.cells #[.slice none 0 0] 101 (0,0)):=by rw[←hW1];exact heap_two_1 w _ _
 have g1:W1.heap[w.heap.size+1]?=some (.cells #[.slice A es.length c] 47 (0,0)):=by rw[←hW1];exact heap_two_2 w _ _
 have hI0:UsedI w w.heap.size [] W1:=⟨.slice none 0 0,⟨by rw[World.cell?,g0];rfl,by simp[World.frozen?,g0],World.ownsRow_nil _ _ _ _,Nat.le_refl _,by simp[Value.ownBlock]⟩,hB1,by omega⟩
 have hcm:CM w (wo (hidU w.heap.size) W1):=λp u hp=>wo_cell.2 ⟨cell_on hp hB1,_,by
  rw[hB1.block _ (cell_lt hp)];exact Array.getElem?_eq_getElem (cell_lt hp),by have:=cell_lt hp;simp;omega⟩
 have hrs:RdEs n (wo (hidU w.heap.size) W1) A es:=hr.cm hcm
 have hbx:(wo (hidU w.heap.size) W1).cell? ⟨w.heap.size+1,0,none⟩=some (.slice A es.length c):=wo_cell.2 ⟨by rw[World.cell?,g1];rfl,_,g1,by simp[isStr]⟩
 have hs:=qParts_stops F hd h5 h6 hro (hidU w.heap.size) (6-1) n W1 (λk _ _ hk=>by simp[isStr];omega) szE (λn k s t kids h=>⟨h.2.2.1,h.2.2.2⟩) es A c (w.heap.size+1) hrs hl hz hbx
 simp only[hW1]
 have HW:=Lib.hid hW1
 have Hsz:=Lib.hid hsz
 clear hW1 hrs hbx hcm g0 g1 hsz hr hz
 refine wpIn_rangeFunc_ownH hro (by omega) (gf:=213) (lb:=#[.pointer (some ⟨w.heap.size+1,0,none⟩)]) rfl h5 (enters_of Tryz.func213 (by kernel_rfl) rfl)
  hs (λh k=>h.trans k) (λW l o o' hl ho hc _=>Kb.put hl ho hc) (Below.refl _ _) (λ_=>rfl)
  (λpre W=>UsedI w w.heap.size (metsN [] ((pts pre).flatMap ptV)) W/\Kb (hidU w.heap.size) W1.heap.size W1 W)
  (λ_ _ _=>False)
  (λs A B row hs hg hr=>⟨hs.1.grown hB1.size hg hr,hs.2.grown hg hr⟩)
  (λc s A B row hs hg hr=>hs.elim)
  ⟨hI0,Kb.refl _ _ _⟩
  (λa a' W=>∃(Bx:Nat) (k':Int) (s':ByteArray) (t':Tm) (A':Option Addr) (m' c':Nat),a.cs=[.int .i64 k',.string s',.int .i64 t'.k,.string t'.x,.string t'.l,.string t'.y,.slice A' m' c']/\W.heap[Bx]?=some (.cells #[.int .i64 k',.string s',.int .i64 t'.k,.string t'.x,.string t'.l,.string t'.y,.slice A' m' c'] 82 (0,0))/\W1.heap.size<=Bx /\
   a'={tmps:=#[.slice A es.length c,undef,.slice none 0 0,.pointer (some ⟨w.heap.size,0,none⟩),.pointer (some ⟨Bx,0,none⟩),.slice A es.length c,.func (.func 213) #[] #[.pointer (some ⟨w.heap.size+1,0,none⟩)],.agg #[.int .i64 k',.string s',.int .i64 t'.k,.string t'.x,.string t'.l,.string t'.y,.slice A' m' c'],undef,undef,undef,undef,undef,undef,undef,undef,undef,undef,undef],defers:=[]})
  ?hAx ?assign ?body ?done ?stop
 case hAx =>
  rintro a a' _ A B row ⟨Bx,k',s',t',A',m',c',h1,h2,h3,h4⟩ hg hr
  refine⟨Bx,k',s',t',A',m',c',h1,?_,h3,h4⟩
  rw[hg.block Bx (Array.getElem?_eq_some_iff.1 h2).1 (λe=>by obtain⟨_,o,ho,hoc⟩:=hr Bx e.symm;rw[h2]at ho;cases ho;cases hoc)];exact h2
 case assign =>
  rintro l pre a W K ⟨hi,hk⟩ hK
  have e:∀(b:Array Value) (v:Value),(#[7].zip #[v]).foldl (λt (p,v)=>t.setIfInBounds p v) b=b.setIfInBounds 7 v:=λb v=>by simp
  rw[e]
  obtain⟨k',s',t',A',m',c',hcs,_⟩:=rd_spell a.rd
  have hB2:Below W.heap.size W (W.alloc (.cells #[.int .i64 k',.string s',.int .i64 t'.k,.string t'.x,.string t'.l,.string t'.y,.slice A' m' c'] 82)):=blw
  have hfin:=λa' h=>hK a' (W.alloc (.cells #[.int .i64 k',.string s',.int .i64 t'.k,.string t'.x,.string t'.l,.string t'.y,.slice A' m' c'] 82)) (keeps_of_below hB2) (Kb.of_below hB2 hk.size) ⟨hi.later hB2,hk.trans (Kb.of_below hB2 hk.size)⟩ ⟨W.heap.size,k',s',t',A',m',c',hcs,heap_alloc_new _ _,hk.size,h⟩
  have Hfin:=Lib.hid hfin
  rw[hcs]
  clear hK hi hfin hk hB2
  gi_wp2
  exact Hfin.out _ rfl
 case body =>
  rintro l pre a a' W hl' ⟨rr,hrr⟩ ⟨hi,hk⟩ ⟨Bx,k',s',t',A',m',c',hcs,hbx,hBx,rfl⟩ hlN
  have b0:W.cell? ⟨Bx,0,none⟩=some (.int .i64 k'):=by rw[World.cell?,hbx];rfl
  have b1:W.cell? ⟨Bx,1,none⟩=some (.string s'):=by rw[World.cell?,hbx];rfl
  have hptv:ptV ⟨a.n,a.x⟩=if k' == 1 then [s'] else []:=by
   match a,hcs with
   | ⟨m+1,(k,s,t,kids),cs,⟨A2,c2,hv,_⟩,z⟩,hcs =>
    simp only at hcs hv ⊢
    rw[hv]at hcs
    simp at hcs
    obtain⟨rfl,rfl,_⟩:=hcs
    rfl
  have hnx:(pts (pre++[a])).flatMap ptV=(pts pre).flatMap ptV++ptV ⟨a.n,a.x⟩:=by rw[pts_append,List.flatMap_append];simp[pts]
  obtain⟨v,hM,hBw,hbW⟩:=hi
  by_cases h1:k'=1
  ·have hB2:Below W.heap.size W (W.alloc (.cells #[.string s'] 9)):=blw
   have hM2:=hM.later hB2
   have hml:(metsN [] ((pts pre).flatMap ptV)).length+1<=1000000:=by
    have h2:=metsN_len ((pts pre).flatMap ptV) []
    have h3:((pts pre).flatMap ptV).length<=(pts pre).length:=by
     generalize pts pre=l
     induction l with
     | nil=>simp
     | cons p l ih=>have:=ptV_len p;rw[List.flatMap_cons,List.length_append,List.length_cons];omega
    rw[pts_length]at h3
    rw[List.length_nil]at h2
    omega
   have hq:=qMeet w.heap.size w.heap.size v _ [s'] (some ⟨W.heap.size,0,none⟩) 1 _ hM2 (Rd.of_block (heap_alloc_new W _) rfl) (λa ha=>by
    injection ha with ha;subst ha
    refine⟨by simp;omega,λe=>?_⟩
    have:=(hM.own.lt _ e.symm).2
    simp only at this;omega) (by simp;omega) (by simpa using hml)
   rw[hptv,h1]at hnx
   simp only[beq_self_eq_true,if_true]at hnx
   have HB2:=Lib.hid hB2
   have HBw:=Lib.hid hBw
   have Hk:=Lib.hid hk
   have HM2:=Lib.hid hM2
   have Hnx:=Lib.hid hnx
   subst h1
   clear hM hM2 hBw hk hnx hptv hB2 hcs hml
   gi_wp2_with ((try refine⟨hdd _,?_⟩);gi_at_call 82;refine(CallsIn.inRound l (hpl hq)).mono ?_;rintro e w2 ⟨⟨u,rfl⟩,v2,hM3,hK3⟩)
   have hkb:Kb (hidU w.heap.size) W1.heap.size W w2:=(Kb.of_below HB2.out (by have:=Hk.out.size;omega)).trans (Kb.of_met HM2.out hK3)
   refine⟨(keeps_of_below HB2.out).trans (hK3.from HM2.out _),hkb,⟨v2,?_,?_,?_⟩,Hk.out.trans hkb⟩
   ·rw[Hnx.out,metsN_app];exact hM3
   ·exact(below_tr HBw.out HB2.out).trans hK3.below
   ·have:=hK3.size;simp at this;omega
  ·have h1b:(k' == 1)=false:=by simpa using h1
   rw[hptv,h1b]at hnx
   simp only[Bool.false_eq_true,if_false,List.append_nil]at hnx
   have Hk:=Lib.hid hk
   have HM:=Lib.hid hM
   have HBw:=Lib.hid hBw
   have Hnx:=Lib.hid hnx
   clear hM hBw hk hnx hptv hcs
   gi_wp2
   exact⟨KeepsFrom.refl _ _,Kb.refl _ _ _,⟨v,by rw[Hnx.out];exact HM.out,HBw.out,hbW⟩,Hk.out⟩
 case done =>
  rintro D ys W hD hS ⟨⟨v,hM,hBw,hbW⟩,hk⟩ hK
  have hv:metsN [] ((pts ys).flatMap ptV)=usedN n es:=by rw[hS];rfl
  rw[hv]at hM
  obtain⟨A1,c1,rfl,hc1,hr1,hv1⟩:=hM.open_
  have hown:=hM.own
  have hfr:=hM.fr
  clear hM hv hk hc1 hr1
  gi_wp2
  refine⟨by simp,.inl ⟨_,_,rfl,run_takeDeferred hK,?_⟩⟩
  have hgr:=grownBy_putObj' W D (.deferred none)
  have hne:(Value.slice A1 (usedN n es).length c1).ownBlock=none∨(Value.slice A1 (usedN n es).length c1).ownBlock≠some D:=by
   right
   intro e
   rcases hown.2 with ⟨hv,_⟩|⟨g',cap,cur,hv,_,hh,_⟩
   ·rw[hv]at e;simp[Value.ownBlock]at e
   ·rw[hv]at e
    simp only[Value.ownBlock,Option.some.injEq]at e
    subst e
    rw[hh]at hK
    cases hK
  refine⟨.slice A1 (usedN n es).length c1,?_,_,rfl,hown.kept hgr hne,hBw.trans (belowK_b (w:=w) (Nat.le_refl _) _ D _ _ (by have:=Hsz.out;omega) hK rfl rfl)⟩
  simp[results,Tryz.results117,go_sem]
 case stop =>
  rintro D cc pre W hD hS h hK
  exact h.elim
end Go.Proofs.YtoaemihcbmlkgaaGreatDoor
