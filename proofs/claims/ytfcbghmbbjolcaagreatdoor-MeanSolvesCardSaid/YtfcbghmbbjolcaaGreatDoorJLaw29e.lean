/- The program's package mean, walked: Solutions. The kit's Ove -/
import Derived.Test.YtfcbghmbbjolcaaGreatDoorJShSet2
import Derived.Great.Walk
set_option maxHeartbeats 8000000
set_option maxRecDepth 100000
namespace Go.Proofs.YtfcbghmbbjolcaaGreatDoor
open Go Go.RowKit Go.Maps Go.ChangeMaps Go.Shelf Um Fm Mt Tx Om Mv Mn
attribute [local go_sem] Oper.semAt_some
theorem m9.tell {w:World} {r B:Nat} {pre:List (Yl w.heap.size B)} {x:Yl w.heap.size B} {W w4:World} {v v4:Value} {xs:List Value} (hrB:r<B)
  (h1:W.heap[w.heap.size]?=some (.cells #[v] 35 (0,0))) (own:W.ownsRow w.heap.size 58 1 v (pre.map (·.row)).length xs) (hall:All 1 (OwnRow w.heap.size W) xs (pre.map (·.row))) (hB:Below w.heap.size w W) (hf:∃f,aY W r f) (hP:x.P W)
  (hrow:OwnRow w.heap.size W [x.v] x.row) (own4:w4.ownsRow w.heap.size 58 1 v4 ((pre.map (·.row)).length+1) (xs++[x.v])) (hg4:(W.alloc (.cells #[x.v] 58)).grownBy w4 v.ownBlock) :
  KeepsOthers W (w4.setCell ⟨w.heap.size,0,none⟩ v4)/\oH (m9 w r) pre x (w4.setCell ⟨w.heap.size,0,none⟩ v4)/\w4.heap[w.heap.size]?=some (.cells #[v] 35 (0,0)):=by
 have hb:Below W.heap.size W (W.alloc (.cells #[x.v] 58)):=(Below.refl _ _).alloc (Nat.le_refl _) _
 obtain⟨q1,q2,q3,q4,q5⟩:=Boxed.appended (W:=W) (n₀:=w.heap.size) (B:=w.heap.size) (show Boxed W w.heap.size 35 v from h1) (by decide) own hB.size (Nat.le_refl _) own4 hg4
 have hrs:=kv own hall hb (hrow.keep (KeepT.below hb)) own4 hg4
 have own2:=own_below own hb (Nat.le_refl _)
 have k5:∀e,58≠e->KeepT e W w4:=λe he=>(KeepT.below hb).trans (KeepT.grown hg4 (own_blockR own2) he)
 have kS:∀e,35≠e->KeepT e w4 (w4.setCell ⟨w.heap.size,0,none⟩ v4):=λe he=>KeepT.setCell (show w4.heap[w.heap.size]?=_ from q1) he
 have hsv:Sv w.heap.size B W (w4.setCell ⟨w.heap.size,0,none⟩ v4):=by
  refine⟨q4.size,λk o hk hd hor=>?_⟩
  cases o with
  | cells cs T fr =>
   have hT:k<w.heap.size∨(T≠35/\T≠58):=by
    unfold hdR at hd
    rw[Bool.and_eq_false_iff]at hd
    rcases hd with hd|hd
    ·exact .inl (by simpa using hd)
    ·simp only[Bool.or_eq_false_iff,beq_eq_false_iff_ne]at hd
     exact .inr hd
   rcases hT with hT|⟨h3,h4⟩
   ·rw[q5.block k hT];exact hk
   ·exact kS T (Ne.symm h3) _ _ _ (k5 T (Ne.symm h4) _ _ _ hk)
  | _=>exact q4.same k _ hk rfl
 refine⟨q4,⟨⟨⟨v4,q2,?_⟩,hB.trans q5,?_⟩,x.stab _ _ hP hsv⟩,q1⟩
 ·rw[List.map_append]
  exact hrs.keep (kS _ (by decide)) (kS _ (by decide))
 ·obtain⟨f,hM⟩:=hf
  exact⟨f,hsv.fd hM hrB⟩
def JF (set:List Tp) (pats:List Pat) (w:World) (e:Ending) (w':World):Prop:=
 ∃vv vr,e=.returned (.tuple #[vv,vr])/\w'.ownsRow w.heap.size 9 1 vv (ae pats).length ((ae pats).map Value.string)/\OwnRs w.heap.size w' vr (bi set pats)/\Below w.heap.size w w'
theorem K3 (ab nv cv:Nat) (Av:Option Addr) (w:World):Calls Tryz.prog 50 #[.pointer (some ⟨ab,0,none⟩),.slice Av nv cv] w λe w' =>
  e=.returned (.func (.func 100) #[] #[.pointer (some ⟨w.heap.size,0,none⟩),.pointer (some ⟨w.heap.size+1,0,none⟩)])/\w'=(w.alloc (.cells #[.pointer (some ⟨ab,0,none⟩)] 91)).alloc (.cells #[.slice Av nv cv] 23):=by
 go_enter Tryz.func50,Tryz.ntmps50
 go_wp2
 go_ret
 exact⟨rfl,rfl⟩
theorem Ce {W:World} {base b:Nat} {e:TypeId} {size n c:Nat} {A:Option Addr} {xs:List Value} (h:W.ownsRow b e size (.slice A n c) n xs) (h1:e≠35) (h2:e≠58):Rd (wo (hdR base) W) A xs:=by
 obtain⟨A',c',e1,_,hr⟩:=own_slice h
 injection e1 with e1 _ _
 subst e1
 rcases hr with hr|⟨g,o,rfl,hx⟩
 ·exact .inl hr
 ·refine .inr ⟨g,o,rfl,λj u hu=>aV.2 ⟨hx j u hu,?_⟩⟩
  rcases h.2 with ⟨e2,_⟩|⟨g',cap,cur,e2,_,hh,_⟩
  ·cases e2
  ·injection e2 with e2
   injection e2 with e2
   injection e2 with e2
   subst e2
   exact⟨_,hh,wj h1 h2⟩
theorem Hh {w W:World} {A:Option Addr} {xs:List Value} (hr:Rd w A xs) (hb:Below w.heap.size w W):Rd (wo (hdR w.heap.size) W) A xs:=by
 rcases hr with h|⟨g,o,hA,hx⟩
 ·exact .inl h
 ·refine .inr ⟨g,o,hA,λj u hu=>?_⟩
  have hc:=hx j u hu
  have hlt:=ag hc
  simp only at hlt
  refine aV.2 ⟨ac hc hb,W.heap[g]'(Nat.lt_of_lt_of_le hlt hb.size),Array.getElem?_eq_getElem _,?_⟩
  unfold hdR
  rw[Bool.and_eq_false_iff]
  exact .inl (by simp;exact hlt)
theorem fS (set:List Tp) (pats:List Pat) (As Ap:Option Addr) (cs cp:Nat) (w:World) (hC:cD w) (hls:set.length<=1000) (hlp:pats.length<=300) (hz:∀t∈set,cQ t) (hs:Rd w As (set.flatMap tpL)) (hp:bI w Ap pats) (hN:aP set pats<=1500) :
  Calls Tryz.prog 17 #[.slice As set.length cs,.slice Ap pats.length cp] w (JF set pats w):=by
 have hB0:Below w.heap.size w (w.alloc (.cells #[.slice none 0 0] 35)):=blw
 have hq:=C0 pats Ap cp (w.alloc (.cells #[.slice none 0 0] 35)) (RdL.mono hp hB0 λ_ _ _ h=>h) (by omega)
 have hshow:=λW (h:Below w.heap.size w W)=>EJ set As cs W (hC.step h) (hs.later h) hz (by omega)
 have hx0:Boxed (w.alloc (.cells #[.slice none 0 0] 35)) w.heap.size 35 (.slice none 0 0):=Boxed.new w _ _
 have HC:=Lib.hid hC
 have HB0:=Lib.hid hB0
 have HX0:=Lib.hid hx0
 have HP:=Lib.hid hp
 clear hB0 hx0 hC hs hp
 refine(callsIn_wide (n:=6)).1 ?_
 refine callsIn_of_wp_marks Tryz.func17 rfl trivial ?_ rfl
 simp only[Tryz.ntmps17,List.size_toArray,List.length_cons,List.length_nil,Nat.reduceAdd,Nat.reduceSub,Array.replicate_succ,Array.replicate_zero,List.push_toArray,List.append_toArray,List.nil_append,List.cons_append]
 gi_wp2_with fail
 refine⟨trivial,?_⟩
 refine(callsIn_wide.2 hq).mono ?_
 rintro e w1 ⟨vv,rfl,own1,b1⟩
 obtain⟨Av,cv,rfl,hcv,hrv⟩:=own_slice own1
 have HB1:=Lib.hid (aa HB0.out b1)
 have HX1:Hid (Boxed w1 w.heap.size 35 (.slice none 0 0)):=cB b1 HX0.out
 have hm1:Below w1.heap.size w1 (w1.alloc (.map #[] 0)):=blw
 have hshow:=hshow (w1.alloc (.map #[] 0)) (aa HB1.out hm1)
 have HO1:=Lib.hid own1
 have HM1:=Lib.hid hm1
 have hmm:=@run_makeMap Tryz.prog
 clear b1 own1 hrv hm1 hq
 gi_wp2_with fail
 refine⟨trivial,?_⟩
 refine(callsIn_wide.2 hshow).mono ?_
 rintro e w2 ⟨vs,rfl,own2,b2⟩
 obtain⟨As2,cs2,rfl,hcs2,hrs2⟩:=own_slice own2
 have HB2:=Lib.hid b2
 have HO2:=Lib.hid own2
 clear b2 own2 hrs2 hshow
 gi_wp2_with fail
 refine⟨trivial,?_⟩
 refine(callsIn_wide.2 (K3 _ _ _ _ _)).mono ?_
 rintro e w3 ⟨rfl,hw3⟩
 gi_wp2
 obtain⟨W3,hW3⟩:∃V:World,((w2.alloc (.cells #[.map (some w1.heap.size),.slice As2 (aS set).length cs2,.slice Ap pats.length cp] 97)).alloc (.cells #[.pointer (some ⟨w2.heap.size,0,none⟩)] 91)).alloc (.cells #[.slice Av (ae pats).length cv] 23)=V:=⟨_,rfl⟩
 have b3:Below w2.heap.size w2 W3:=by rw[←hW3];exact blw
 have bM3:=aa (aa HM1.out HB2.out) b3
 have bw3:=aa HB1.out bM3
 have hM3:aY W3 w1.heap.size (cg noB):=((aY.new w1).on HB2.out).on b3
 have hX3:Boxed W3 w.heap.size 35 (.slice none 0 0):=cB bM3 HX1.out
 have hE3:uU w.heap.size w2.heap.size w1.heap.size (w2.heap.size+2) (w2.heap.size+1) As2 Ap Av (aS set).length cs2 pats.length cp (ae pats).length cv (aS set) pats (ae pats) W3:=by
  refine⟨by rw[←hW3];exact FC _ _ _ _,by rw[←hW3];exact rD _ _ _ _,by rw[←hW3];exact xP _ _ _ _,Ce (own_below HO2.out b3 (Nat.le_refl _)) (by decide) (by decide),?_,Ce (own_below HO1.out bM3 (Nat.le_refl _)) (by decide) (by decide)⟩
  obtain⟨xs,h1,h2⟩:=HP.out
  exact⟨xs,Hh h1 bw3,h2⟩
 have hz1:w.heap.size<=w1.heap.size:=HB1.out.size
 have hz2:w1.heap.size+1<=w2.heap.size:=by have:=HB2.out.size;simpa using this
 have hz3:W3.heap.size=w2.heap.size+3:=by rw[←hW3];simp
 have hlv:=fu pats
 have hN2:(dfs (aS set) pats noB).length<=1500:=Nat.le_trans (Nat.le_trans (rK _ _ _) (mW (xj set) pats)) hN
 have hls2:=Tx.set_len set
 rw[hW3]
 have HO1b:=Lib.hid (And.intro HO1.out bM3)
 clear HO2 HX1 HX0 HB0 HM1 HB2 b3 bM3 hW3 hmm HO1 HP
 refine oP (F:=Fence.wide) (n:=6) w1.heap.size ?hrw rfl ?h1 (gf:=100) (lb:=#[.pointer (some ⟨w2.heap.size+1,0,none⟩),.pointer (some ⟨w2.heap.size+1+1,0,none⟩)]) rfl trivial (enters_of Tryz.func100 (by kernel_rfl) rfl)
  (λx:Yl w.heap.size W3.heap.size=>#[x.v]) ?hps
  (λpre X=>m9 w w1.heap.size (pre.map (·.row)) X/\uU w.heap.size w2.heap.size w1.heap.size (w2.heap.size+2) (w2.heap.size+1) As2 Ap Av (aS set).length cs2 pats.length cp (ae pats).length cv (aS set) pats (ae pats) X/\aY X w1.heap.size (cg noB)/\KeepT 9 W3 X)
  (rU (m9 w w1.heap.size) 1500) (oH (m9 w w1.heap.size))
  (λxs=>xs.map (·.row)=dy (aS set) pats) ?hI ?hJ ?hIp ?h0
  (λx=>{tmps:=#[.slice As set.length cs,.slice Ap pats.length cp,undef,undef,.slice Av (ae pats).length cv,.pointer (some ⟨w.heap.size,0,none⟩),.pointer (some ⟨w2.heap.size,0,none⟩),x.v,.slice Ap pats.length cp,.slice Av (ae pats).length cv,.map (some w1.heap.size),.agg #[.map (some w1.heap.size)],.slice As set.length cs,.slice As2 (aS set).length cs2,.slice Ap pats.length cp,.agg #[.map (some w1.heap.size),.slice As2 (aS set).length cs2,.slice Ap pats.length cp],.pointer (some ⟨w2.heap.size,0,none⟩),.pointer (some ⟨w2.heap.size,0,none⟩),.slice Av (ae pats).length cv,.func (.func 100) #[] #[.pointer (some ⟨w2.heap.size+1,0,none⟩),.pointer (some ⟨w2.heap.size+1+1,0,none⟩)],x.v,undef,undef,undef,undef,undef,undef,undef,undef],defers:=[]})
  ?assign ?body ?iter ?done
 case hrw=>omega
 case h1=>omega
 case hps=>intro x;rfl
 case hI =>
  rintro pre u X Y row ⟨ho,hE,hM,hk⟩ hg hr
  have hf:=fJ hg hr
  exact⟨ho.far (by omega) (by omega) hg hr,hE.keep (hf.1 _).sw,(hf.1 0).fd hM (by omega),hk.trans (hf.2 _)⟩
 case hJ =>
  rintro pre x u X Y row ⟨ho,hP,hrow,hlen⟩ hg hr
  have hf:=fJ hg hr
  exact⟨ho.far (by omega) (by omega) hg hr,x.stab _ _ hP (hf.1 _),hrow.keep (hf.2 _),hlen⟩
 case hIp =>
  rintro pre x u X Y row ⟨ho,hP⟩ hg hr
  have hf:=fJ hg hr
  exact⟨ho.far (by omega) (by omega) hg hr,x.stab _ _ hP (hf.1 _)⟩
 case h0=>exact⟨⟨⟨_,hX3,OwnRs.nil _ _⟩,bw3,_,hM3⟩,hE3,hM3,KeepT.refl _ _⟩
 case assign =>
  intro l x W K hK
  have e:∀(b:Array Value) (v:Value),(#[20].zip #[v]).foldl (λt (p,v)=>t.setIfInBounds p v) b=b.setIfInBounds 20 v:=λb v=>by simp
  rw[e]
  gi_wp2
  exact hK
 case body =>
  rintro l pre ⟨xv,row,P,stab⟩ W ⟨⟨⟨v,h1,xs,own,hall⟩,hB,hf⟩,hP,hrow,hlen⟩
  obtain⟨v',e1,own'⟩:=hrow
  injection e1 with e1 _
  simp only at e1 own'
  subst e1
  obtain⟨Ax,cx,rfl,hcx,_⟩:=own_slice own'
  have hba:Below W.heap.size W (W.alloc (.cells #[.slice Ax row.length cx] 58)):=blw
  have own0:=own_below own hba (Nat.le_refl _)
  have c0:W.cell? ⟨w.heap.size,0,none⟩=some v:=by rw[World.cell?,h1];rfl
  have hnew:∀(j:Nat) (u:Value),[Value.slice Ax row.length cx][j]?=some u->(W.alloc (.cells #[.slice Ax row.length cx] 58)).cell? ((⟨W.heap.size,0,none⟩:Addr).add j)=some u:=by
   intro j u hu
   rw[aR,Nat.zero_add,World.cell?,heap_alloc_new]
   simpa using hu
  obtain⟨i,hi,hz,hsize,hby⟩:=info_parts dj
  have hn:(pre.map (·.row)).length<=1500:=by rw[List.length_map];omega
  obtain⟨nn,hnn⟩:∃nn,(pre.map (·.row)).length=nn:=⟨_,rfl⟩
  have HT:=Lib.hid (λw4 v4 h4 hg4=>m9.tell (pre:=pre) (x:=⟨.slice Ax row.length cx,row,P,stab⟩) (w4:=w4) (v4:=v4) (by omega:w1.heap.size<W3.heap.size) h1 own hall hB hf hP ⟨_,rfl,own'⟩ h4 hg4)
  rw[hnn]at own0 HT hn
  obtain⟨Ar,cr,rfl,_,_⟩:=own_slice own0
  have hbs:=hB.size
  have hlt:=ag c0
  simp only at hlt
  clear own hall hB hf hP own' h1 hba hnn hcx
  gi_wp2_with (gi_at_builtin;(refine wpListIn_append_own_at _ rfl _ _ 35 rfl w.heap.size 58 i _ 1 24 Tryz.underlying35 hi hz hsize hby rfl (by omega) _ nn xs rfl own0 ⟨W.heap.size,0,none⟩ 1 1 [.slice Ax row.length cx] rfl rfl hnew (by intro u hu;simp at hu;subst hu;rfl) (by unfold maxLen;omega) (by omega) (by simp;omega) ?_;intro v4 w4 own4 hg4 _ _;obtain⟨k1,k2,k3⟩:=HT.out w4 v4 own4 hg4;obtain⟨A4,c4,rfl,_,_⟩:=own_slice own4;have g0:w4.cell? ⟨w.heap.size,0,none⟩=some _:=(by rw[World.cell?,k3];rfl);have g1:w4.frozen? ⟨w.heap.size,0,none⟩=false:=(by simp[World.frozen?,k3])))
  exact⟨k1,k2⟩
 case iter =>
  intro l K W hI hk hK hY
  obtain⟨ho,hE,hM,hks⟩:=hI
  refine callsIn_wide.2 ((Jj (m:=6-1-1) (λrows X Y h hg hf=>?_) hK hY (by omega) rfl (by omega) rfl (by omega) rfl (by omega) hN2 W hE hM ?_ (by simpa using ho) hk).mono ?_)
  ·exact h.on hz1 hg hf
  ·exact ho.2.1.size
  ·rintro e Y ⟨h1,xs,hxs,ho',hk',hM',hs'⟩
   exact⟨h1,xs,hxs,⟨ho',hE.keep hs',hM',hks.trans (hs'.keepT (by decide) (by decide))⟩,hk'⟩
 case done =>
  rintro D xs W hD hS ⟨⟨⟨v,h1,hO⟩,hB,hf⟩,hE,hM,hks⟩ hK
  obtain⟨A,c,rfl,hc,_⟩:=hO.rd
  rw[hS]at hO h1 hc
  have hsl:(dy (aS set) pats).length<=1500:=Nat.le_trans (sQ set pats) hN
  have hsort:=I2 w HC.out (ae pats).length _ _ (dy (aS set) pats) W hB hO rfl (by omega) (λr hr=>⟨by rw[mJ hr];omega,λt ht=>by
   obtain⟨u,hu,h⟩:=sP hr ht
   have hzu:=hz u ((me set u).1 hu)
   rcases h with rfl|rfl|rfl
   ·exact hzu.1
   ·exact hzu.2.1
   ·exact hzu.2.2⟩) (λr hr=>mJ hr)
  have hlen:Hid ((dy (aS set) pats).length=(bi set pats).length):=(dE set pats).length_eq.symm
  have hP:Hid (fB [] (dy (aS set) pats)=bi set pats):=rfl
  have c0:W.cell? ⟨w.heap.size,0,none⟩=some (.slice A (dy (aS set) pats).length c):=by rw[World.cell?,h1];rfl
  have H1:=Lib.hid (And.intro h1 (And.intro hK hks))
  clear hks h1 hK hE hB hO hf hM hS hM3 hX3 hE3 bw3 hN2 hls2
  gi_wp2_with (refine⟨trivial,?_⟩;gi_at_call 51;refine(callsIn_wide.2 hsort).mono ?_;rintro e w5 ⟨rfl,hB5,hk5,hO5,hko5⟩)
  have h5:=hk5 35 (by decide) _ _ _ H1.out.1
  have d5:=hko5.same D _ H1.out.2.1 rfl
  have c5:w5.cell? ⟨w.heap.size,0,none⟩=some (.slice A (dy (aS set) pats).length c):=by rw[World.cell?,h5];rfl
  have ov5:w5.ownsRow (w.heap.size+1) 9 1 (.slice Av (ae pats).length cv) (ae pats).length ((ae pats).map Value.string):=by
   have h3:=own_keep (own_keep (own_below HO1b.out.1 HO1b.out.2 (Nat.le_refl _)) H1.out.2.2) (hk5 _ (by decide))
   simpa using h3
  have H5:=Lib.hid (And.intro h5 (And.intro d5 (And.intro hB5 (And.intro hO5 ov5))))
  clear h5 d5 hB5 hO5 ov5 hk5 hko5 c0 hsort
  refine wpIn_wide.2 ?_
  refine Rs.p0 w5.heap.size [3] _ [(3,[0]),(0,[1]),(3,[2]),(2,[3])] ?_ (λa w h=>h)
  intro wd hbd hwz
  have y0:=cellL c5 hbd
  have HBD:=Lib.hid hbd
  clear hwz c5 hbd
  refine Rs.st_pure ?_
  iterate 1 go_big_quiet_step (fail)
  refine wpQuiet_nil (Rs.st_quiet ?_)
  iterate 1 go_big_quiet_step (fail)
  refine wpQuiet_nil (Rs.st_pure ?_)
  iterate 1 go_big_quiet_step (fail)
  refine wpQuiet_nil (Rs.st_free ?_)
  have hd5:=KeepT.below HBD.out _ _ _ H5.out.1
  have g0:wd.cell? ⟨w.heap.size,0,none⟩=some (.slice A (dy (aS set) pats).length c):=by rw[World.cell?,hd5];rfl
  have g1:wd.frozen? ⟨w.heap.size,0,none⟩=false:=by simp[World.frozen?,hd5]
  have hlt:=ag g0
  simp only at hlt
  have HD:=Lib.hid hd5
  clear y0 hd5
  go_wp2
  refine⟨⟨rfl,rfl,rfl,by simp,λ_ h=>absurd h (Nat.not_lt_zero _)⟩,Rs.st_done ?_⟩
  gi_wp2
  obtain⟨h5,d5,hB5,hO5,ov5⟩:=H5.out
  have hbd:=HBD.out
  have dd:wd.heap[D]?=some (.deferred (some [])):=by rw[hbd.block D (Array.getElem?_eq_some_iff.1 d5).1];exact d5
  have hK2:=(KeepsOthers.setCell wd ⟨w.heap.size,0,none⟩ (.slice A (dy (aS set) pats).length c)).same D _ dd rfl
  have hX:Boxed wd w.heap.size 35 (.slice A (dy (aS set) pats).length c):=HD.out
  have hb2:=hX.set (.slice A (dy (aS set) pats).length c)
  have hgp:=grownBy_putObj' (wd.setCell ⟨w.heap.size,0,none⟩ (.slice A (dy (aS set) pats).length c)) D (.deferred none)
  refine⟨by simp,.inl ⟨_,_,rfl,run_takeDeferred hK2,?_⟩⟩
  have hc3:=cell_kept hb2.cell hgp (λr e=>by cases e;exact⟨_,hK2,rfl⟩)
  have hkp:=(fJ (B:=0) hgp (λq e=>by cases e;exact⟨Nat.zero_le _,_,hK2,rfl⟩)).2
  have hks:∀e,35≠e->KeepT e w5 ((wd.setCell ⟨w.heap.size,0,none⟩ (.slice A (dy (aS set) pats).length c)).putObj D (.deferred none)):=λe he=>((KeepT.below hbd).trans (KeepT.setCell HD.out he)).trans (hkp e)
  refine⟨.tuple #[.slice Av (ae pats).length cv,.slice A (dy (aS set) pats).length c],?_,_,_,rfl,own_lower (own_keep ov5 (hks _ (by decide))) (Nat.le_succ _),hO5.keep (hks _ (by decide)) (hks _ (by decide)),?_⟩
  ·simp[results,Tryz.results17,go_sem,hc3]
  ·exact(((hB5.trans (hbd.mono hB5.size)).setCell (p:=⟨w.heap.size,0,none⟩) (Nat.le_refl _) _)).grown hgp (by simp;omega) (λq e=>by injection e with e;omega)
theorem lu (a:Pat) (W:World):(binOp .eql 72 (.agg #[.string a.s.v,.int .i64 a.s.t.k,.string a.s.t.x,.string a.s.t.l,.string a.s.t.y,.string a.p.v,.int .i64 a.p.t.k,.string a.p.t.x,.string a.p.t.l,.string a.p.t.y,.string a.o.v,.int .i64 a.o.t.k,.string a.o.t.x,.string a.o.t.l,.string a.o.t.y]) (.agg #[.string a.s.v,.int .i64 a.s.t.k,.string a.s.t.x,.string a.s.t.l,.string a.s.t.y,.string a.p.v,.int .i64 a.p.t.k,.string a.p.t.x,.string a.p.t.l,.string a.p.t.y,.string a.o.v,.int .i64 a.o.t.k,.string a.o.t.x,.string a.o.t.l,.string a.o.t.y])).run Tryz.prog W=.ok (.bool true) W:=by
 have h0:=Tryz.underlying72
 have h1:=Tryz.underlying9
 have h2:=Tryz.underlying70
 have h3:=Tryz.underlying62
 have h4:=Tryz.underlying60
 simp only[go_sem,h0]
 simp[go_sem,h0,h1,h2,h3,h4]
theorem IY (l:List ByteArray) (g:Nat) (A:Option Addr) (c:Nat) (w:World) (hg:bU 9 w g ((l++marksOf (λi=>mkT 1 i)).map Value.string)) (hr:Rd w A (l.map Value.string)) (hl:l.length<=1048576) :
  Calls Tryz.prog 44 #[.slice (some ⟨g,0,none⟩) l.length (l.length+12),.slice A l.length c] w λe w'=>e=.returned (.bool true)/\Below w.heap.size w w':=by
 have hlm:(l++marksOf (λi=>mkT 1 i)).length=l.length+12:=by simp[marksOf]
 go_enter Tryz.func44,Tryz.ntmps44
 go_wp2
 go_loopw [6] (λi wr=>∃k:Nat,k<=l.length+12/\i=.int .i64 k/\Below w.heap.size w wr) (λi _=>l.length+12-(intOf i).toNat)
 case atStart=>exact⟨0,by omega,rfl,Below.refl _ _⟩
 case round =>
  obtain⟨k,hk,rfl,hB⟩:=hrel
  by_cases hlt:k<l.length+12
  ·have hlt0:=hlt
   have hrd:=hg.rd.of_belowL hB
   have hrl:=hr.of_belowL hB
   clear hr hg
   by_cases hkn:k<l.length
   ·obtain⟨x,hx⟩:∃x,l[k]?=some x:=⟨_,List.getElem?_eq_getElem hkn⟩
    have hxm:(l++marksOf (λi=>mkT 1 i))[k]?=some x:=by rw[List.getElem?_append_left hkn];exact hx
    obtain⟨g0,o0,he0,c0⟩:=hrd.at_ (j:=k) (u:=.string x) (by simp only[List.getElem?_map,hxm,Option.map_some])
    injection he0 with he0;injection he0 with h2 h3;subst h2;subst h3
    rw[Nat.zero_add]at c0
    obtain⟨g1,o1,rfl,d0⟩:=hrl.at_ (j:=k) (u:=.string x) (by simp[hx])
    have x0:=λd os=>ac c0 (below_regrown wr d os)
    have x1:=λd os=>ac d0 (below_regrown wr d os)
    clear c0 d0
    have hd1:decide ((k:Int)<(l.length:Int))=true:=by simp;omega
    have hd2:decide (l.length<=k)=false:=by simp;omega
    clear hx hxm hrd hrl hlm
    go_wp2
    refine wrq ?_;(repeat (any_goals (go_big_quiet_step ((fail)))));all_goals (refine wqn ?_;intro d9 os9)
    go_wp2
    go_roundw
    case rel=>exact⟨k+1,by omega,by go_num,blw⟩
    case measure=>simp[intOf];omega
   ·have hmk:=λW=>xH 1 ((k:Int)-l.length) W (by omega) (by omega) (by omega) (by omega)
    have hxm:(l++marksOf (λi=>mkT 1 i))[k]?=some ((λi=>mkT 1 i) ((k:Int)-l.length)):=nQ _ _ _ (by omega) hlt
    obtain⟨g0,o0,he0,c0⟩:=hrd.at_ (j:=k) (u:=.string (mkT 1 ((k:Int)-l.length))) (by simp only[List.getElem?_map,hxm,Option.map_some])
    injection he0 with he0;injection he0 with h2 h3;subst h2;subst h3
    rw[Nat.zero_add]at c0
    have x0:=λd os=>ac c0 (below_regrown wr d os)
    clear c0
    generalize mkT 1 ((k:Int)-l.length)=s at *
    have hd1:decide ((k:Int)<(l.length:Int))=false:=by simp;omega
    have hd2:decide (l.length<=k)=true:=by simp;omega
    have e1:IntKind.i64.wrap ((k:Int)-l.length)=(k:Int)-l.length:=IntWalk.i64_in _ (by omega)
    clear hxm hrd hrl hlm
    go_wp2
    refine wrq ?_;(repeat (any_goals (go_big_quiet_step ((go_at_call 60;exact Calls.regrown_of (hmk _))))));all_goals (refine wqn ?_;intro d9 os9)
    go_wp2
    go_roundw
    case rel=>exact⟨k+1,by omega,by go_num,blw⟩
    case measure=>simp[intOf];omega
  ·go_wp2
   go_ret
   exact⟨rfl,hB⟩
theorem ry (l:List Pat) (g:Nat) (A:Option Addr) (c:Nat) (w:World) (hg:bU 72 w g ((l++marksOf (kC)).flatMap cPat)) (hr:Rd w A (l.flatMap cPat)) (hl:l.length<=1048576) :
  Calls Tryz.prog 24 #[.slice (some ⟨g,0,none⟩) l.length (l.length+12),.slice A l.length c] w λe w'=>e=.returned (.bool true)/\Below w.heap.size w w':=by
 have hlm:(l++marksOf (kC)).length=l.length+12:=by simp[marksOf]
 go_enter Tryz.func24,Tryz.ntmps24
 go_wp2
 go_loopw [6] (λi wr=>∃k:Nat,k<=l.length+12/\i=.int .i64 k/\Below w.heap.size w wr) (λi _=>l.length+12-(intOf i).toNat)
 case atStart=>exact⟨0,by omega,rfl,Below.refl _ _⟩
 case round =>
  obtain⟨k,hk,rfl,hB⟩:=hrel
  by_cases hlt:k<l.length+12
  ·have hlt0:=hlt
   have hrd:=hg.rd.of_belowL hB
   have hrl:=hr.of_belowL hB
   clear hr hg
   by_cases hkn:k<l.length
   ·obtain⟨x,hx⟩:∃x,l[k]?=some x:=⟨_,List.getElem?_eq_getElem hkn⟩
    have hxm:(l++marksOf (kC))[k]?=some x:=by rw[List.getElem?_append_left hkn];exact hx
    obtain⟨g0,o0,csx,he0,-,rfl,hcx⟩:=((RdL.flatC (sz:=15) (λ_=>rfl)).2 hrd).at_ (by omega) hxm
    injection he0 with he0;injection he0 with h2 h3;subst h2;subst h3
    simp only[Nat.zero_add]at hcx
    have c0:∀d os,(Sort.grow (redrawn wr d) os).cell? ⟨g,k*15,none⟩=some (.string x.s.v):=λd os=>ac (hcx 0 _ rfl) (below_regrown wr d os)
    have c1:∀d os,(Sort.grow (redrawn wr d) os).cell? ⟨g,k*15+1,none⟩=some (.int .i64 x.s.t.k):=λd os=>ac (hcx 1 _ rfl) (below_regrown wr d os)
    have c2:∀d os,(Sort.grow (redrawn wr d) os).cell? ⟨g,k*15+2,none⟩=some (.string x.s.t.x):=λd os=>ac (hcx 2 _ rfl) (below_regrown wr d os)
    have c3:∀d os,(Sort.grow (redrawn wr d) os).cell? ⟨g,k*15+3,none⟩=some (.string x.s.t.l):=λd os=>ac (hcx 3 _ rfl) (below_regrown wr d os)
    have c4:∀d os,(Sort.grow (redrawn wr d) os).cell? ⟨g,k*15+4,none⟩=some (.string x.s.t.y):=λd os=>ac (hcx 4 _ rfl) (below_regrown wr d os)
    have c5:∀d os,(Sort.grow (redrawn wr d) os).cell? ⟨g,k*15+5,none⟩=some (.string x.p.v):=λd os=>ac (hcx 5 _ rfl) (below_regrown wr d os)
    have c6:∀d os,(Sort.grow (redrawn wr d) os).cell? ⟨g,k*15+6,none⟩=some (.int .i64 x.p.t.k):=λd os=>ac (hcx 6 _ rfl) (below_regrown wr d os)
    have c7:∀d os,(Sort.grow (redrawn wr d) os).cell? ⟨g,k*15+7,none⟩=some (.string x.p.t.x):=λd os=>ac (hcx 7 _ rfl) (below_regrown wr d os)
    have c8:∀d os,(Sort.grow (redrawn wr d) os).cell? ⟨g,k*15+8,none⟩=some (.string x.p.t.l):=λd os=>ac (hcx 8 _ rfl) (below_regrown wr d os)
    have c9:∀d os,(Sort.grow (redrawn wr d) os).cell? ⟨g,k*15+9,none⟩=some (.string x.p.t.y):=λd os=>ac (hcx 9 _ rfl) (below_regrown wr d os)
    have c10:∀d os,(Sort.grow (redrawn wr d) os).cell? ⟨g,k*15+10,none⟩=some (.string x.o.v):=λd os=>ac (hcx 10 _ rfl) (below_regrown wr d os)
    have c11:∀d os,(Sort.grow (redrawn wr d) os).cell? ⟨g,k*15+11,none⟩=some (.int .i64 x.o.t.k):=λd os=>ac (hcx 11 _ rfl) (below_regrown wr d os)
    have c12:∀d os,(Sort.grow (redrawn wr d) os).cell? ⟨g,k*15+12,none⟩=some (.string x.o.t.x):=λd os=>ac (hcx 12 _ rfl) (below_regrown wr d os)
    have c13:∀d os,(Sort.grow (redrawn wr d) os).cell? ⟨g,k*15+13,none⟩=some (.string x.o.t.l):=λd os=>ac (hcx 13 _ rfl) (below_regrown wr d os)
    have c14:∀d os,(Sort.grow (redrawn wr d) os).cell? ⟨g,k*15+14,none⟩=some (.string x.o.t.y):=λd os=>ac (hcx 14 _ rfl) (below_regrown wr d os)
    obtain⟨g1,o1,csy,rfl,-,rfl,hcy⟩:=((RdL.flatC (sz:=15) (λ_=>rfl)).2 hrl).at_ (by omega) hx
    have d0:∀d os,(Sort.grow (redrawn wr d) os).cell? ⟨g1,o1+k*15,none⟩=some (.string x.s.v):=λd os=>ac (hcy 0 _ rfl) (below_regrown wr d os)
    have d1:∀d os,(Sort.grow (redrawn wr d) os).cell? ⟨g1,o1+k*15+1,none⟩=some (.int .i64 x.s.t.k):=λd os=>ac (hcy 1 _ rfl) (below_regrown wr d os)
    have d2:∀d os,(Sort.grow (redrawn wr d) os).cell? ⟨g1,o1+k*15+2,none⟩=some (.string x.s.t.x):=λd os=>ac (hcy 2 _ rfl) (below_regrown wr d os)
    have d3:∀d os,(Sort.grow (redrawn wr d) os).cell? ⟨g1,o1+k*15+3,none⟩=some (.string x.s.t.l):=λd os=>ac (hcy 3 _ rfl) (below_regrown wr d os)
    have d4:∀d os,(Sort.grow (redrawn wr d) os).cell? ⟨g1,o1+k*15+4,none⟩=some (.string x.s.t.y):=λd os=>ac (hcy 4 _ rfl) (below_regrown wr d os)
    have d5:∀d os,(Sort.grow (redrawn wr d) os).cell? ⟨g1,o1+k*15+5,none⟩=some (.string x.p.v):=λd os=>ac (hcy 5 _ rfl) (below_regrown wr d os)
    have d6:∀d os,(Sort.grow (redrawn wr d) os).cell? ⟨g1,o1+k*15+6,none⟩=some (.int .i64 x.p.t.k):=λd os=>ac (hcy 6 _ rfl) (below_regrown wr d os)
    have d7:∀d os,(Sort.grow (redrawn wr d) os).cell? ⟨g1,o1+k*15+7,none⟩=some (.string x.p.t.x):=λd os=>ac (hcy 7 _ rfl) (below_regrown wr d os)
    have d8:∀d os,(Sort.grow (redrawn wr d) os).cell? ⟨g1,o1+k*15+8,none⟩=some (.string x.p.t.l):=λd os=>ac (hcy 8 _ rfl) (below_regrown wr d os)
    have d9:∀d os,(Sort.grow (redrawn wr d) os).cell? ⟨g1,o1+k*15+9,none⟩=some (.string x.p.t.y):=λd os=>ac (hcy 9 _ rfl) (below_regrown wr d os)
    have d10:∀d os,(Sort.grow (redrawn wr d) os).cell? ⟨g1,o1+k*15+10,none⟩=some (.string x.o.v):=λd os=>ac (hcy 10 _ rfl) (below_regrown wr d os)
    have d11:∀d os,(Sort.grow (redrawn wr d) os).cell? ⟨g1,o1+k*15+11,none⟩=some (.int .i64 x.o.t.k):=λd os=>ac (hcy 11 _ rfl) (below_regrown wr d os)
    have d12:∀d os,(Sort.grow (redrawn wr d) os).cell? ⟨g1,o1+k*15+12,none⟩=some (.string x.o.t.x):=λd os=>ac (hcy 12 _ rfl) (below_regrown wr d os)
    have d13:∀d os,(Sort.grow (redrawn wr d) os).cell? ⟨g1,o1+k*15+13,none⟩=some (.string x.o.t.l):=λd os=>ac (hcy 13 _ rfl) (below_regrown wr d os)
    have d14:∀d os,(Sort.grow (redrawn wr d) os).cell? ⟨g1,o1+k*15+14,none⟩=some (.string x.o.t.y):=λd os=>ac (hcy 14 _ rfl) (below_regrown wr d os)
    have hself:=λW=>lu x W
    have hd1:decide ((k:Int)<(l.length:Int))=true:=by simp;omega
    have hd2:decide (l.length<=k)=false:=by simp;omega
    clear hx hxm hrd hrl hlm hcx hcy
    go_wp2
    refine wrq ?_;(repeat (any_goals (go_big_quiet_step ((fail)))));all_goals (refine wqn ?_;intro d9 os9)
    go_wp2
    go_roundw
    case rel=>exact⟨k+1,by omega,by go_num,blw⟩
    case measure=>simp[intOf];omega
   ·have hmk:=λW=>CJ ((k:Int)-l.length) W (by omega) (by omega)
    have hxm:(l++marksOf (kC))[k]?=some ((kC) ((k:Int)-l.length)):=nQ _ _ _ (by omega) hlt
    obtain⟨g0,o0,csx,he0,-,rfl,hcx⟩:=((RdL.flatC (sz:=15) (λ_=>rfl)).2 hrd).at_ (by omega) hxm
    injection he0 with he0;injection he0 with h2 h3;subst h2;subst h3
    simp only[Nat.zero_add]at hcx
    have hself:=λW=>lu (kC ((k:Int)-l.length)) W
    simp only[kC,zB,zTm,lQ,cPat]at hself hcx hmk
    generalize 8000024+((k:Int)-l.length)=s at *
    have c0:∀d os,(Sort.grow (redrawn wr d) os).cell? ⟨g,k*15,none⟩=some (.string ⟨#[]⟩):=λd os=>ac (hcx 0 _ rfl) (below_regrown wr d os)
    have c1:∀d os,(Sort.grow (redrawn wr d) os).cell? ⟨g,k*15+1,none⟩=some (.int .i64 s):=λd os=>ac (hcx 1 _ rfl) (below_regrown wr d os)
    have c2:∀d os,(Sort.grow (redrawn wr d) os).cell? ⟨g,k*15+2,none⟩=some (.string ⟨#[]⟩):=λd os=>ac (hcx 2 _ rfl) (below_regrown wr d os)
    have c3:∀d os,(Sort.grow (redrawn wr d) os).cell? ⟨g,k*15+3,none⟩=some (.string ⟨#[]⟩):=λd os=>ac (hcx 3 _ rfl) (below_regrown wr d os)
    have c4:∀d os,(Sort.grow (redrawn wr d) os).cell? ⟨g,k*15+4,none⟩=some (.string ⟨#[]⟩):=λd os=>ac (hcx 4 _ rfl) (below_regrown wr d os)
    have c5:∀d os,(Sort.grow (redrawn wr d) os).cell? ⟨g,k*15+5,none⟩=some (.string ⟨#[]⟩):=λd os=>ac (hcx 5 _ rfl) (below_regrown wr d os)
    have c6:∀d os,(Sort.grow (redrawn wr d) os).cell? ⟨g,k*15+6,none⟩=some (.int .i64 0):=λd os=>ac (hcx 6 _ rfl) (below_regrown wr d os)
    have c7:∀d os,(Sort.grow (redrawn wr d) os).cell? ⟨g,k*15+7,none⟩=some (.string ⟨#[]⟩):=λd os=>ac (hcx 7 _ rfl) (below_regrown wr d os)
    have c8:∀d os,(Sort.grow (redrawn wr d) os).cell? ⟨g,k*15+8,none⟩=some (.string ⟨#[]⟩):=λd os=>ac (hcx 8 _ rfl) (below_regrown wr d os)
    have c9:∀d os,(Sort.grow (redrawn wr d) os).cell? ⟨g,k*15+9,none⟩=some (.string ⟨#[]⟩):=λd os=>ac (hcx 9 _ rfl) (below_regrown wr d os)
    have c10:∀d os,(Sort.grow (redrawn wr d) os).cell? ⟨g,k*15+10,none⟩=some (.string ⟨#[]⟩):=λd os=>ac (hcx 10 _ rfl) (below_regrown wr d os)
    have c11:∀d os,(Sort.grow (redrawn wr d) os).cell? ⟨g,k*15+11,none⟩=some (.int .i64 0):=λd os=>ac (hcx 11 _ rfl) (below_regrown wr d os)
    have c12:∀d os,(Sort.grow (redrawn wr d) os).cell? ⟨g,k*15+12,none⟩=some (.string ⟨#[]⟩):=λd os=>ac (hcx 12 _ rfl) (below_regrown wr d os)
    have c13:∀d os,(Sort.grow (redrawn wr d) os).cell? ⟨g,k*15+13,none⟩=some (.string ⟨#[]⟩):=λd os=>ac (hcx 13 _ rfl) (below_regrown wr d os)
    have c14:∀d os,(Sort.grow (redrawn wr d) os).cell? ⟨g,k*15+14,none⟩=some (.string ⟨#[]⟩):=λd os=>ac (hcx 14 _ rfl) (below_regrown wr d os)
    have hd1:decide ((k:Int)<(l.length:Int))=false:=by simp;omega
    have hd2:decide (l.length<=k)=true:=by simp;omega
    have e1:IntKind.i64.wrap ((k:Int)-l.length)=(k:Int)-l.length:=IntWalk.i64_in _ (by omega)
    clear hxm hrd hrl hlm hcx
    go_wp2
    refine wrq ?_;(repeat (any_goals (go_big_quiet_step ((go_at_call 47;exact Calls.regrown_of (hmk _))))));all_goals (refine wqn ?_;intro d9 os9)
    go_wp2
    go_roundw
    case rel=>exact⟨k+1,by omega,by go_num,blw⟩
    case measure=>simp[intOf];omega
  ·go_wp2
   go_ret
   exact⟨rfl,hB⟩
theorem below_drewN {B:Nat} {a w:World} (h:Below B a w) (n:Nat):Below B a (w.drewN n):=⟨h.os,h.tape,h.output,h.size,h.block⟩
def J5 (a b:List Int) (k:Nat):Prop:=∀j,j<k->a[j]?=b[j]?
theorem Bu (a b:List Int) (A B:Option Addr) (c d:Nat) (w:World) (ha:Rd w A (a.map (Value.int .i64))) (hb:Rd w B (b.map (Value.int .i64))) (hl:a.length<=1000000000) (hl2:b.length<=1000000000) :
  Calls Tryz.prog 20 #[.slice A a.length c,.slice B b.length d] w λe w'=>e=.returned (.bool (decide (a=b)))/\Below w.heap.size w w':=by
 by_cases hlen:a.length=b.length
 case neg =>
  have hne:decide (a=b)=false:=by simp;intro h;exact hlen (by rw[h])
  have h1:((a.length:Int) != (b.length:Int))=true:=by rw[bne_iff_ne];omega
  rw[hne]
  clear hne hlen
  go_enter Tryz.func20,Tryz.ntmps20
  go_wp2
  go_ret
  exact⟨rfl,Below.refl _ _⟩
 have h1:((a.length:Int) != (b.length:Int))=false:=by simp;omega
 have hab:a.length<=b.length:=by omega
 have Hlen:=Lib.hid hlen
 clear hlen
 go_enter Tryz.func20,Tryz.ntmps20
 go_wp2
 go_loopw [5] (λi wr=>∃k:Nat,k<=a.length/\i=.int .i64 k/\Below w.heap.size w wr/\Hid (J5 a b k)) (λi _=>a.length-(intOf i).toNat)
 case atStart=>exact⟨0,by omega,rfl,Below.refl _ _,λj h=>by omega⟩
 case round =>
  obtain⟨k,hk,rfl,hB,H⟩:=hrel
  by_cases hlt:k<a.length
  ·obtain⟨x,hx⟩:∃x,a[k]?=some x:=⟨_,List.getElem?_eq_getElem hlt⟩
   obtain⟨y,hy⟩:∃x,b[k]?=some x:=⟨_,List.getElem?_eq_getElem (by omega)⟩
   obtain⟨g,o,rfl,hcx⟩:=(ha.below hB (Nat.le_refl _)).at_ (j:=k) (u:=.int .i64 x) (by simp[hx])
   obtain⟨g',o',rfl,hcy⟩:=(hb.below hB (Nat.le_refl _)).at_ (j:=k) (u:=.int .i64 y) (by simp[hy])
   have Hx:=Lib.hid hx
   have Hy:=Lib.hid hy
   have hlt2:k<b.length:=by omega
   clear hx hy ha hb
   by_cases hxy:x=y
   ·have hq:(x != y)=false:=by simp[hxy]
    have Hxy:=Lib.hid hxy
    clear hxy
    go_wp2
    go_quiet (fail)
    go_wp2
    go_roundw
    case rel=>exact⟨k+1,by omega,by go_num,below_drewN hB nq,λj hj=>by
     rcases Nat.lt_or_ge j k with h|h
     ·exact H.out j h
     ·have:j=k:=by omega
      subst this;rw[Hx.out,Hy.out,Hxy.out]⟩
    case measure=>simp[intOf];omega
   ·have hq:(x != y)=true:=by simp[hxy]
    have hne:decide (a=b)=false:=by
     simp;intro h;subst h
     have:=Hx.out.symm.trans Hy.out
     injection this with this;exact hxy this
    have Hne:=Lib.hid hne
    clear hxy hne
    go_wp2
    go_quiet (fail)
    go_wp2
    go_ret
    exact⟨by rw[Hne.out];rfl,below_drewN hB nq⟩
  ·have he:decide (a=b)=true:=by
    simp
    apply List.ext_getElem?
    intro j
    rcases Nat.lt_or_ge j k with h|h
    ·exact H.out j h
    ·rw[List.getElem?_eq_none (by omega),List.getElem?_eq_none (by have:=Hlen.out;omega)]
   have He:=Lib.hid he
   clear he
   go_wp2
   go_ret
   exact⟨by rw[He.out];rfl,hB⟩
open Lx Mp
theorem BM {names:List ByteArray} {l:List (List Tm)} (h:names.Nodup) (hl:∀r∈l,r.length=names.length):mR names l=true:=by
 unfold mR
 simp only[Bool.and_eq_true,decide_eq_true_iff,Bool.not_eq_true',List.any_eq_false]
 exact⟨h,λr hr=>by simp[hl r hr]⟩
end Go.Proofs.YtfcbghmbbjolcaaGreatDoor
