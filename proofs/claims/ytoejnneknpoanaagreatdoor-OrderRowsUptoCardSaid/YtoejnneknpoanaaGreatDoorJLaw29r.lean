/- OrderRows: for every small table and query the law returns t -/
import Derived.Test.YtoejnneknpoanaaGreatDoorJLaw29q
import Derived.Test.YtoejnneknpoanaaGreatDoorJAppW
namespace Go.Proofs.YtoejnneknpoanaaGreatDoor
open Go Go.RowKit Um Fm Lx Tx Om Mp
theorem kitPick29 (x n:Int) (w:World) (h0:1<=n) (h1:n<=1000) :
  Calls Tryz.prog 36 #[.int .i64 x,.int .i64 n] w λe w'=>∃k:Nat,e=.returned (.int .i64 k)/\(k:Int)<n/\w=w':=by
 have b1 : -n<x.tmod n:=Int.lt_tmod_of_pos x (by omega)
 have b2:x.tmod n<n:=Int.tmod_lt_of_pos x (by omega)
 go_enter Tryz.func36,Tryz.ntmps36
 go_wp2
 ·go_ret
  exact⟨(x.tmod n+n).toNat,by congr 1;show Value.int .i64 _=Value.int .i64 _;congr 1;omega,by omega,rfl⟩
 ·go_ret
  exact⟨(x.tmod n).toNat,by congr 1;show Value.int .i64 _=Value.int .i64 _;congr 1;omega,by omega,rfl⟩
theorem rightT_nodup {vars:List ByteArray} {rows:List (List Tm)} (h:rightT vars rows=true):vars.Nodup:=by
 unfold rightT at h
 simp only[Bool.and_eq_true]at h
 exact of_decide_eq_true h.1
theorem sortN_in {vars:List ByteArray} {keys:List Ky} (h:sortN vars keys=0):∀y∈keys,y.v∈vars:=by
 intro y hy
 have hN:(placesL vars (keys.map (·.v))).contains (-1)=false:=by
  cases hc:(placesL vars (keys.map (·.v))).contains (-1) with
  | false=>rfl
  | true =>
   unfold sortN at h
   rw[if_pos hc]at h
   cases h
 have:=places_in hN (Lib.idxOfS vars y.v) (List.mem_map.2 ⟨y.v,List.mem_map.2 ⟨y,hy,rfl⟩,rfl⟩)
 exact(Lib.idxOfS_nonneg_iff _ _).1 this.1
structure FrR {n:Nat} (q:Qy n) (vars:List ByteArray) (rows:List (List Tm)) (A B:Option Addr) (c d:Nat) (a1 a2 a3 a4:Option Addr) (c1 c2 c3 c4:Nat) (bt bq:Nat) (V:World):Prop where
 ht:V.heap[bt]?=some (Obj.cells #[.slice A vars.length c,.slice B rows.length d] 25 (0,0))
 hq:V.heap[bq]?=some (Obj.cells #[.bool q.ask,.bool q.dist,.slice a1 q.vars.length c1,.slice a2 q.pats.length c2,.slice a3 q.fils.length c3,.slice a4 q.ord.length c4,.int .i64 q.lim,.int .i64 q.off] 30 (0,0))
 rv:Rd V A (vars.map Value.string)
 rr:RdRs V B rows
 rq:RdQ n V [.bool q.ask,.bool q.dist,.slice a1 q.vars.length c1,.slice a2 q.pats.length c2,.slice a3 q.fils.length c3,.slice a4 q.ord.length c4,.int .i64 q.lim,.int .i64 q.off] q
section
variable {n:Nat} {q:Qy n} {vars:List ByteArray} {rows:List (List Tm)} {A B:Option Addr} {c d:Nat} {a1 a2 a3 a4:Option Addr} {c1 c2 c3 c4 bt bq:Nat} {V V':World}
theorem FrR.later (H:FrR q vars rows A B c d a1 a2 a3 a4 c1 c2 c3 c4 bt bq V) (hb:Below V.heap.size V V'):FrR q vars rows A B c d a1 a2 a3 a4 c1 c2 c3 c4 bt bq V':=⟨KeepT.below hb _ _ _ H.ht,KeepT.below hb _ _ _ H.hq,H.rv.later hb,H.rr.later hb,H.rq.later hb⟩
theorem FrR.cells (H:FrR q vars rows A B c d a1 a2 a3 a4 c1 c2 c3 c4 bt bq V):(V.cell? ⟨bt,0,none⟩=some (.slice A vars.length c)/\V.cell? ⟨bt,1,none⟩=some (.slice B rows.length d))/\V.cell? ⟨bq,0,none⟩=some (.bool q.ask)/\V.cell? ⟨bq,1,none⟩=some (.bool q.dist)/\V.cell? ⟨bq,2,none⟩=some (.slice a1 q.vars.length c1)/\V.cell? ⟨bq,3,none⟩=some (.slice a2 q.pats.length c2)/\V.cell? ⟨bq,4,none⟩=some (.slice a3 q.fils.length c3)/\V.cell? ⟨bq,5,none⟩=some (.slice a4 q.ord.length c4)/\V.cell? ⟨bq,6,none⟩=some (.int .i64 q.lim)/\V.cell? ⟨bq,7,none⟩=some (.int .i64 q.off):=
 ⟨⟨by rw[World.cell?,H.ht];rfl,by rw[World.cell?,H.ht];rfl⟩,by rw[World.cell?,H.hq];rfl,by rw[World.cell?,H.hq];rfl,by rw[World.cell?,H.hq];rfl,by rw[World.cell?,H.hq];rfl,by rw[World.cell?,H.hq];rfl,by rw[World.cell?,H.hq];rfl,by rw[World.cell?,H.hq];rfl,by rw[World.cell?,H.hq];rfl⟩
theorem FrR.tab (H:FrR q vars rows A B c d a1 a2 a3 a4 c1 c2 c3 c4 bt bq V) (hg:GoodT vars rows) (hc:vars.length<=c) (hd:rows.length<=d):TabW V A B c d vars rows:=⟨⟨rfl,rfl,by have:=hg.1;omega,by have:=hg.2.1;omega,hc,H.rv,H.rr,λr hr=>by have:=(hg.2.2 r hr).1;omega⟩,hd⟩
end
def TbAt (V:World) (b:Nat) (A:Option Addr) (c:Nat) (B:Option Addr) (d:Nat) (vs:List ByteArray) (rs:List (List Tm)):Prop:=V.heap[b]?=some (Obj.cells #[.slice A vs.length c,.slice B rs.length d] 25 (0,0))/\TabW V A B c d vs rs
section
variable {V V':World} {b:Nat} {A B:Option Addr} {c d:Nat} {vs:List ByteArray} {rs:List (List Tm)}
theorem TbAt.later (h:TbAt V b A c B d vs rs) (hb:Below V.heap.size V V'):TbAt V' b A c B d vs rs:=⟨KeepT.below hb _ _ _ h.1,h.2.1.later hb,h.2.2⟩
theorem TbAt.cells (h:TbAt V b A c B d vs rs):V.cell? ⟨b,0,none⟩=some (.slice A vs.length c)/\V.cell? ⟨b,1,none⟩=some (.slice B rs.length d):=⟨by rw[World.cell?,h.1];rfl,by rw[World.cell?,h.1];rfl⟩
end
theorem OutR.box {N:Int} {vs:List ByteArray} {rs:List (List Tm)} {w w':World} {e:Ending} (h:OutR N vs rs w e w') (hs:SmallTb vs rs):∃A c B d,e=.returned (.tuple #[.agg #[.slice A vs.length c,.slice B rs.length d],.int .i64 N])/\Below w.heap.size w w'/\TbAt (w'.alloc (.cells #[.slice A vs.length c,.slice B rs.length d] 25)) w'.heap.size A c B d vs rs:=by
 obtain⟨v0,v1,rfl,hb,hT⟩:=h
 obtain⟨A,c,B,d,rfl,rfl,hT,hd⟩:=hT.tab (by have:=hs.1;omega) (by have:=hs.2.1;omega) (λr hr=>by have:=hs.2.2 r hr;omega)
 exact⟨A,c,B,d,rfl,hb,heap_alloc_new _ _,hT.later blw,hd⟩
set_option maxRecDepth 100000 in
set_option maxHeartbeats 16000000 in
theorem lawOrderRows (n:Nat) (q:Qy n) (a1 a2 a3 a4:Option Addr) (c1 c2 c3 c4:Nat) (vars:List ByteArray) (rows:List (List Tm)) (A B:Option Addr) (c d:Nat) (pk:Int) (w:World) (hC:CtxT w) (hP:PowV w) (hz:szQu q) (hq:RdQ n w [.bool q.ask,.bool q.dist,.slice a1 q.vars.length c1,.slice a2 q.pats.length c2,.slice a3 q.fils.length c3,.slice a4 q.ord.length c4,.int .i64 q.lim,.int .i64 q.off] q) (hlv:vars.length<=1048576) (hlr:rows.length<=1048576) (hzr:∀r∈rows,r.length<=1048576/\∀t∈r,keyTm t) (hnc:vars.length<=c) (hmd:rows.length<=d) (hrv:Rd w A (vars.map Value.string)) (hrr:RdRs w B rows) (_:inI pk) :
  Calls Tryz.prog 4 #[.agg #[.slice A vars.length c,.slice B rows.length d],.agg #[.bool q.ask,.bool q.dist,.slice a1 q.vars.length c1,.slice a2 q.pats.length c2,.slice a3 q.fils.length c3,.slice a4 q.ord.length c4,.int .i64 q.lim,.int .i64 q.off],.int .i64 pk] w λe w'=>e=.returned (.bool true)/\Below w.heap.size w w':=by
 obtain⟨W,hW⟩:∃W:World,(w.alloc (.cells #[.slice A vars.length c,.slice B rows.length d] 25)).alloc (.cells #[.bool q.ask,.bool q.dist,.slice a1 q.vars.length c1,.slice a2 q.pats.length c2,.slice a3 q.fils.length c3,.slice a4 q.ord.length c4,.int .i64 q.lim,.int .i64 q.off] 30)=W:=⟨_,rfl⟩
 have hB0:Below w.heap.size w W:=by rw[←hW];exact blw
 have hF:FrR q vars rows A B c d a1 a2 a3 a4 c1 c2 c3 c4 w.heap.size (w.heap.size+1) W:=⟨by rw[←hW];exact heap_two_1 _ _ _,by rw[←hW];exact heap_two_2 _ _ _,hrv.later hB0,hrr.later hB0,hq.later hB0⟩
 have hAw:=law29Awake W (hC.step hB0) (hP.step hB0)
 have H:=Lib.hid (And.intro hC (And.intro hP (And.intro hz (And.intro hzr (And.intro hnc (And.intro hmd hF))))))
 have HW:=Lib.hid hW
 have HB0:=Lib.hid hB0
 clear hC hP hq hrv hrr hzr hnc hmd hz hB0 hF hW
 go_enter Tryz.func4,Tryz.ntmps4
 go_wp2_with fail
 simp only[HW.out]
 refine hAw.mono ?_
 rintro e w1 ⟨rfl,hb1⟩
 have HF1:=Lib.hid (H.out.2.2.2.2.2.2.later hb1)
 have HB1:=Lib.hid (below_tr HB0.out hb1)
 have hG:=law29Great n q vars rows A B vars.length c rows.length d a1 a2 a3 a4 c1 c2 c3 c4 w1 rfl rfl hlv hlr (λr hr=>(H.out.2.2.2.1 r hr).1) HF1.out.rr (rdq_spell9 HF1.out.rq).2.2.2.1 H.out.2.2.1.1 H.out.2.2.1.2.2.1 H.out.2.2.1.2.2.2.1 (λx hx=>(H.out.2.2.1.2.2.2.2.2.2.1 x hx).e)
 clear hAw hb1
 obtain⟨⟨z0,z1⟩,d0,d1,d2,d3,d4,d5,d6,d7⟩:=HF1.out.cells
 go_wp2_with fail
 refine hG.mono ?_
 rintro e w2 ⟨gb,rfl,hgb,hb2⟩
 have HF2:=Lib.hid (HF1.out.later hb2)
 have HB2:=Lib.hid (below_tr HB1.out hb2)
 clear hG hb2 z0 z1 d0 d1 d2 d3 d4 d5 d6 d7
 cases gb
 case true =>
  clear hgb
  go_wp2
  go_ret
  exact⟨rfl,HB2.out⟩
 obtain⟨f1,f2,f3,f4,f5,f6⟩:=hgb rfl
 have hgood:GoodT vars rows:=⟨f1,f2,λr hr=>⟨f6 r hr,(H.out.2.2.2.1 r hr).2⟩⟩
 have HG:=Lib.hid (And.intro hgood (And.intro f3 (And.intro f4 f5)))
 clear hgb f1 f2 f3 f4 f5 f6 hgood
 have hRi:=ordRight vars rows A B vars.length c rows.length d w2 rfl rfl (by omega) (by omega) H.out.2.2.2.2.1 HF2.out.rv HF2.out.rr
 obtain⟨⟨z0,z1⟩,d0,d1,d2,d3,d4,d5,d6,d7⟩:=HF2.out.cells
 cases hRt:rightT vars rows
 case false =>
  rw[hRt]at hRi
  go_wp2_with (go_at_call 16;refine hRi.mono ?_;rintro e w3 ⟨rfl,hb3⟩)
  go_ret
  exact⟨rfl,below_tr HB2.out hb3⟩
 rw[hRt]at hRi
 have HR:=Lib.hid hRt
 clear hRt
 go_upto_region 5 with (go_at_call 16;refine hRi.mono ?_;rintro e w3 ⟨rfl,hb3⟩;have HF3:=Lib.hid (HF2.out.later hb3);have HB3:=Lib.hid (below_tr HB2.out hb3);clear hRi hb3 z0 z1 d0 d1 d2 d3 d4 d5 d6 d7;obtain⟨⟨z0,z1⟩,d0,d1,d2,d3,d4,d5,d6,d7⟩:=HF3.out.cells)
 obtain⟨N,hN⟩:∃N,sortN vars q.ord=N:=⟨_,rfl⟩
 go_cut [7,8] from 36 to 42 (λs7 s8 wx=>∃(b:Nat) (A5:Option Addr) (k6:Nat) (B5:Option Addr) (m6:Nat) (vs:List ByteArray) (rs:List (List Tm)),s7=.pointer (some ⟨b,0,none⟩)/\s8=.int .i64 N/\TbAt wx b A5 k6 B5 m6 vs rs/\(N=0->vs=vars/\rs=sortL vars q.ord rows)/\Below w3.heap.size w3 wx)
 case first =>
  rename_i hJ hM
  have T3:=HF3.out.tab HG.out.1 H.out.2.2.2.2.1 H.out.2.2.2.2.2.1
  have hS:=topSort T3.1 HR.out (H.out.1.step HB3.out) HG.out.1.small q.ord a4 q.ord.length c4 rfl (by have:=HG.out.2.2.1;omega) (rdq_spell9 HF3.out.rq).2.2.2.2
  rw[hN]at hS
  clear T3
  go_wp2_with fail
  refine hS.mono ?_
  rintro e Y1 hO
  obtain⟨vs,rs,hOut,hsm,hcs⟩:∃vs rs,OutR N vs rs w3 e Y1/\SmallTb vs rs/\(N=0->vs=vars/\rs=sortL vars q.ord rows):=by
   by_cases h0:N=0
   ·subst h0
    exact⟨_,_,out0 hO,⟨by have:=HG.out.1.1;omega,by rw[(sortL_perm vars q.ord rows).length_eq];have:=HG.out.1.2.1;omega,λr hr=>by have:=(HG.out.1.2.2 r ((sortL_perm vars q.ord rows).mem_iff.1 hr)).1;omega⟩,λ_=>⟨rfl,rfl⟩⟩
   ·exact⟨[],[],outN h0 hO,SmallTb.nil,λh=>absurd h h0⟩
  obtain⟨A5,k6,B5,m6,rfl,hbY,hT1⟩:=hOut.box hsm
  have hbZ:Below w3.heap.size w3 (Y1.alloc (.cells #[.slice A5 vs.length k6,.slice B5 rs.length m6] 25)):=below_tr hbY blw
  have HT:=Lib.hid (And.intro hT1 (And.intro hcs hbZ))
  clear hS hO hOut hsm hcs hT1 hbY hbZ z0 z1 d0 d1 d2 d3 d4 d5 d6 d7 hN
  go_wp2
  refine Met.intro (hJ _ _ ?_)
  (repeat apply Exists.intro)
  exact⟨⟨_,_,_,_,_,_,_,rfl,rfl,HT.out.1,HT.out.2.1,HT.out.2.2⟩,rfl⟩
 case rest =>
 obtain⟨bs,A5,k6,B5,m6,vs,rs,rfl,rfl,hT1,hcs,hbZ⟩:=hcut
 obtain⟨Z1,hZ⟩:∃V:World,V=wc:=⟨_,rfl⟩
 subst hZ
 have HT1:=Lib.hid (And.intro hT1 (And.intro hcs hN))
 have HFZ:=Lib.hid (HF3.out.later hbZ)
 have HBZ:=Lib.hid (below_tr HB3.out hbZ)
 clear hT1 hcs hbZ hN z0 z1 d0 d1 d2 d3 d4 d5 d6 d7
 apply_assumption
 refine wp_seq_k ?_
 intro K6 hK6
 go_cut [9,10,11] from 43 to 117 (λ_ _ _ wx=>Below Z1.heap.size Z1 wx)
 case first =>
  rename_i hJ hM
  by_cases h0:N=0
  case neg =>
   have hq:(N == 0)=false:=by rw[beq_eq_false_iff_ne];exact h0
   clear h0
   go_wp2
   refine Met.intro (hJ _ _ ?_)
   (repeat apply Exists.intro)
   exact⟨Below.refl _ _,rfl⟩
  subst h0
  obtain⟨e1,e2⟩:=HT1.out.2.1 rfl
  subst e1
  obtain⟨S,hS⟩:∃S,sortL vs q.ord rows=S:=⟨_,rfl⟩
  rw[hS]at e2
  subst e2
  have hp:rs.Perm rows:=by rw[←hS];exact sortL_perm _ _ _
  have hSm:∀r∈rs,r∈rows:=λr hr=>hp.mem_iff.1 hr
  have hSl:=hp.length_eq
  have hag:sortL vs q.ord rs=rs:=by rw[←hS];exact sort_again _ _ _
  have hti:∀r,timesL rs r=timesL rows r:=λr=>by rw[←hS];exact times_sort _ _ _ _
  have hfi:∀(i:Nat) a b,rs[i]?=some a->rs[i+1]?=some b->fineK (keysP (placesL vs (q.ord.map (·.v))) q.ord) a b=true:=λi a b ha hb=>by rw[←hS]at ha hb;exact fine_sort HT1.out.2.2 rows ha hb
  have hRs:=right_sub HR.out hSm
  have hS2:=topSort HT1.out.1.2.1 hRs (H.out.1.step HBZ.out) (λr hr=>HG.out.1.small r (hSm r hr)) q.ord a4 q.ord.length c4 rfl (by have:=HG.out.2.2.1;omega) (rdq_spell9 HFZ.out.rq).2.2.2.2
  rw[HT1.out.2.2,hag]at hS2
  have HS:=Lib.hid (And.intro hSm (And.intro hti (And.intro hfi (And.intro hSl hRs))))
  have hsm:SmallTb vs rs:=⟨by have:=HG.out.1.1;omega,by have:=HG.out.1.2.1;omega,λr hr=>by have:=(HG.out.1.2.2 r (hSm r hr)).1;omega⟩
  have HSM:=Lib.hid hsm
  have hne:((rs.length:Int) != (rows.length:Int))=false:=by rw[hSl];simp
  clear hS hp hSm hSl hag hti hfi hRs hsm
  obtain⟨⟨z0,z1⟩,d0,d1,d2,d3,d4,d5,d6,d7⟩:=HFZ.out.cells
  obtain⟨y0,y1⟩:=HT1.out.1.cells
  go_upto_region 7 with (fail)
  go_wp2_with fail
  refine hS2.mono ?_
  rintro e Y2 hO
  obtain⟨A7,k8,B7,m8,rfl,hbY,hT2⟩:=(out0 hO).box HSM.out
  obtain⟨Z2,hZ2⟩:∃V:World,Y2.alloc (.cells #[.slice A7 vs.length k8,.slice B7 rs.length m8] 25)=V:=⟨_,rfl⟩
  rw[hZ2]at hT2
  have hbZ:Below Z1.heap.size Z1 Z2:=by rw[←hZ2];exact below_tr hbY blw
  have HZ2:=Lib.hid hZ2
  have hSR:=kitSameRows rs rs B7 B5 m8 m6 rs.length rs.length Z2 rfl rfl (by have:=HSM.out.2.1;omega) (by have:=HSM.out.2.1;omega) (λr hr=>by have:=HSM.out.2.2 r hr;omega) (λr hr=>by have:=HSM.out.2.2 r hr;omega) hT2.2.1.hr (HT1.out.1.later hbZ).2.1.hr
  rw[show decide (rs=rs)=true from decide_eq_true rfl]at hSR
  have HT2:=Lib.hid hT2
  have HB2Z:=Lib.hid hbZ
  clear hS2 hO hbY hT2 hZ2 z0 z1 d0 d1 d2 d3 d4 d5 d6 d7 y0 y1
  obtain⟨⟨z0,z1⟩,d0,d1,d2,d3,d4,d5,d6,d7⟩:=(HFZ.out.later HB2Z.out).cells
  obtain⟨y0,y1⟩:=(HT1.out.1.later HB2Z.out).cells
  obtain⟨x0,x1⟩:=HT2.out.cells
  clear hbZ
  go_upto_region 8 with (fail)
  simp only[HZ2.out]
  go_upto_region 10 with (go_at_call 31;refine hSR.mono ?_;rintro e Z3 ⟨rfl,hb3⟩;have HB3Z:=Lib.hid (below_tr HB2Z.out hb3);clear hb3 hSR z0 z1 d0 d1 d2 d3 d4 d5 d6 d7 y0 y1 x0 x1;obtain⟨⟨z0,z1⟩,d0,d1,d2,d3,d4,d5,d6,d7⟩:=(HFZ.out.later HB3Z.out).cells;obtain⟨y0,y1⟩:=(HT1.out.1.later HB3Z.out).cells)
  go_wp2_with fail
  have HL0:=HB3Z
  have hrsl:rs.length<=900000:=HSM.out.2.1
  clear z0 z1 d0 d1 d2 d3 d4 d5 d6 d7 y0 y1
  go_loopw [11] (λi wr=>∃k:Nat,k<=rs.length/\i=.int .i64 k/\Hid (Below Z1.heap.size Z1 wr)) (λi _=>rs.length-(intOf i).toNat)
  case atStart=>exact⟨0,by omega,rfl,HL0⟩
  case round =>
   clear HL0 HB3Z
   obtain⟨k,hk,rfl,HB⟩:=hrel
   obtain⟨⟨z0,z1⟩,d0,d1,d2,d3,d4,d5,d6,d7⟩:=(HFZ.out.later HB.out).cells
   obtain⟨y0,y1⟩:=(HT1.out.1.later HB.out).cells
   by_cases hlt:k<rs.length
   ·obtain⟨r,hr1⟩:∃r,rs[k]?=some r:=⟨_,List.getElem?_eq_getElem hlt⟩
    have hT:=(HT1.out.1.later HB.out).2.1
    have hFr:=HFZ.out.later HB.out
    obtain⟨g,o,Ar,cr,rfl,hcr,hler,hrr⟩:=hT.hr.at1 hr1
    have hrl:=right_rows HS.out.2.2.2.2 r (List.mem_of_getElem? hr1)
    rw[hrl]at hcr
    have hvl:=HG.out.1.1
    have hC1:∀d os,Calls Tryz.prog 32 #[.slice (some ⟨g,o,none⟩) rs.length m6,.slice Ar vs.length cr] (Sort.grow (redrawn wr d) os) λe w'=>e=.returned (.int .i64 (timesL rows r))/\Below (Sort.grow (redrawn wr d) os).heap.size (Sort.grow (redrawn wr d) os) w':=λd os=>by
     have:=law29Count rs r (some ⟨g,o,none⟩) Ar m6 cr rs.length vs.length (Sort.grow (redrawn wr d) os) rfl hrl (by have:=HSM.out.2.1;omega) (by omega) (λr hr=>by have:=HSM.out.2.2 r hr;omega) (hT.hr.later (below_regrown wr d os)) (RdTs.later hrr (below_regrown wr d os))
     rw[HS.out.2.1 r]at this
     exact this
    have hC2:∀d' os,Calls Tryz.prog 32 #[.slice B rows.length d,.slice Ar vs.length cr] (Sort.grow (redrawn wr d') os) λe w'=>e=.returned (.int .i64 (timesL rows r))/\Below (Sort.grow (redrawn wr d') os).heap.size (Sort.grow (redrawn wr d') os) w':=λd' os =>
     law29Count rows r B Ar d cr rows.length vs.length (Sort.grow (redrawn wr d') os) rfl hrl (by have:=HG.out.1.2.1;omega) (by omega) (λr hr=>by have:=(HG.out.1.2.2 r hr).1;omega) (hFr.rr.later (below_regrown wr d' os)) (RdTs.later hrr (below_regrown wr d' os))
    generalize timesL rows r=tc at *
    have e1:=λd os=>cell_on y1 (below_regrown wr d os)
    have f0:=λd os=>cell_on z0 (below_regrown wr d os)
    have f1:=λd os=>cell_on z1 (below_regrown wr d os)
    have f5:=λd os=>cell_on d5 (below_regrown wr d os)
    have er:=λd os=>cell_on hcr (below_regrown wr d os)
    by_cases hk0:0<k
    case neg =>
     clear hr1 hrl hler hrr hT hFr hvl z0 z1 d0 d1 d2 d3 d4 d5 d6 d7 y0
     go_wp2
     refine wrq ?_;(repeat (any_goals (go_big_quiet_step ((go_at_call 32;first|(with_reducible exact Calls.regrown_of (hC1 _ _))|(with_reducible exact Calls.regrown_of (hC2 _ _)))))));all_goals (refine wqn ?_;intro d9 os9)
     have kq:=below_regrown wr d9 os9
     have HB4:=Lib.hid (below_tr HB.out kq)
     clear kq e1 f0 f1 f5 er hC1 hC2 y1 hcr
     generalize Sort.grow (redrawn wr d9) os9=w4 at *
     go_wp2
     go_roundw
     case rel=>exact⟨k+1,by omega,by go_num,HB4⟩
     case measure=>simp[intOf];omega
    case pos =>
     obtain⟨j,hkj⟩:∃j,k=j+1:=⟨k-1,by omega⟩
     have hw:IntKind.i64.wrap ((k:Int)-1)=(j:Int):=by rw[IntKind.wrap_i64];have:=HSM.out.2.1;omega
     obtain⟨r',hr0⟩:∃r,rs[j]?=some r:=⟨_,List.getElem?_eq_getElem (by omega)⟩
     obtain⟨g2,o2,Ar',cr',eB,hcr',_,hrr'⟩:=hT.hr.at1 hr0
     injection eB with eB
     injection eB with eg eo
     subst eg;subst eo
     have hrl':=right_rows HS.out.2.2.2.2 r' (List.mem_of_getElem? hr0)
     rw[hrl']at hcr'
     have hF:∀d' os,Calls Tryz.prog 33 #[.slice A vs.length c,.slice Ar' vs.length cr',.slice Ar vs.length cr,.slice a4 q.ord.length c4] (Sort.grow (redrawn wr d') os) λe w'=>e=.returned (.bool true)/\Below (Sort.grow (redrawn wr d') os).heap.size (Sort.grow (redrawn wr d') os) w':=λd' os=>by
      have hb:=below_regrown wr d' os
      have:=law29Fine vs q.ord r' r A Ar' Ar a4 c cr' cr c4 vs.length q.ord.length (Sort.grow (redrawn wr d') os) rfl hrl' hrl rfl (by omega) (by have:=HG.out.2.2.1;omega) (rightT_nodup HR.out) (sortN_in HT1.out.2.2) (H.out.1.step (below_tr HBZ.out (below_tr HB.out hb))) (HG.out.1.small r' (HS.out.1 r' (List.mem_of_getElem? hr0))) (HG.out.1.small r (HS.out.1 r (List.mem_of_getElem? hr1))) (hFr.rv.later hb) (RdTs.later hrr' hb) (RdTs.later hrr hb) ((rdq_spell9 (hFr.rq.later hb)).2.2.2.2)
      rw[HS.out.2.2.1 j r' r hr0 (by rw[←hkj];exact hr1)]at this
      exact this
     have er':=λd os=>cell_on hcr' (below_regrown wr d os)
     have hjl:j<rs.length:=by omega
     clear hr1 hr0 hrl hrl' hler hrr hrr' hT hFr hvl hkj z0 z1 d0 d1 d2 d3 d4 d5 d6 d7 y0
     go_wp2
     refine wrq ?_;(repeat (any_goals (go_big_quiet_step ((first|(go_at_call 32;first|(with_reducible exact Calls.regrown_of (hC1 _ _))|(with_reducible exact Calls.regrown_of (hC2 _ _)))|(go_at_call 33;with_reducible exact Calls.regrown_of (hF _ _)))))));all_goals (refine wqn ?_;intro d9 os9)
     have kq:=below_regrown wr d9 os9
     have HB4:=Lib.hid (below_tr HB.out kq)
     clear kq e1 f0 f1 f5 er er' hC1 hC2 hF y1 hcr hcr'
     generalize Sort.grow (redrawn wr d9) os9=w4 at *
     go_wp2
     go_roundw
     case rel=>exact⟨k+1,by omega,by go_num,HB4⟩
     case measure=>simp[intOf];omega
   ·have hke:k=rs.length:=by omega
    clear hlt
    subst hke
    go_wp2
    refine Met.intro (hJ _ _ ?_)
    (repeat apply Exists.intro)
    exact⟨HB.out,rfl⟩
 case rest =>
 obtain⟨Z2,hZ⟩:∃V:World,V=wc:=⟨_,rfl⟩
 subst hZ
 have HF2Z:=Lib.hid (HFZ.out.later hcut)
 have HB2Z:=Lib.hid (below_tr HBZ.out hcut)
 clear hcut HT1
 apply_assumption
 obtain⟨O,hO⟩:∃O,onceL rows=O:=⟨_,rfl⟩
 have hOm:∀r∈O,r∈rows:=λr hr=>by rw[←hO]at hr;exact(once_mem _ _).1 hr
 have hOl:O.length<=rows.length:=by rw[←hO];exact once_len rows
 have hOO:onceL O=O:=by rw[←hO];exact once_once rows
 have hO1:∀r∈rows,timesL O r=1:=λr hr=>by rw[←hO];exact times_once hr
 have hsm:SmallTb vars O:=⟨by have:=HG.out.1.1;omega,by have:=HG.out.1.2.1;omega,λr hr=>by have:=(HG.out.1.2.2 r (hOm r hr)).1;omega⟩
 have HO:=Lib.hid (And.intro hOm (And.intro hOl (And.intro hO1 (And.intro hsm (right_sub HR.out hOm)))))
 have hS3:=topOnce (HF2Z.out.tab HG.out.1 H.out.2.2.2.2.1 H.out.2.2.2.2.2.1).1 HR.out (H.out.2.1.step HB2Z.out) HG.out.1.key
 rw[hO]at hS3
 have HOO:=Lib.hid hOO
 clear hO hOm hOl hOO hO1 hsm
 obtain⟨⟨z0,z1⟩,d0,d1,d2,d3,d4,d5,d6,d7⟩:=HF2Z.out.cells
 go_wp2_with fail
 refine hS3.mono ?_
 rintro e Y3 hO
 obtain⟨A3,k3,B3,m3,rfl,hbY,hT⟩:=(out0 hO).box HO.out.2.2.2.1
 obtain⟨Z3,hZ⟩:∃V:World,Y3.alloc (.cells #[.slice A3 vars.length k3,.slice B3 O.length m3] 25)=V:=⟨_,rfl⟩
 rw[hZ]at hT
 have hbZ:Below Z2.heap.size Z2 Z3:=by rw[←hZ];exact below_tr hbY blw
 have HZ3:=Lib.hid hZ
 have HT3:=Lib.hid hT
 have HF3Z:=Lib.hid (HF2Z.out.later hbZ)
 have HB3Z:=Lib.hid (below_tr HB2Z.out hbZ)
 clear hS3 hO hbY hT hbZ hZ z0 z1 d0 d1 d2 d3 d4 d5 d6 d7
 obtain⟨⟨z0,z1⟩,d0,d1,d2,d3,d4,d5,d6,d7⟩:=HF3Z.out.cells
 obtain⟨y0,y1⟩:=HT3.out.cells
 have hS4:=topOnce HT3.out.2.1 HO.out.2.2.2.2 (H.out.2.1.step HB3Z.out) (λr hr=>HG.out.1.key r (HO.out.1 r hr))
 rw[HOO.out]at hS4
 go_upto_region 16 with (fail)
 simp only[HZ3.out]
 go_wp2_with fail
 refine hS4.mono ?_
 rintro e Y4 hO
 obtain⟨A4,k4,B4,m4,rfl,hbY,hT⟩:=(out0 hO).box HO.out.2.2.2.1
 obtain⟨Z4,hZ⟩:∃V:World,Y4.alloc (.cells #[.slice A4 vars.length k4,.slice B4 O.length m4] 25)=V:=⟨_,rfl⟩
 rw[hZ]at hT
 have hbZ:Below Z3.heap.size Z3 Z4:=by rw[←hZ];exact below_tr hbY blw
 have HZ4:=Lib.hid hZ
 have HT4:=Lib.hid hT
 have HT34:=Lib.hid (HT3.out.later hbZ)
 have HF4Z:=Lib.hid (HF3Z.out.later hbZ)
 have HB4Z:=Lib.hid (below_tr HB3Z.out hbZ)
 have hSR:=kitSameRows O O B3 B4 m3 m4 O.length O.length Z4 rfl rfl (by have:=HO.out.2.2.2.1.2.1;omega) (by have:=HO.out.2.2.2.1.2.1;omega) (λr hr=>by have:=HO.out.2.2.2.1.2.2 r hr;omega) (λr hr=>by have:=HO.out.2.2.2.1.2.2 r hr;omega) HT34.out.2.1.hr hT.2.1.hr
 rw[show decide (O=O)=true from decide_eq_true rfl]at hSR
 clear hS4 hO hbY hT hbZ hZ z0 z1 d0 d1 d2 d3 d4 d5 d6 d7 y0 y1
 obtain⟨⟨z0,z1⟩,d0,d1,d2,d3,d4,d5,d6,d7⟩:=HF4Z.out.cells
 obtain⟨y0,y1⟩:=HT34.out.cells
 obtain⟨x0,x1⟩:=HT4.out.cells
 go_upto_region 17 with (fail)
 simp only[HZ4.out]
 go_wp2_with (go_at_call 31;refine hSR.mono ?_;rintro e Z5 ⟨rfl,hb5⟩;have HF5:=Lib.hid (HF4Z.out.later hb5);have HB5:=Lib.hid (below_tr HB4Z.out hb5);have HT5:=Lib.hid (HT34.out.later hb5);clear hb5 hSR z0 z1 d0 d1 d2 d3 d4 d5 d6 d7 y0 y1 x0 x1)
 have HL0:=Lib.hid (Below.refl Z5.heap.size Z5)
 have hrl0:rows.length<=200:=HG.out.1.2.1
 have hvl:vars.length<=200:=HG.out.1.1
 go_loopw [16] (λi wr=>∃k:Nat,k<=rows.length/\i=.int .i64 k/\Hid (Below Z5.heap.size Z5 wr)) (λi _=>rows.length-(intOf i).toNat)
 case atStart=>exact⟨0,by omega,rfl,HL0⟩
 case round =>
  clear HL0
  obtain⟨k,hk,rfl,HB⟩:=hrel
  by_cases hlt:k<rows.length
  ·obtain⟨⟨z0,z1⟩,d0,d1,d2,d3,d4,d5,d6,d7⟩:=(HF5.out.later HB.out).cells
   obtain⟨y0,y1⟩:=(HT5.out.later HB.out).cells
   obtain⟨r,hr1⟩:∃r,rows[k]?=some r:=⟨_,List.getElem?_eq_getElem hlt⟩
   have hmr:=List.mem_of_getElem? hr1
   have hFr:=HF5.out.later HB.out
   have hT:=(HT5.out.later HB.out).2.1
   obtain⟨g,o,Ar,cr,rfl,hcr,hler,hrr⟩:=hFr.rr.at1 hr1
   have hrl:=right_rows HR.out r hmr
   rw[hrl]at hcr
   have hC1:∀d' os,Calls Tryz.prog 32 #[.slice B3 O.length m3,.slice Ar vars.length cr] (Sort.grow (redrawn wr d') os) λe w'=>e=.returned (.int .i64 1)/\Below (Sort.grow (redrawn wr d') os).heap.size (Sort.grow (redrawn wr d') os) w':=λd' os=>by
    have:=law29Count O r B3 Ar m3 cr O.length vars.length (Sort.grow (redrawn wr d') os) rfl hrl (by have:=HO.out.2.2.2.1.2.1;omega) (by omega) (λr hr=>by have:=HO.out.2.2.2.1.2.2 r hr;omega) (hT.hr.later (below_regrown wr d' os)) (RdTs.later hrr (below_regrown wr d' os))
    rw[HO.out.2.2.1 r hmr]at this
    exact this
   have e1:=λd os=>cell_on y1 (below_regrown wr d os)
   have f1:=λd os=>cell_on z1 (below_regrown wr d os)
   have er:=λd os=>cell_on hcr (below_regrown wr d os)
   clear hr1 hmr hrl hler hrr hT hFr z0 d0 d1 d2 d3 d4 d5 d6 d7 y0
   go_wp2
   refine wrq ?_;(repeat (any_goals (go_big_quiet_step ((go_at_call 32;with_reducible exact Calls.regrown_of (hC1 _ _))))));all_goals (refine wqn ?_;intro d9 os9)
   have kq:=below_regrown wr d9 os9
   have HB4:=Lib.hid (below_tr HB.out kq)
   clear kq e1 f1 er hC1 y1 z1 hcr
   generalize Sort.grow (redrawn wr d9) os9=w4 at *
   go_wp2
   go_roundw
   case rel=>exact⟨k+1,by omega,by go_num,HB4⟩
   case measure=>simp[intOf];omega
  obtain rfl:k=rows.length:=by omega
  clear hlt
  obtain⟨Z6,hZ⟩:∃V:World,V=wr:=⟨_,rfl⟩
  subst hZ
  have HF6:=Lib.hid (HF5.out.later HB.out)
  have HB6:=Lib.hid (below_tr HB5.out HB.out)
  clear HB HT5 HB5 HF5
  obtain⟨L,hL⟩:∃L,keepL vars n q.fils rows=L:=⟨_,rfl⟩
  have hLm:∀r∈L,r∈rows:=λr hr=>by rw[←hL]at hr;exact keep_mem hr
  have hLl:L.length<=rows.length:=by rw[←hL];exact keep_len _ _ _ _
  have hsm:SmallTb vars L:=⟨by omega,by omega,λr hr=>by have:=(HG.out.1.2.2 r (hLm r hr)).1;omega⟩
  have hS6:=topKeep (HF6.out.tab HG.out.1 H.out.2.2.2.2.1 H.out.2.2.2.2.2.1).1 HR.out HG.out.1.key n q.fils a3 c3 q.fils.length rfl (by have:=HG.out.2.2.2;omega) (λx hx=>(H.out.2.2.1.2.2.2.2.2.2.1 x hx).e) (rdq_spell9 HF6.out.rq).2.2.2.1
  rw[hL]at hS6
  have HL:=Lib.hid (And.intro hL (And.intro hLm (And.intro hLl hsm)))
  clear hL hLm hsm
  obtain⟨⟨z0,z1⟩,d0,d1,d2,d3,d4,d5,d6,d7⟩:=HF6.out.cells
  go_wp2_with fail
  refine hS6.mono ?_
  rintro e Y7 hO
  obtain⟨A7,k7,B7,m7,rfl,hbY,hT⟩:=(out0 hO).box HL.out.2.2.2
  obtain⟨Z7,hZ⟩:∃V:World,Y7.alloc (.cells #[.slice A7 vars.length k7,.slice B7 L.length m7] 25)=V:=⟨_,rfl⟩
  rw[hZ]at hT
  have hbZ:Below Z6.heap.size Z6 Z7:=by rw[←hZ];exact below_tr hbY blw
  have HZ7:=Lib.hid hZ
  have HT7:=Lib.hid hT
  have HF7:=Lib.hid (HF6.out.later hbZ)
  have HB7:=Lib.hid (below_tr HB6.out hbZ)
  clear hS6 hO hbY hT hbZ hZ z0 z1 d0 d1 d2 d3 d4 d5 d6 d7
  go_upto_region 25 with (fail)
  simp only[HZ7.out]
  go_wp2_with fail
  have HL0:=Lib.hid (Below.refl Z7.heap.size Z7)
  go_loopw [19,20] (λs i wr=>∃k:Nat,k<=rows.length/\i=.int .i64 k/\s=.int .i64 (keepL vars n q.fils (rows.take k)).length/\Hid (Below Z7.heap.size Z7 wr)) (λ_ i _=>rows.length-(intOf i).toNat)
  case atStart=>exact⟨0,by omega,rfl,rfl,HL0⟩
  case round =>
   clear HL0
   obtain⟨k,hk,rfl,rfl,HB⟩:=hrel
   have hjl0:=keep_len vars n q.fils (rows.take k)
   rw[List.length_take]at hjl0
   have hjl:(keepL vars n q.fils (rows.take k)).length<=200:=by omega
   clear hjl0
   by_cases hlt:k<rows.length
   ·obtain⟨⟨z0,z1⟩,d0,d1,d2,d3,d4,d5,d6,d7⟩:=(HF7.out.later HB.out).cells
    obtain⟨r,hr1⟩:∃r,rows[k]?=some r:=⟨_,List.getElem?_eq_getElem hlt⟩
    have hmr:=List.mem_of_getElem? hr1
    have hFr:=HF7.out.later HB.out
    obtain⟨g,o,Ar,cr,rfl,hcr,hler,hrr⟩:=hFr.rr.at1 hr1
    have hrl:=right_rows HR.out r hmr
    rw[hrl]at hcr
    have hK:∀d' os,Calls Tryz.prog 34 #[.slice a3 q.fils.length c3,.slice A vars.length c,.slice Ar vars.length cr] (Sort.grow (redrawn wr d') os) λe w'=>e=.returned (.bool (!failsI vars r n q.fils))/\Below (Sort.grow (redrawn wr d') os).heap.size (Sort.grow (redrawn wr d') os) w':=λd' os=>by
     have hb:=below_regrown wr d' os
     have:=filKeeps vars r (by omega) (by omega) (λu hu=>Nat.le_trans ((HG.out.1.2.2 r hmr).2 u hu).2.1 (by decide)) n q.fils a3 A Ar c3 c cr (Sort.grow (redrawn wr d') os) (hFr.rv.later hb) (RdTs.later hrr hb) (rdq_spell9 (hFr.rq.later hb)).2.2.2.1 (by have:=HG.out.2.2.2;omega) (λx hx=>(H.out.2.2.1.2.2.2.2.2.2.1 x hx).e)
     rw[hrl]at this
     exact this
    have hst:=keep_step (vars:=vars) (nf:=n) (fils:=q.fils) hr1
    have hat:=keep_at (vars:=vars) (nf:=n) (fils:=q.fils) hr1
    have f0:=λd os=>cell_on z0 (below_regrown wr d os)
    have f1:=λd os=>cell_on z1 (below_regrown wr d os)
    have f4:=λd os=>cell_on d4 (below_regrown wr d os)
    have er:=λd os=>cell_on hcr (below_regrown wr d os)
    have HX:=Lib.hid (And.intro hrr (And.intro hcr (And.intro hrl hmr)))
    clear hr1 hmr hrl hler hrr hFr z0 d0 d1 d2 d3 d4 d5 d6 d7
    go_wp2
    refine wrq ?_;(repeat (any_goals (go_big_quiet_step ((go_at_call 34;with_reducible exact Calls.regrown_of (hK _ _))))));all_goals (refine wqn ?_;intro d9 os9)
    have kq:=below_regrown wr d9 os9
    have HB4:=Lib.hid (below_tr HB.out kq)
    have HKQ:=Lib.hid kq
    clear kq f0 f1 f4 er hK hcr z1
    generalize Sort.grow (redrawn wr d9) os9=w4 at *
    cases hfl:failsI vars r n q.fils
    case true =>
     rw[hfl,if_pos rfl,List.append_nil]at hst
     have HS:=Lib.hid hst
     clear hst hat hfl
     go_wp2
     go_roundw
     case rel=>exact⟨k+1,by omega,by go_num,by rw[HS.out],HB4⟩
     case measure=>simp[intOf];omega
    case false =>
     rw[hfl,if_neg (by decide)]at hst
     have hL2:=hat hfl
     rw[HL.out.1]at hL2
     have hS2:(keepL vars n q.fils (rows.take (k+1))).length=(keepL vars n q.fils (rows.take k)).length+1:=by rw[hst,List.length_append];rfl
     have HS:=Lib.hid hS2
     generalize (keepL vars n q.fils (rows.take k)).length=j at *
     have hjL:=(List.getElem?_eq_some_iff.1 hL2).1
     have hge:decide (L.length<=j)=false:=by simp;omega
     obtain⟨x0,x1⟩:=(HT7.out.later HB4.out).cells
     obtain⟨⟨z0,z1⟩,d0,d1,d2,d3,d4,d5,d6,d7⟩:=(HF7.out.later HB4.out).cells
     obtain⟨gx,ox,Ax,cx,rfl,hcx,_,hrx⟩:=(HT7.out.later HB4.out).2.1.hr.at1 hL2
     rw[HX.out.2.2.1]at hcx
     have hct:=cell_on HX.out.2.1 HKQ.out
     have hST:∀d' os,Calls Tryz.prog 35 #[.slice Ax vars.length cx,.slice Ar vars.length cr] (Sort.grow (redrawn w4 d') os) λe w'=>e=.returned (.bool true)/\Below (Sort.grow (redrawn w4 d') os).heap.size (Sort.grow (redrawn w4 d') os) w':=λd' os=>by
      have hb:=below_regrown w4 d' os
      have:=kitSameTerms r r Ax Ar cx cr vars.length vars.length (Sort.grow (redrawn w4 d') os) HX.out.2.2.1 HX.out.2.2.1 (by omega) (by omega) (RdTs.later hrx hb) (RdTs.later (RdTs.later HX.out.1 HKQ.out) hb)
      rw[show decide (r=r)=true from decide_eq_true rfl]at this
      exact this
     have e1:=λd os=>cell_on x1 (below_regrown w4 d os)
     have f1:=λd os=>cell_on z1 (below_regrown w4 d os)
     have ex:=λd os=>cell_on hcx (below_regrown w4 d os)
     have er:=λd os=>cell_on hct (below_regrown w4 d os)
     clear hst hat hfl hL2 hS2 x0 z0 z1 d0 d1 d2 d3 d4 d5 d6 d7 hrx
     go_wp2
     refine wrq ?_;(repeat (any_goals (go_big_quiet_step ((go_at_call 35;with_reducible exact Calls.regrown_of (hST _ _))))));all_goals (refine wqn ?_;intro d9 os9)
     have kq:=below_regrown w4 d9 os9
     have HB5:=Lib.hid (below_tr HB4.out kq)
     clear kq e1 f1 ex er hST x1 hcx hct HKQ
     generalize Sort.grow (redrawn w4 d9) os9=w5 at *
     go_wp2
     go_roundw
     case rel=>exact⟨k+1,by omega,by go_num,by rw[HS.out];go_num,HB5⟩
     case measure=>simp[intOf];omega
   obtain rfl:k=rows.length:=by omega
   clear hlt hjl
   have hLL:(keepL vars n q.fils (rows.take rows.length)).length=L.length:=by rw[List.take_of_length_le (Nat.le_refl _),HL.out.1]
   rw[hLL]
   clear hLL
   obtain⟨Z8,hZ⟩:∃V:World,V=wr:=⟨_,rfl⟩
   subst hZ
   have HF8:=Lib.hid (HF7.out.later HB.out)
   have HT8:=Lib.hid (HT7.out.later HB.out)
   have HB8:=Lib.hid (below_tr HB7.out HB.out)
   clear HB HT7 HB7 HF7
   obtain⟨⟨z0,z1⟩,d0,d1,d2,d3,d4,d5,d6,d7⟩:=HF8.out.cells
   have hPk:=kitPick29 pk ((rows.length:Int)+2) Z8 (by omega) (by omega)
   go_wp2_with (go_at_call 36;refine hPk.mono ?_;rintro e w9 ⟨kk,rfl,hkk,rfl⟩;have HKK:=Lib.hid hkk;clear hPk hkk)
   obtain⟨L1,hL1⟩:∃L,cutL 0 (kk:Int) rows=L:=⟨_,rfl⟩
   obtain⟨L2,hL2⟩:∃L,cutL (kk:Int) (-1) rows=L:=⟨_,rfl⟩
   have hj12:L1++L2=rows:=by rw[←hL1,←hL2];exact cut_join kk rows
   have hn12:L1.length+L2.length=rows.length:=by rw[←hj12,List.length_append]
   have hs1:SmallTb vars L1:=⟨by omega,by omega,λr hr=>by rw[←hL1]at hr;have:=(HG.out.1.2.2 r (cut_mem hr)).1;omega⟩
   have hs2:SmallTb vars L2:=⟨by omega,by omega,λr hr=>by rw[←hL2]at hr;have:=(HG.out.1.2.2 r (cut_mem hr)).1;omega⟩
   have hS9:=topSlice (HF8.out.tab HG.out.1 H.out.2.2.2.2.1 H.out.2.2.2.2.2.1).1 HR.out 0 (kk:Int)
   rw[if_neg (by omega),if_neg (by omega),hL1]at hS9
   refine hS9.mono ?_
   rintro e Y9 hO
   obtain⟨A9,k9,B9,m9,rfl,hbY,hT⟩:=(out0 hO).box hs1
   obtain⟨Z9,hZ⟩:∃V:World,Y9.alloc (.cells #[.slice A9 vars.length k9,.slice B9 L1.length m9] 25)=V:=⟨_,rfl⟩
   rw[hZ]at hT
   have hbZ:Below Z8.heap.size Z8 Z9:=by rw[←hZ];exact below_tr hbY blw
   have HZ9:=Lib.hid hZ
   have HT9:=Lib.hid hT
   have HX9:=Lib.hid (HT8.out.later hbZ)
   have HF9:=Lib.hid (HF8.out.later hbZ)
   have HB9:=Lib.hid (below_tr HB8.out hbZ)
   clear hS9 hO hbY hT hbZ hZ z0 z1 d0 d1 d2 d3 d4 d5 d6 d7
   obtain⟨⟨z0,z1⟩,d0,d1,d2,d3,d4,d5,d6,d7⟩:=HF9.out.cells
   have hS10:=topSlice (HF9.out.tab HG.out.1 H.out.2.2.2.2.1 H.out.2.2.2.2.2.1).1 HR.out (kk:Int) (-1)
   rw[if_neg (by omega),if_neg (by omega),hL2]at hS10
   clear hL1 hL2
   go_upto_region 35 with (fail)
   simp only[HZ9.out]
   go_wp2_with fail
   refine hS10.mono ?_
   rintro e Y10 hO
   obtain⟨A10,k10,B10,m10,rfl,hbY,hT⟩:=(out0 hO).box hs2
   obtain⟨Z10,hZ⟩:∃V:World,Y10.alloc (.cells #[.slice A10 vars.length k10,.slice B10 L2.length m10] 25)=V:=⟨_,rfl⟩
   rw[hZ]at hT
   have hbZ:Below Z9.heap.size Z9 Z10:=by rw[←hZ];exact below_tr hbY blw
   have HZ10:=Lib.hid hZ
   have HT10:=Lib.hid hT
   have HT910:=Lib.hid (HT9.out.later hbZ)
   have HX10:=Lib.hid (HX9.out.later hbZ)
   have HF10:=Lib.hid (HF9.out.later hbZ)
   have HB10:=Lib.hid (below_tr HB9.out hbZ)
   clear hS10 hO hbY hT hbZ hZ z0 z1 d0 d1 d2 d3 d4 d5 d6 d7
   obtain⟨⟨z0,z1⟩,d0,d1,d2,d3,d4,d5,d6,d7⟩:=HF10.out.cells
   obtain⟨y0,y1⟩:=HT910.out.cells
   obtain⟨x0,x1⟩:=HT10.out.cells
   obtain⟨v0,v1⟩:=HX10.out.cells
   have H12:=Lib.hid (And.intro hj12 (And.intro hn12 (And.intro hs1 hs2)))
   have hn1:L1.length<=200:=by omega
   have hn2:L2.length<=200:=by omega
   clear hj12 hn12 hs1 hs2 z0 d0 d1 d2 d3 d4 d5 d6 d7 y0 x0 v0
   go_upto_region 36 with (fail)
   simp only[HZ10.out]
   refine Rf.p0 Z10.heap.size _ (.quiet [0,1,2,3,4,5,6,7,8,9,10,11,12,13,14,15,16,17,19,20,22,23,25,26] (.one 18 (.one 21 (.one 24 (.one 27 (.quiet [28,29] (.done))))))) ?_ (λa w h=>h)
   intro wd hbd hwz
   have yz:=cellL z1 hbd
   have yy:=cellL y1 hbd
   have yx:=cellL x1 hbd
   have yv:=cellL v1 hbd
   have HBD:=Lib.hid hbd
   have hs9:Z10.heap.size<=wd.heap.size:=hbd.size
   clear hwz hbd z1 y1 x1 v1
   refine Rf.pl_quiet ?_
   iterate 24 go_big_quiet_step (fail)
   refine wpQuiet_nil (Rf.pl_one ?_)
   go_wp2
   refine⟨(Below.refl _ _).alloc hs9 _,Rf.pl_one ?_⟩
   have B1:Below wd.heap.size wd (wd.alloc (.cells #[] 59)):=(Below.refl _ _).alloc (Nat.le_refl _) _
   have own0:(wd.alloc (.cells #[] 59)).ownsRow wd.heap.size 59 1 (.slice (some ⟨wd.heap.size,0,none⟩) 0 0) 0 []:=own_new (Nat.le_refl _) rfl rfl (by omega)
   obtain⟨xs1,r1d,all1⟩:=(HT910.out.later HBD.out).2.1.hr
   obtain⟨xs2,r2d,all2⟩:=(HT10.out.later HBD.out).2.1.hr
   have r1:=r1d.later B1
   have hx1:xs1.length=L1.length*1:=all1.len
   have hx2:xs2.length=L2.length*1:=all2.len
   have o1:∀u∈xs1,u.oneCell'=true:=λu hu=>by
    obtain⟨r,_,A0,c0,e,_⟩:=rows_in all1 hu
    injection e with e
    rw[e];rfl
   have o2:∀u∈xs2,u.oneCell'=true:=λu hu=>by
    obtain⟨r,_,A0,c0,e,_⟩:=rows_in all2 hu
    injection e with e
    rw[e];rfl
   have HA:=Lib.hid (And.intro all1 (And.intro all2 r2d))
   have HB1:=Lib.hid B1
   have hin:Tryz.prog.underlying 23=some (.slice 59):=Tryz.underlying23
   clear all1 all2 r1d r2d
   generalize wd.alloc (.cells #[] 59)=V at *
   have hsV:wd.heap.size<=V.heap.size:=B1.size
   have hsZ:Z10.heap.size<=V.heap.size:=Nat.le_trans hs9 hsV
   clear B1
   refine wpList_appW (m:=L1.length) rfl (by first|go_simp|simp[go_sem]|rfl) hin rowInfo rfl (by omega) rfl own0 rfl r1 hx1 o1 (by omega) (by omega) hsV ?_
   intro v6 w6 own6 hb6
   rw[Nat.zero_add,List.nil_append]at own6
   obtain⟨A11,c11,rfl,hc11,_⟩:=own_slice own6
   go_wp2
   refine⟨hb6.mono hs9,Rf.pl_one ?_⟩
   have hs6:wd.heap.size<=w6.heap.size:=Nat.le_trans hsV hb6.size
   have hb16:Below wd.heap.size wd w6:=HB1.out.trans hb6
   have r2:=HA.out.2.2.later hb16
   have HB16:=Lib.hid hb16
   clear own0 r1 hb6 hb16 hx1 o1
   refine wpList_appW (m:=L2.length) rfl (by first|go_simp|simp[go_sem]|rfl) hin rowInfo rfl (by omega) rfl own6 rfl r2 hx2 o2 (by omega) (by omega) hs6 ?_
   intro v7 w7 own7 hb7
   rw[H12.out.2.1]at own7
   obtain⟨A12,c12,rfl,hc12,r7⟩:=own_slice own7
   go_wp2
   refine⟨hb7.mono hs9,Rf.pl_one ?_⟩
   have hb17:Below wd.heap.size wd w7:=HB16.out.trans hb7
   have hrd:RdRs w7 A12 rows:=by
    refine⟨xs1++xs2,r7,?_⟩
    rw[←H12.out.1]
    exact(HA.out.1.mono λ_ _ _ h=>h.later hb17).append (HA.out.2.1.mono λ_ _ _ h=>h.later hb17)
   have hSR:=kitSameRows rows rows A12 B c12 d rows.length rows.length w7 rfl rfl (by omega) (by omega) (λr hr=>by have:=(HG.out.1.2.2 r hr).1;omega) (λr hr=>by have:=(HG.out.1.2.2 r hr).1;omega) hrd ((HF10.out.later HBD.out).rr.later hb17)
   rw[show decide (rows=rows)=true from decide_eq_true rfl]at hSR
   have HB17:=Lib.hid (below_tr HB10.out (below_tr HBD.out hb17))
   have hs7:Z10.heap.size<=w7.heap.size:=Nat.le_trans hs9 hb17.size
   clear hrd hb17 hb7 own6 own7 r2 r7 hx2 o2
   go_wp2_with (go_at_call 31;refine hSR.mono ?_;rintro e w8 ⟨rfl,hb8⟩)
   refine⟨hb8.mono hs7,Rf.pl_quiet ?_⟩
   have HE:=Lib.hid (below_tr HB17.out hb8)
   clear hb8 hSR
   iterate 2 go_big_quiet_step (fail)
   refine wpQuiet_nil (Rf.pl_done ?_)
   go_wp2
   go_ret
   exact⟨rfl,HE.out⟩
end Go.Proofs.YtoejnneknpoanaaGreatDoor
