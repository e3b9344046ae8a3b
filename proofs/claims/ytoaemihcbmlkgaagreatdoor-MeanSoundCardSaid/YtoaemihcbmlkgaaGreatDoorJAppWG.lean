/- Layer 26's law, walked: heavy. Parts of rows of triples. app -/
import Derived.Test.YtoaemihcbmlkgaaGreatDoorJMnL9
namespace Go.Proofs.YtoaemihcbmlkgaaGreatDoor
open Go Go.RowKit Um Fm Tx Om Mv Mn
theorem fit3 (x:Sl) (t:Tm):(x.v.toList.isEmpty=false/\fitS x t=true)∨(x.v.toList.isEmpty=true/\sameTm x.t t=true/\fitS x t=true)∨(x.v.toList.isEmpty=true/\sameTm x.t t=false/\fitS x t=false):=by
 unfold fitS
 cases he:x.v.toList.isEmpty
 ·exact .inl ⟨rfl,rfl⟩
 ·by_cases h:x.t=t
  ·exact .inr (.inl ⟨rfl,sameTm_iffT.2 h,by simp[h]⟩)
  ·exact .inr (.inr ⟨rfl,by rw[←Bool.not_eq_true,sameTm_iffT];exact h,by simp[h]⟩)
theorem cnt_snoc {set:List Tp} {p:Pat} {k:Nat} {t:Tp} (h:set[k]?=some t):cntP (set.take (k+1)) p=cntP (set.take k) p+if fitP p t=true then 1 else 0:=by
 unfold cntP
 rw[take_snoc_of h,List.countP_append,List.countP_cons,List.countP_nil,Nat.zero_add]
theorem cnt_le (set:List Tp) (p:Pat) (k:Nat):cntP (set.take k) p<=k:=by
 unfold cntP
 exact Nat.le_trans List.countP_le_length (List.length_take_le _ _)
set_option maxHeartbeats 16000000 in
set_option maxRecDepth 100000 in
theorem mlHeavy (set:List Tp) (pats:List Pat) (A B:Option Addr) (c d:Nat) (w:World) (hl:set.length<=1000) (hp:pats.length<=1000) (hr:Rd w A (set.flatMap tpL)) (hrp:RdPat w B pats) :
  Calls Tryz.prog 7 #[.slice A set.length c,.slice B pats.length d] w λe w'=>e=.returned (.bool (heavyP set pats 1))/\Below w.heap.size w w':=by
 have HR:=Lib.hid (And.intro hr hrp)
 clear hr hrp
 obtain⟨N,hN⟩:∃N,heavyP set pats 1=N:=⟨_,rfl⟩
 rw[hN]
 go_enter Tryz.func7,Tryz.ntmps7
 go_wp2
 go_loopw [5,6,7,8,9] (λs i _ _ _ wr=>∃k m:Nat,k<=pats.length/\i=.int .i64 k/\s=.int .i64 m/\m<=1500/\heavyP set (pats.drop k) m=N/\Below w.heap.size w wr) (λ_ i _ _ _ _=>pats.length-(intOf i).toNat)
 case atStart=>exact⟨0,1,by omega,rfl,rfl,by omega,by simpa using hN,Below.refl _ _⟩
 case round =>
  obtain⟨k,m,hk,rfl,rfl,hm,hs,hB⟩:=hrel
  by_cases hlt:k<pats.length
  ·obtain⟨p,hpk⟩:∃p,pats[k]?=some p:=⟨_,List.getElem?_eq_getElem hlt⟩
   rw[drop_cons_of hpk,heavyP]at hs
   obtain⟨g2,o2,cs2,rfl,_,rfl,hx⟩:=(RdL.mono HR.out.2 hB λ_ _ _ h=>h).at_ (by omega) hpk
   have q0:wr.cell? ⟨g2,o2+k*15,none⟩=some (.string p.s.v):=hx 0 _ rfl
   have q1:=hx 1 _ rfl
   have q2:=hx 2 _ rfl
   have q3:=hx 3 _ rfl
   have q4:=hx 4 _ rfl
   have q5:=hx 5 _ rfl
   have q6:=hx 6 _ rfl
   have q7:=hx 7 _ rfl
   have q8:=hx 8 _ rfl
   have q9:=hx 9 _ rfl
   have q10:=hx 10 _ rfl
   have q11:=hx 11 _ rfl
   have q12:=hx 12 _ rfl
   have q13:=hx 13 _ rfl
   have q14:=hx 14 _ rfl
   obtain⟨W4,hW4⟩:∃V:World,wr.alloc (.cells #[.string p.s.v,.int .i64 p.s.t.k,.string p.s.t.x,.string p.s.t.l,.string p.s.t.y,.string p.p.v,.int .i64 p.p.t.k,.string p.p.t.x,.string p.p.t.l,.string p.p.t.y,.string p.o.v,.int .i64 p.o.t.k,.string p.o.t.x,.string p.o.t.l,.string p.o.t.y] 43)=V:=⟨_,rfl⟩
   have hb4:Below w.heap.size w W4:=by rw[←hW4];exact below_alloc hB
   have hk4:∀(j:Nat) (v:Value),(#[.string p.s.v,.int .i64 p.s.t.k,.string p.s.t.x,.string p.s.t.l,.string p.s.t.y,.string p.p.v,.int .i64 p.p.t.k,.string p.p.t.x,.string p.p.t.l,.string p.p.t.y,.string p.o.v,.int .i64 p.o.t.k,.string p.o.t.x,.string p.o.t.l,.string p.o.t.y]:Array Value)[j]?=some v->W4.cell? ⟨wr.heap.size,j,none⟩=some v:=λj v h=>by rw[←hW4,World.cell?,heap_alloc_new];simpa using h
   have hz4:W4.heap.size=wr.heap.size+1:=by rw[←hW4];simp
   have hs4:=hB.size
   have HX:=Lib.hid (And.intro hs (And.intro hB (And.intro hb4 hk4)))
   clear hs hB hpk hN hx hb4 hk4
   go_wp2
   clear q0 q1 q2 q3 q4 q5 q6 q7 q8 q9 q10 q11 q12 q13 q14
   clear hW4
   go_loopw [7,9] (λn i wr2=>∃(j:Nat),j<=set.length/\i=.int .i64 j/\n=.int .i64 (cntP (set.take j) p:Nat)/\Below W4.heap.size W4 wr2) (λ_ i _=>set.length-(intOf i).toNat)
   case atStart=>exact⟨0,by omega,rfl,by simp[cntP],Below.refl _ _⟩
   case round =>
    obtain⟨j,hj,rfl,rfl,hBj⟩:=hrel
    have hcl:=cnt_le set p j
    by_cases hlt2:j<set.length
    ·obtain⟨t,ht⟩:∃t,set[j]?=some t:=⟨_,List.getElem?_eq_getElem hlt2⟩
     have hsn:=Lib.hid (cnt_snoc (p:=p) ht)
     obtain⟨g,o,rfl,c0,c1,c2,c3,c4,c5,c6,c7,c8,c9,c10,c11⟩:=rd_at12 (HR.out.1.later (below_tr HX.out.2.2.1 hBj)) ht
     have hk4:=λ(i:Nat) (v:Value) h=>cell_on (HX.out.2.2.2 i v h) hBj
     have HBJ:=Lib.hid hBj
     obtain⟨x0,x1,x2,x3,x4,x5,x6,x7,x8,x9,x10,x11,x12,x13,x14⟩:_/\_/\_/\_/\_/\_/\_/\_/\_/\_/\_/\_/\_/\_/\_:=⟨hk4 0 _ rfl,hk4 1 _ rfl,hk4 2 _ rfl,hk4 3 _ rfl,hk4 4 _ rfl,hk4 5 _ rfl,hk4 6 _ rfl,hk4 7 _ rfl,hk4 8 _ rfl,hk4 9 _ rfl,hk4 10 _ rfl,hk4 11 _ rfl,hk4 12 _ rfl,hk4 13 _ rfl,hk4 14 _ rfl⟩
     have e1:=λW=>run_eqTmT p.s.t t.s W
     have e2:=λW=>run_eqTmT p.p.t t.p W
     have e3:=λW=>run_eqTmT p.o.t t.o W
     have hf:fitP p t=(fitS p.s t.s && fitS p.p t.p && fitS p.o t.o):=rfl
     rw[hf]at hsn
     clear hBj hk4 ht hf
     generalize cntP (set.take j) p=q at *
     obtain⟨V,hV⟩:∃V:World,V=wr:=⟨_,rfl⟩
     subst hV
     have p0:=λd os=>cell_on x0 (below_regrown V d os)
     have p1:=λd os=>cell_on x1 (below_regrown V d os)
     have p2:=λd os=>cell_on x2 (below_regrown V d os)
     have p3:=λd os=>cell_on x3 (below_regrown V d os)
     have p4:=λd os=>cell_on x4 (below_regrown V d os)
     have p5:=λd os=>cell_on x5 (below_regrown V d os)
     have p6:=λd os=>cell_on x6 (below_regrown V d os)
     have p7:=λd os=>cell_on x7 (below_regrown V d os)
     have p8:=λd os=>cell_on x8 (below_regrown V d os)
     have p9:=λd os=>cell_on x9 (below_regrown V d os)
     have p10:=λd os=>cell_on x10 (below_regrown V d os)
     have p11:=λd os=>cell_on x11 (below_regrown V d os)
     have p12:=λd os=>cell_on x12 (below_regrown V d os)
     have p13:=λd os=>cell_on x13 (below_regrown V d os)
     have p14:=λd os=>cell_on x14 (below_regrown V d os)
     have t0:=λd os=>cell_on c0 (below_regrown V d os)
     have t1:=λd os=>cell_on c1 (below_regrown V d os)
     have t2:=λd os=>cell_on c2 (below_regrown V d os)
     have t3:=λd os=>cell_on c3 (below_regrown V d os)
     have t4:=λd os=>cell_on c4 (below_regrown V d os)
     have t5:=λd os=>cell_on c5 (below_regrown V d os)
     have t6:=λd os=>cell_on c6 (below_regrown V d os)
     have t7:=λd os=>cell_on c7 (below_regrown V d os)
     have t8:=λd os=>cell_on c8 (below_regrown V d os)
     have t9:=λd os=>cell_on c9 (below_regrown V d os)
     have t10:=λd os=>cell_on c10 (below_regrown V d os)
     have t11:=λd os=>cell_on c11 (below_regrown V d os)
     clear x0 x1 x2 x3 x4 x5 x6 x7 x8 x9 x10 x11 x12 x13 x14 c0 c1 c2 c3 c4 c5 c6 c7 c8 c9 c10 c11
     obtain⟨a1,f1⟩|⟨a1,g1,f1⟩|⟨a1,g1,f1⟩:=fit3 p.s t.s
     ·obtain⟨a2,f2⟩|⟨a2,g2,f2⟩|⟨a2,g2,f2⟩:=fit3 p.p t.p
      ·obtain⟨a3,f3⟩|⟨a3,g3,f3⟩|⟨a3,g3,f3⟩:=fit3 p.o t.o
       ·simp only[f1,f2,f3,Bool.and_true,Bool.and_false,Bool.true_and,Bool.false_and,if_true,Bool.false_eq_true,if_false,Nat.add_zero]at hsn
        have HSN:=Lib.hid hsn.out
        clear hsn
        go_wp2
        refine wrq ?_;(repeat (any_goals (go_big_quiet_step ((fail)))));all_goals (refine wqn ?_;intro d9 os9)
        have kq:=below_regrown V d9 os9
        clear p0 p1 p2 p3 p4 p5 p6 p7 p8 p9 p10 p11 p12 p13 p14 t0 t1 t2 t3 t4 t5 t6 t7 t8 t9 t10 t11
        generalize Sort.grow (redrawn V d9) os9=w3 at *
        go_wp2
        exact⟨⟨j+1,by omega,by go_num,by rw[HSN.out]<;>go_num,below_tr HBJ.out kq⟩,by simp[intOf];omega⟩
       ·simp only[f1,f2,f3,Bool.and_true,Bool.and_false,Bool.true_and,Bool.false_and,if_true,Bool.false_eq_true,if_false,Nat.add_zero]at hsn
        have HSN:=Lib.hid hsn.out
        clear hsn
        go_wp2
        refine wrq ?_;(repeat (any_goals (go_big_quiet_step ((fail)))));all_goals (refine wqn ?_;intro d9 os9)
        have kq:=below_regrown V d9 os9
        clear p0 p1 p2 p3 p4 p5 p6 p7 p8 p9 p10 p11 p12 p13 p14 t0 t1 t2 t3 t4 t5 t6 t7 t8 t9 t10 t11
        generalize Sort.grow (redrawn V d9) os9=w3 at *
        go_wp2
        exact⟨⟨j+1,by omega,by go_num,by rw[HSN.out]<;>go_num,below_tr HBJ.out kq⟩,by simp[intOf];omega⟩
       ·simp only[f1,f2,f3,Bool.and_true,Bool.and_false,Bool.true_and,Bool.false_and,if_true,Bool.false_eq_true,if_false,Nat.add_zero]at hsn
        have HSN:=Lib.hid hsn.out
        clear hsn
        go_wp2
        refine wrq ?_;(repeat (any_goals (go_big_quiet_step ((fail)))));all_goals (refine wqn ?_;intro d9 os9)
        have kq:=below_regrown V d9 os9
        clear p0 p1 p2 p3 p4 p5 p6 p7 p8 p9 p10 p11 p12 p13 p14 t0 t1 t2 t3 t4 t5 t6 t7 t8 t9 t10 t11
        generalize Sort.grow (redrawn V d9) os9=w3 at *
        go_wp2
        exact⟨⟨j+1,by omega,by go_num,by rw[HSN.out]<;>go_num,below_tr HBJ.out kq⟩,by simp[intOf];omega⟩
      ·obtain⟨a3,f3⟩|⟨a3,g3,f3⟩|⟨a3,g3,f3⟩:=fit3 p.o t.o
       ·simp only[f1,f2,f3,Bool.and_true,Bool.and_false,Bool.true_and,Bool.false_and,if_true,Bool.false_eq_true,if_false,Nat.add_zero]at hsn
        have HSN:=Lib.hid hsn.out
        clear hsn
        go_wp2
        refine wrq ?_;(repeat (any_goals (go_big_quiet_step ((fail)))));all_goals (refine wqn ?_;intro d9 os9)
        have kq:=below_regrown V d9 os9
        clear p0 p1 p2 p3 p4 p5 p6 p7 p8 p9 p10 p11 p12 p13 p14 t0 t1 t2 t3 t4 t5 t6 t7 t8 t9 t10 t11
        generalize Sort.grow (redrawn V d9) os9=w3 at *
        go_wp2
        exact⟨⟨j+1,by omega,by go_num,by rw[HSN.out]<;>go_num,below_tr HBJ.out kq⟩,by simp[intOf];omega⟩
       ·simp only[f1,f2,f3,Bool.and_true,Bool.and_false,Bool.true_and,Bool.false_and,if_true,Bool.false_eq_true,if_false,Nat.add_zero]at hsn
        have HSN:=Lib.hid hsn.out
        clear hsn
        go_wp2
        refine wrq ?_;(repeat (any_goals (go_big_quiet_step ((fail)))));all_goals (refine wqn ?_;intro d9 os9)
        have kq:=below_regrown V d9 os9
        clear p0 p1 p2 p3 p4 p5 p6 p7 p8 p9 p10 p11 p12 p13 p14 t0 t1 t2 t3 t4 t5 t6 t7 t8 t9 t10 t11
        generalize Sort.grow (redrawn V d9) os9=w3 at *
        go_wp2
        exact⟨⟨j+1,by omega,by go_num,by rw[HSN.out]<;>go_num,below_tr HBJ.out kq⟩,by simp[intOf];omega⟩
       ·simp only[f1,f2,f3,Bool.and_true,Bool.and_false,Bool.true_and,Bool.false_and,if_true,Bool.false_eq_true,if_false,Nat.add_zero]at hsn
        have HSN:=Lib.hid hsn.out
        clear hsn
        go_wp2
        refine wrq ?_;(repeat (any_goals (go_big_quiet_step ((fail)))));all_goals (refine wqn ?_;intro d9 os9)
        have kq:=below_regrown V d9 os9
        clear p0 p1 p2 p3 p4 p5 p6 p7 p8 p9 p10 p11 p12 p13 p14 t0 t1 t2 t3 t4 t5 t6 t7 t8 t9 t10 t11
        generalize Sort.grow (redrawn V d9) os9=w3 at *
        go_wp2
        exact⟨⟨j+1,by omega,by go_num,by rw[HSN.out]<;>go_num,below_tr HBJ.out kq⟩,by simp[intOf];omega⟩
      ·simp only[f1,f2,Bool.and_true,Bool.and_false,Bool.true_and,Bool.false_and,if_true,Bool.false_eq_true,if_false,Nat.add_zero]at hsn
       have HSN:=Lib.hid hsn.out
       clear hsn
       go_wp2
       refine wrq ?_;(repeat (any_goals (go_big_quiet_step ((fail)))));all_goals (refine wqn ?_;intro d9 os9)
       have kq:=below_regrown V d9 os9
       clear p0 p1 p2 p3 p4 p5 p6 p7 p8 p9 p10 p11 p12 p13 p14 t0 t1 t2 t3 t4 t5 t6 t7 t8 t9 t10 t11
       generalize Sort.grow (redrawn V d9) os9=w3 at *
       go_wp2
       exact⟨⟨j+1,by omega,by go_num,by rw[HSN.out]<;>go_num,below_tr HBJ.out kq⟩,by simp[intOf];omega⟩
     ·obtain⟨a2,f2⟩|⟨a2,g2,f2⟩|⟨a2,g2,f2⟩:=fit3 p.p t.p
      ·obtain⟨a3,f3⟩|⟨a3,g3,f3⟩|⟨a3,g3,f3⟩:=fit3 p.o t.o
       ·simp only[f1,f2,f3,Bool.and_true,Bool.and_false,Bool.true_and,Bool.false_and,if_true,Bool.false_eq_true,if_false,Nat.add_zero]at hsn
        have HSN:=Lib.hid hsn.out
        clear hsn
        go_wp2
        refine wrq ?_;(repeat (any_goals (go_big_quiet_step ((fail)))));all_goals (refine wqn ?_;intro d9 os9)
        have kq:=below_regrown V d9 os9
        clear p0 p1 p2 p3 p4 p5 p6 p7 p8 p9 p10 p11 p12 p13 p14 t0 t1 t2 t3 t4 t5 t6 t7 t8 t9 t10 t11
        generalize Sort.grow (redrawn V d9) os9=w3 at *
        go_wp2
        exact⟨⟨j+1,by omega,by go_num,by rw[HSN.out]<;>go_num,below_tr HBJ.out kq⟩,by simp[intOf];omega⟩
       ·simp only[f1,f2,f3,Bool.and_true,Bool.and_false,Bool.true_and,Bool.false_and,if_true,Bool.false_eq_true,if_false,Nat.add_zero]at hsn
        have HSN:=Lib.hid hsn.out
        clear hsn
        go_wp2
        refine wrq ?_;(repeat (any_goals (go_big_quiet_step ((fail)))));all_goals (refine wqn ?_;intro d9 os9)
        have kq:=below_regrown V d9 os9
        clear p0 p1 p2 p3 p4 p5 p6 p7 p8 p9 p10 p11 p12 p13 p14 t0 t1 t2 t3 t4 t5 t6 t7 t8 t9 t10 t11
        generalize Sort.grow (redrawn V d9) os9=w3 at *
        go_wp2
        exact⟨⟨j+1,by omega,by go_num,by rw[HSN.out]<;>go_num,below_tr HBJ.out kq⟩,by simp[intOf];omega⟩
       ·simp only[f1,f2,f3,Bool.and_true,Bool.and_false,Bool.true_and,Bool.false_and,if_true,Bool.false_eq_true,if_false,Nat.add_zero]at hsn
        have HSN:=Lib.hid hsn.out
        clear hsn
        go_wp2
        refine wrq ?_;(repeat (any_goals (go_big_quiet_step ((fail)))));all_goals (refine wqn ?_;intro d9 os9)
        have kq:=below_regrown V d9 os9
        clear p0 p1 p2 p3 p4 p5 p6 p7 p8 p9 p10 p11 p12 p13 p14 t0 t1 t2 t3 t4 t5 t6 t7 t8 t9 t10 t11
        generalize Sort.grow (redrawn V d9) os9=w3 at *
        go_wp2
        exact⟨⟨j+1,by omega,by go_num,by rw[HSN.out]<;>go_num,below_tr HBJ.out kq⟩,by simp[intOf];omega⟩
      ·obtain⟨a3,f3⟩|⟨a3,g3,f3⟩|⟨a3,g3,f3⟩:=fit3 p.o t.o
       ·simp only[f1,f2,f3,Bool.and_true,Bool.and_false,Bool.true_and,Bool.false_and,if_true,Bool.false_eq_true,if_false,Nat.add_zero]at hsn
        have HSN:=Lib.hid hsn.out
        clear hsn
        go_wp2
        refine wrq ?_;(repeat (any_goals (go_big_quiet_step ((fail)))));all_goals (refine wqn ?_;intro d9 os9)
        have kq:=below_regrown V d9 os9
        clear p0 p1 p2 p3 p4 p5 p6 p7 p8 p9 p10 p11 p12 p13 p14 t0 t1 t2 t3 t4 t5 t6 t7 t8 t9 t10 t11
        generalize Sort.grow (redrawn V d9) os9=w3 at *
        go_wp2
        exact⟨⟨j+1,by omega,by go_num,by rw[HSN.out]<;>go_num,below_tr HBJ.out kq⟩,by simp[intOf];omega⟩
       ·simp only[f1,f2,f3,Bool.and_true,Bool.and_false,Bool.true_and,Bool.false_and,if_true,Bool.false_eq_true,if_false,Nat.add_zero]at hsn
        have HSN:=Lib.hid hsn.out
        clear hsn
        go_wp2
        refine wrq ?_;(repeat (any_goals (go_big_quiet_step ((fail)))));all_goals (refine wqn ?_;intro d9 os9)
        have kq:=below_regrown V d9 os9
        clear p0 p1 p2 p3 p4 p5 p6 p7 p8 p9 p10 p11 p12 p13 p14 t0 t1 t2 t3 t4 t5 t6 t7 t8 t9 t10 t11
        generalize Sort.grow (redrawn V d9) os9=w3 at *
        go_wp2
        exact⟨⟨j+1,by omega,by go_num,by rw[HSN.out]<;>go_num,below_tr HBJ.out kq⟩,by simp[intOf];omega⟩
       ·simp only[f1,f2,f3,Bool.and_true,Bool.and_false,Bool.true_and,Bool.false_and,if_true,Bool.false_eq_true,if_false,Nat.add_zero]at hsn
        have HSN:=Lib.hid hsn.out
        clear hsn
        go_wp2
        refine wrq ?_;(repeat (any_goals (go_big_quiet_step ((fail)))));all_goals (refine wqn ?_;intro d9 os9)
        have kq:=below_regrown V d9 os9
        clear p0 p1 p2 p3 p4 p5 p6 p7 p8 p9 p10 p11 p12 p13 p14 t0 t1 t2 t3 t4 t5 t6 t7 t8 t9 t10 t11
        generalize Sort.grow (redrawn V d9) os9=w3 at *
        go_wp2
        exact⟨⟨j+1,by omega,by go_num,by rw[HSN.out]<;>go_num,below_tr HBJ.out kq⟩,by simp[intOf];omega⟩
      ·simp only[f1,f2,Bool.and_true,Bool.and_false,Bool.true_and,Bool.false_and,if_true,Bool.false_eq_true,if_false,Nat.add_zero]at hsn
       have HSN:=Lib.hid hsn.out
       clear hsn
       go_wp2
       refine wrq ?_;(repeat (any_goals (go_big_quiet_step ((fail)))));all_goals (refine wqn ?_;intro d9 os9)
       have kq:=below_regrown V d9 os9
       clear p0 p1 p2 p3 p4 p5 p6 p7 p8 p9 p10 p11 p12 p13 p14 t0 t1 t2 t3 t4 t5 t6 t7 t8 t9 t10 t11
       generalize Sort.grow (redrawn V d9) os9=w3 at *
       go_wp2
       exact⟨⟨j+1,by omega,by go_num,by rw[HSN.out]<;>go_num,below_tr HBJ.out kq⟩,by simp[intOf];omega⟩
     ·simp only[f1,Bool.and_true,Bool.and_false,Bool.true_and,Bool.false_and,if_true,Bool.false_eq_true,if_false,Nat.add_zero]at hsn
      have HSN:=Lib.hid hsn.out
      clear hsn
      go_wp2
      refine wrq ?_;(repeat (any_goals (go_big_quiet_step ((fail)))));all_goals (refine wqn ?_;intro d9 os9)
      have kq:=below_regrown V d9 os9
      clear p0 p1 p2 p3 p4 p5 p6 p7 p8 p9 p10 p11 p12 p13 p14 t0 t1 t2 t3 t4 t5 t6 t7 t8 t9 t10 t11
      generalize Sort.grow (redrawn V d9) os9=w3 at *
      go_wp2
      exact⟨⟨j+1,by omega,by go_num,by rw[HSN.out]<;>go_num,below_tr HBJ.out kq⟩,by simp[intOf];omega⟩
    ·rw[List.take_of_length_le (by omega)]at hcl ⊢
     have hq:=HX.out.1
     have hw:wrap64 ((m:Int)*max (cntP set p:Int) 1)=((m*max (cntP set p) 1:Nat):Int):=by
      have hM:m*max (cntP set p) 1<=1500*1000:=Nat.mul_le_mul hm (by omega)
      rw[show (m:Int)*max (cntP set p:Int) 1=((m*max (cntP set p) 1:Nat):Int) by rw[Int.natCast_mul];congr 1;omega]
      generalize m*max (cntP set p) 1=M at *
      exact IntWalk.wrap64_in _ ⟨by omega,by omega⟩
     generalize m*max (cntP set p) 1=M at *
     generalize cntP set p=q at *
     have HBj:=Lib.hid hBj
     clear hBj hcl
     by_cases hbig:1500<M
     ·rw[if_pos hbig]at hq
      subst hq
      go_wp2
      go_ret
      exact⟨rfl,below_tr HX.out.2.2.1 HBj.out⟩
     ·rw[if_neg hbig]at hq
      go_wp2
      exact⟨⟨k+1,M,by omega,by go_num,by rw[hw],by omega,hq,by have:=below_tr HX.out.2.2.1 HBj.out;exact this⟩,by simp[intOf];omega⟩
  ·rw[List.drop_of_length_le (by omega),heavyP]at hs
   subst hs
   go_wp2
   go_ret
   exact⟨rfl,hB⟩
open Lx
def subT (c q:Nat) (A:Option Addr):Option Addr:=if c=q then A else A.map (·.add (q*12))
theorem run_from12 (A:Option Addr) (c q M:Nat) (hq:q<=M) (W:World) :
  (Instr.slice 22 (.slice A M c) (some (.int .i64 (q:Int))) none none).run Tryz.prog W=.ok (.slice (subT c q A) (M-q) (c-q)) W:=by
 have h1:(0:Int)<=(q:Int)/\(q:Int)<=(M:Int):=by omega
 have hs:=Tryz.sizeOf28
 unfold subT
 simp[Instr.slice,run_underlying Tryz.underlying22,Instr.sliceBounds,Instr.sliceBound,asIntOf,h1,hs]
 intro h;omega
theorem run_to12 (A:Option Addr) (c q M:Nat) (hq:q<=c) (W:World) :
  (Instr.slice 22 (.slice A M c) none (some (.int .i64 (q:Int))) none).run Tryz.prog W=.ok (.slice A q c) W:=by
 have h1:(0:Int)<=(q:Int)/\(q:Int)<=(c:Int):=by omega
 have hs:=Tryz.sizeOf28
 have hA:A.map (λx=>x.add 0)=A:=by
  cases A with
  | none=>rfl
  | some a=>simp[Addr.add]
 simp[Instr.slice,run_underlying Tryz.underlying22,Instr.sliceBounds,Instr.sliceBound,asIntOf,h1,hs,hA]
 intro h;omega
theorem Rd.from12 {w:World} {A:Option Addr} {l:List Tp} (h:Rd w A (l.flatMap tpL)) {c q:Nat} (hl:l.length<=c) (hq:q<=l.length):Rd w (subT c q A) ((l.drop q).flatMap tpL):=by
 unfold subT
 split
 ·next he=>rw[List.drop_of_length_le (by omega)];exact .inl rfl
 ·rcases h with h0|⟨g,o,rfl,hc⟩
  ·have:l=[]:=by
    have:=tpL_len l
    rw[h0]at this
    exact List.eq_nil_of_length_eq_zero (by simp at this;omega)
   subst this
   exact .inl (by simp)
  ·refine .inr ⟨g,o+q*12,by rw[Option.map_some,Addr.add_mid],λj u hu=>?_⟩
   rw[Nat.add_assoc]
   refine hc _ _ ?_
   have e:l.flatMap tpL=(l.take q).flatMap tpL++(l.drop q).flatMap tpL:=by rw[←List.flatMap_append,List.take_append_drop]
   rw[e,List.getElem?_append_right (by rw[tpL_len,List.length_take];omega),tpL_len,List.length_take,Nat.min_eq_left hq,Nat.add_sub_cancel_left]
   exact hu
theorem Rd.to12 {w:World} {A:Option Addr} {l:List Tp} (h:Rd w A (l.flatMap tpL)) (q:Nat):Rd w A ((l.take q).flatMap tpL):=by
 have e:l.flatMap tpL=(l.take q).flatMap tpL++(l.drop q).flatMap tpL:=by rw[←List.flatMap_append,List.take_append_drop]
 rcases h with h0|⟨g,o,rfl,hc⟩
 ·rw[e]at h0
  exact .inl (List.append_eq_nil_iff.1 h0).1
 ·exact .inr ⟨g,o,rfl,λj u hu=>hc j u (by rw[e,List.getElem?_append_left (List.getElem?_eq_some_iff.1 hu).1];exact hu)⟩
theorem wpList_want {P:Program} {w:World} {ops:Array Oper} {rest:List Oper} {o:Oper} {a:Act} {Q:Exit->Act->World->Prop} (hw:Region.wanted o (yielded ops a.tmps)=true)
  (h:∀K:Act->World->Prop,(∀a w,wpList P ops Q rest a w->K a w)->o.wp P a w K Q):wpList P ops Q (o::rest) a w:=
 wpList_step λK hK=>by rw[if_pos hw];exact h K hK
theorem wpList_appWG {P:Program} {w:World} {ops:Array Oper} {rest:List Oper} {o:Oper} {a:Act} {Q:Exit->Act->World->Prop} {s x:Operand} {t:TypeId}
  (ho:o.op=.call {callee:=.builtin .append,args:=#[s,x],argTypes:=#[t,t]}) (hw:Region.wanted o (yielded ops a.tmps)=true)
  {e:TypeId} {z:Value} {size bytes:Nat} (ht:P.underlying t=some (.slice e)) (hinfo:(P.info? e).map (λi=>(i.zero,i.size,i.bytes))=some (some z,size,bytes))
  (hzs:z.cells.size=size) (hsz:0<size)
  {base:Nat} {v:Value} {n:Nat} {xs:List Value} (hs:a.eval s=v) (hown:w.ownsRow base e size v n xs)
  {A:Option Addr} {m c:Nat} {news:List Value} (hx:a.eval x=.slice A m c) (hr:Rd w A news) (hl:news.length=m*size) (h1:∀u∈news,u.oneCell'=true)
  (hbytes:(n+m)*bytes<=140737488355328) (h63:n+m<=9223372036854775807) (hbase:base<=w.heap.size)
  (h:∀v' w',w'.ownsRow base e size v' (n+m) (xs++news)->Below base w w'->w.grownBy w' v.ownBlock->wpList P ops Q rest (a.put o.dst v') w'):wpList P ops Q (o::rest) a w:=by
 obtain⟨i,hi,hz,hsize,hby⟩:=info_parts hinfo
 have below:∀{w':World},w.grownBy w' v.ownBlock->Below base w w':=λhg=>(Below.refl _ _).grown hg hbase λk hk=>(hown.lt k hk).1
 refine wpList_want hw λK hK=>?_
 have key:∃v' w',(Builtin.append_ #[t,t] o.type #[v,.slice A m c]).run P w=.ok v' w'/\w'.ownsRow base e size v' (n+m) (xs++news)/\Below base w w'/\w.grownBy w' v.ownBlock:=by
  have some_:∀(ad:Addr),(∀j u,news[j]?=some u->w.cell? (ad.add j)=some u)->∃v' w',(Builtin.append_ #[t,t] o.type #[v,.slice (some ad) m c]).run P w=.ok v' w'/\w'.ownsRow base e size v' (n+m) (xs++news)/\Below base w w'/\w.grownBy w' v.ownBlock:=by
   intro ad hc
   obtain⟨v',w',hrun,h2,h3,-⟩:=run_append_own (P:=P) w base t o.type e i z size bytes ht hi hz hsize hby hzs hsz v n xs hown ad m c news hl hc h1 (by simp only[maxLen];omega) hbytes hbase
   exact⟨v',w',hrun,h2,below h3,h3⟩
  rcases hr with rfl|⟨g,off,rfl,hc⟩
  ·have hm:m=0:=by
    rcases Nat.eq_zero_or_pos m with h0|h0
    ·exact h0
    ·have:=Nat.mul_pos h0 hsz
     simp at hl;omega
   subst hm
   rcases A with _|ad
   ·refine⟨v,w,?_,by simpa using hown,Below.refl _ _,⟨rfl,rfl,rfl,Nat.le_refl _,λ_ _ _=>rfl⟩⟩
    rcases hown.2 with ⟨rfl,rfl⟩|⟨g,cap,cur,rfl,_,_,hnc,_⟩
    ·simp[Builtin.append_,run_underlying ht,sizeOf,typeInfo,hi,Builtin.lenOf,Builtin.firstCells]
    ·simp[Builtin.append_,run_underlying ht,sizeOf,typeInfo,hi,Builtin.lenOf,Builtin.firstCells,hnc,storeCells]
   ·exact some_ ad (by simp)
  ·exact some_ ⟨g,off,none⟩ (λj u hu=>by rw[add_zero_spot];exact hc j u hu)
 obtain⟨v',w',hrun,h2,h3,h4⟩:=key
 unfold Oper.wp execOp
 simp only[ho,resolve,invoke,builtin,Sem.run_bind,Sem.run_pure,Result.andThen_ok,List.map_toArray,List.map_cons,List.map_nil,hs,hx,hrun]
 exact hK _ _ (h v' w' h2 h3 h4)
end Go.Proofs.YtoaemihcbmlkgaaGreatDoor
