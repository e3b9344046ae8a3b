/- Layer 26's law, walked: heavy. Parts of rows of triples. app -/
import Derived.Test.YtoaemihcbmlkgaaGreatDoorJMnL10
set_option maxHeartbeats 16000000
set_option maxRecDepth 100000
namespace Go.Proofs.YtoaemihcbmlkgaaGreatDoor
open Go Go.RowKit Um Fm Tx Om Mv Mn
theorem fit3 (x:Sl) (t:Tm):(x.v.toList.isEmpty=false/\fitS x t=true)∨(x.v.toList.isEmpty=true/\sameTm x.t t=true/\fitS x t=true)∨(x.v.toList.isEmpty=true/\sameTm x.t t=false/\fitS x t=false):=by
 unfold fitS
 cases he:x.v.toList.isEmpty
 ·exact .inl ⟨rfl,rfl⟩
 ·by_cases h:x.t=t
  ·exact .inr (.inl ⟨rfl,sameTm_iffT.2 h,by simp[h]⟩)
  ·exact .inr (.inr ⟨rfl,by rw[←Bool.not_eq_true,sameTm_iffT];exact h,by simp[h]⟩)
theorem cnt_snoc {set:List Tp} {p:Pat} {k:Nat} {t:Tp} (h:set[k]?=some t):cntP (set.take (k+1)) p=cntP (set.take k) p+if fitP p t=true then 1 else 0:=by
 unfold cntP
 rw[take_snoc_of h,List.countP_append,List.countP_cons,List.countP_nil,Nat.zero_add]
theorem cnt_le (set:List Tp) (p:Pat) (k:Nat):cntP (set.take k) p<=k:=by
 unfold cntP
 exact Nat.le_trans List.countP_le_length (List.length_take_le _ _)
theorem mlHeavy (set:List Tp) (pats:List Pat) (A B:Option Addr) (c d:Nat) (w:World) (hl:set.length<=1000) (hp:pats.length<=1000) (hr:Rd w A (set.flatMap tpL)) (hrp:RdPat w B pats) :
  Calls Tryz.prog 7 #[.slice A set.length c,.slice B pats.length d] w λe w'=>e=.returned (.bool (heavyP set pats 1))/\Below w.heap.size w w':=by
 have HR:=Lib.hid (And.intro hr hrp)
 clear hr hrp
 obtain⟨N,hN⟩:∃N,heavyP set pats 1=N:=⟨_,rfl⟩
 rw[hN]
 go_enter Tryz.func7,Tryz.ntmps7
 go_wp2
 go_loopw [5,6,7,8,9] (λs i _ _ _ wr=>∃k m:Nat,k<=pats.length/\i=.int .i64 k/\s=.int .i64 m/\m<=1500/\heavyP set (pats.drop k) m=N/\Below w.heap.size w wr) (λ_ i _ _ _ _=>pats.length-(intOf i).toNat)
 case atStart=>exact⟨0,1,by omega,rfl,rfl,by omega,by simpa using hN,Below.refl _ _⟩
 case round =>
  obtain⟨k,m,hk,rfl,rfl,hm,hs,hB⟩:=hrel
  by_cases hlt:k<pats.length
  ·obtain⟨p,hpk⟩:∃p,pats[k]?=some p:=⟨_,List.getElem?_eq_getElem hlt⟩
   rw[drop_cons_of hpk,heavyP]at hs
   obtain⟨g2,o2,cs2,rfl,_,rfl,hx⟩:=(RdL.mono HR.out.2 hB λ_ _ _ h=>h).at_ (by omega) hpk
   have q0:wr.cell? ⟨g2,o2+k*15,none⟩=some (.string p.s.v):=hx 0 _ rfl
   have q1:=hx 1 _ rfl
   have q2:=hx 2 _ rfl
   have q3:=hx 3 _ rfl
   have q4:=hx 4 _ rfl
   have q5:=hx 5 _ rfl
   have q6:=hx 6 _ rfl
   have q7:=hx 7 _ rfl
   have q8:=hx 8 _ rfl
   have q9:=hx 9 _ rfl
   have q10:=hx 10 _ rfl
   have q11:=hx 11 _ rfl
   have q12:=hx 12 _ rfl
   have q13:=hx 13 _ rfl
   have q14:=hx 14 _ rfl
   obtain⟨W4,hW4⟩:∃V:World,wr.alloc (.cells #[.string p.s.v,.int .i64 p.s.t.k,.string p.s.t.x,.string p.s.t.l,.string p.s.t.y,.string p.p.v,.int .i64 p.p.t.k,.string p.p.t.x,.string p.p.t.l,.string p.p.t.y,.string p.o.v,.int .i64 p.o.t.k,.string p.o.t.x,.string p.o.t.l,.string p.o.t.y] 43)=V:=⟨_,rfl⟩
   have hb4:Below w.heap.size w W4:=by rw[←hW4];exact below_alloc hB
   have hk4:∀(j:Nat) (v:Value),(#[.string p.s.v,.int .i64 p.s.t.k,.string p.s.t.x,.string p.s.t.l,.string p.s.t.y,.string p.p.v,.int .i64 p.p.t.k,.string p.p.t.x,.string p.p.t.l,.string p.p.t.y,.string p.o.v,.int .i64 p.o.t.k,.string p.o.t.x,.string p.o.t.l,.string p.o.t.y]:Array Value)[j]?=some v->W4.cell? ⟨wr.heap.size,j,none⟩=some v:=λj v h=>by rw[←hW4,World.cell?,heap_alloc_new];simpa using h
   have hz4:W4.heap.size=wr.heap.size+1:=by rw[←hW4];simp
   have hs4:=hB.size
   have HX:=Lib.hid (And.intro hs (And.intro hB (And.intro hb4 hk4)))
   clear hs hB hpk hN hx hb4 hk4
   go_wp2
   clear q0 q1 q2 q3 q4 q5 q6 q7 q8 q9 q10 q11 q12 q13 q14
   clear hW4
   go_loopw [7,9] (λn i wr2=>∃(j:Nat),j<=set.length/\i=.int .i64 j/\n=.int .i64 (cntP (set.take j) p:Nat)/\Below W4.heap.size W4 wr2) (λ_ i _=>set.length-(intOf i).toNat)
   case atStart=>exact⟨0,by omega,rfl,by simp[cntP],Below.refl _ _⟩
   case round =>
    obtain⟨j,hj,rfl,rfl,hBj⟩:=hrel
    have hcl:=cnt_le set p j
    by_cases hlt2:j<set.length
    ·obtain⟨t,ht⟩:∃t,set[j]?=some t:=⟨_,List.getElem?_eq_getElem hlt2⟩
     have hsn:=Lib.hid (cnt_snoc (p:=p) ht)
     obtain⟨g,o,rfl,c0,c1,c2,c3,c4,c5,c6,c7,c8,c9,c10,c11⟩:=rd_at12 (HR.out.1.later (below_tr HX.out.2.2.1 hBj)) ht
     have hk4:=λ(i:Nat) (v:Value) h=>cell_on (HX.out.2.2.2 i v h) hBj
     have HBJ:=Lib.hid hBj
     obtain⟨x0,x1,x2,x3,x4,x5,x6,x7,x8,x9,x10,x11,x12,x13,x14⟩:_/\_/\_/\_/\_/\_/\_/\_/\_/\_/\_/\_/\_/\_/\_:=⟨hk4 0 _ rfl,hk4 1 _ rfl,hk4 2 _ rfl,hk4 3 _ rfl,hk4 4 _ rfl,hk4 5 _ rfl,hk4 6 _ rfl,hk4 7 _ rfl,hk4 8 _ rfl,hk4 9 _ rfl,hk4 10 _ rfl,hk4 11 _ rfl,hk4 12 _ rfl,hk4 13 _ rfl,hk4 14 _ rfl⟩
     have e1:=λW=>run_eqTmT p.s.t t.s W
     have e2:=λW=>run_eqTmT p.p.t t.p W
     have e3:=λW=>run_eqTmT p.o.t t.o W
     have hf:fitP p t=(fitS p.s t.s && fitS p.p t.p && fitS p.o t.o):=rfl
     rw[hf]at hsn
     clear hBj hk4 ht hf
     generalize cntP (set.take j) p=q at *
     obtain⟨V,hV⟩:∃V:World,V=wr:=⟨_,rfl⟩
     subst hV
     have p0:=λd os=>cell_on x0 (below_regrown V d os)
     have p1:=λd os=>cell_on x1 (below_regrown V d os)
     have p2:=λd os=>cell_on x2 (below_regrown V d os)
     have p3:=λd os=>cell_on x3 (below_regrown V d os)
     have p4:=λd os=>cell_on x4 (below_regrown V d os)
     have p5:=λd os=>cell_on x5 (below_regrown V d os)
     have p6:=λd os=>cell_on x6 (below_regrown V d os)
     have p7:=λd os=>cell_on x7 (below_regrown V d os)
     have p8:=λd os=>cell_on x8 (below_regrown V d os)
     have p9:=λd os=>cell_on x9 (below_regrown V d os)
     have p10:=λd os=>cell_on x10 (below_regrown V d os)
     have p11:=λd os=>cell_on x11 (below_regrown V d os)
     have p12:=λd os=>cell_on x12 (below_regrown V d os)
     have p13:=λd os=>cell_on x13 (below_regrown V d os)
     have p14:=λd os=>cell_on x14 (below_regrown V d os)
     have t0:=λd os=>cell_on c0 (below_regrown V d os)
     have t1:=λd os=>cell_on c1 (below_regrown V d os)
     have t2:=λd os=>cell_on c2 (below_regrown V d os)
     have t3:=λd os=>cell_on c3 (below_regrown V d os)
     have t4:=λd os=>cell_on c4 (below_regrown V d os)
     have t5:=λd os=>cell_on c5 (below_regrown V d os)
     have t6:=λd os=>cell_on c6 (below_regrown V d os)
     have t7:=λd os=>cell_on c7 (below_regrown V d os)
     have t8:=λd os=>cell_on c8 (below_regrown V d os)
     have t9:=λd os=>cell_on c9 (below_regrown V d os)
     have t10:=λd os=>cell_on c10 (below_regrown V d os)
     have t11:=λd os=>cell_on c11 (below_regrown V d os)
     clear x0 x1 x2 x3 x4 x5 x6 x7 x8 x9 x10 x11 x12 x13 x14 c0 c1 c2 c3 c4 c5 c6 c7 c8 c9 c10 c11
     obtain⟨a1,f1⟩|⟨a1,g1,f1⟩|⟨a1,g1,f1⟩:=fit3 p.s t.s
     ·obtain⟨a2,f2⟩|⟨a2,g2,f2⟩|⟨a2,g2,f2⟩:=fit3 p.p t.p
      ·obtain⟨a3,f3⟩|⟨a3,g3,f3⟩|⟨a3,g3,f3⟩:=fit3 p.o t.o
       ·simp only[f1,f2,f3,Bool.and_true,Bool.and_false,Bool.true_and,Bool.false_and,if_true,Bool.false_eq_true,if_false,Nat.add_zero]at hsn
        have HSN:=Lib.hid hsn.out
        clear hsn
        go_wp2
        refine wrq ?_;(repeat (any_goals (go_big_quiet_step ((fail)))));all_goals (refine wqn ?_;intro d9 os9)
        have kq:=below_regrown V d9 os9
        clear p0 p1 p2 p3 p4 p5 p6 p7 p8 p9 p10 p11 p12 p13 p14 t0 t1 t2 t3 t4 t5 t6 t7 t8 t9 t10 t11
        generalize Sort.grow (redrawn V d9) os9=w3 at *
        go_wp2
        exact⟨⟨j+1,by omega,by go_num,by rw[HSN.out]<;>go_num,below_tr HBJ.out kq⟩,by simp[intOf];omega⟩
       ·simp only[f1,f2,f3,Bool.and_true,Bool.and_false,Bool.true_and,Bool.false_and,if_true,Bool.false_eq_true,if_false,Nat.add_zero]at hsn
        have HSN:=Lib.hid hsn.out
        clear hsn
        go_wp2
        refine wrq ?_;(repeat (any_goals (go_big_quiet_step ((fail)))));all_goals (refine wqn ?_;intro d9 os9)
        have kq:=below_regrown V d9 os9
        clear p0 p1 p2 p3 p4 p5 p6 p7 p8 p9 p10 p11 p12 p13 p14 t0 t1 t2 t3 t4 t5 t6 t7 t8 t9 t10 t11
        generalize Sort.grow (redrawn V d9) os9=w3 at *
        go_wp2
        exact⟨⟨j+1,by omega,by go_num,by rw[HSN.out]<;>go_num,below_tr HBJ.out kq⟩,by simp[intOf];omega⟩
       ·simp only[f1,f2,f3,Bool.and_true,Bool.and_false,Bool.true_and,Bool.false_and,if_true,Bool.false_eq_true,if_false,Nat.add_zero]at hsn
        have HSN:=Lib.hid hsn.out
        clear hsn
        go_wp2
        refine wrq ?_;(repeat (any_goals (go_big_quiet_step ((fail)))));all_goals (refine wqn ?_;intro d9 os9)
        have kq:=below_regrown V d9 os9
        clear p0 p1 p2 p3 p4 p5 p6 p7 p8 p9 p10 p11 p12 p13 p14 t0 t1 t2 t3 t4 t5 t6 t7 t8 t9 t10 t11
        generalize Sort.grow (redrawn V d9) os9=w3 at *
        go_wp2
        exact⟨⟨j+1,by omega,by go_num,by rw[HSN.out]<;>go_num,below_tr HBJ.out kq⟩,by simp[intOf];omega⟩
      ·obtain⟨a3,f3⟩|⟨a3,g3,f3⟩|⟨a3,g3,f3⟩:=fit3 p.o t.o
       ·simp only[f1,f2,f3,Bool.and_true,Bool.and_false,Bool.true_and,Bool.false_and,if_true,Bool.false_eq_true,if_false,Nat.add_zero]at hsn
        have HSN:=Lib.hid hsn.out
        clear hsn
        go_wp2
        refine wrq ?_;(repeat (any_goals (go_big_quiet_step ((fail)))));all_goals (refine wqn ?_;intro d9 os9)
        have kq:=below_regrown V d9 os9
        clear p0 p1 p2 p3 p4 p5 p6 p7 p8 p9 p10 p11 p12 p13 p14 t0 t1 t2 t3 t4 t5 t6 t7 t8 t9 t10 t11
        generalize Sort.grow (redrawn V d9) os9=w3 at *
        go_wp2
        exact⟨⟨j+1,by omega,by go_num,by rw[HSN.out]<;>go_num,below_tr HBJ.out kq⟩,by simp[intOf];omega⟩
       ·simp only[f1,f2,f3,Bool.and_true,Bool.and_false,Bool.true_and,Bool.false_and,if_true,Bool.false_eq_true,if_false,Nat.add_zero]at hsn
        have HSN:=Lib.hid hsn.out
        clear hsn
        go_wp2
        refine wrq ?_;(repeat (any_goals (go_big_quiet_step ((fail)))));all_goals (refine wqn ?_;intro d9 os9)
        have kq:=below_regrown V d9 os9
        clear p0 p1 p2 p3 p4 p5 p6 p7 p8 p9 p10 p11 p12 p13 p14 t0 t1 t2 t3 t4 t5 t6 t7 t8 t9 t10 t11
        generalize Sort.grow (redrawn V d9) os9=w3 at *
        go_wp2
        exact⟨⟨j+1,by omega,by go_num,by rw[HSN.out]<;>go_num,below_tr HBJ.out kq⟩,by simp[intOf];omega⟩
       ·simp only[f1,f2,f3,Bool.and_true,Bool.and_false,Bool.true_and,Bool.false_and,if_true,Bool.false_eq_true,if_false,Nat.add_zero]at hsn
        have HSN:=Lib.hid hsn.out
        clear hsn
        go_wp2
        refine wrq ?_;(repeat (any_goals (go_big_quiet_step ((fail)))));all_goals (refine wqn ?_;intro d9 os9)
        have kq:=below_regrown V d9 os9
        clear p0 p1 p2 p3 p4 p5 p6 p7 p8 p9 p10 p11 p12 p13 p14 t0 t1 t2 t3 t4 t5 t6 t7 t8 t9 t10 t11
        generalize Sort.grow (redrawn V d9) os9=w3 at *
        go_wp2
        exact⟨⟨j+1,by omega,by go_num,by rw[HSN.out]<;>go_num,below_tr HBJ.out kq⟩,by simp[intOf];omega⟩
      ·simp only[f1,f2,Bool.and_true,Bool.and_false,Bool.true_and,Bool.false_and,if_true,Bool.false_eq_true,if_false,Nat.add_zero]at hsn
       have HSN:=Lib.hid hsn.out
       clear hsn
       go_wp2
       refine wrq ?_;(repeat (any_goals (go_big_quiet_step ((fail)))));all_goals (refine wqn ?_;intro d9 os9)
       have kq:=below_regrown V d9 os9
       clear p0 p1 p2 p3 p4 p5 p6 p7 p8 p9 p10 p11 p12 p13 p14 t0 t1 t2 t3 t4 t5 t6 t7 t8 t9 t10 t11
       generalize Sort.grow (redrawn V d9) os9=w3 at *
       go_wp2
       exact⟨⟨j+1,by omega,by go_num,by rw[HSN.out]<;>go_num,below_tr HBJ.out kq⟩,by simp[intOf];omega⟩
     ·obtain⟨a2,f2⟩|⟨a2,g2,f2⟩|⟨a2,g2,f2⟩:=fit3 p.p t.p
      ·obtain⟨a3,f3⟩|⟨a3,g3,f3⟩|⟨a3,g3,f3⟩:=fit3 p.o t.o
       ·simp only[f1,f2,f3,Bool.and_true,Bool.and_false,Bool.true_and,Bool.false_and,if_true,Bool.false_eq_true,if_false,Nat.add_zero]at hsn
        have HSN:=Lib.hid hsn.out
        clear hsn
        go_wp2
        refine wrq ?_;(repeat (any_goals (go_big_quiet_step ((fail)))));all_goals (refine wqn ?_;intro d9 os9)
        have kq:=below_regrown V d9 os9
        clear p0 p1 p2 p3 p4 p5 p6 p7 p8 p9 p10 p11 p12 p13 p14 t0 t1 t2 t3 t4 t5 t6 t7 t8 t9 t10 t11
        generalize Sort.grow (redrawn V d9) os9=w3 at *
        go_wp2
        exact⟨⟨j+1,by omega,by go_num,by rw[HSN.out]<;>go_num,below_tr HBJ.out kq⟩,by simp[intOf];omega⟩
       ·simp only[f1,f2,f3,Bool.and_true,Bool.and_false,Bool.true_and,Bool.false_and,if_true,Bool.false_eq_true,if_false,Nat.add_zero]at hsn
        have HSN:=Lib.hid hsn.out
        clear hsn
        go_wp2
        refine wrq ?_;(repeat (any_goals (go_big_quiet_step ((fail)))));all_goals (refine wqn ?_;intro d9 os9)
        have kq:=below_regrown V d9 os9
        clear p0 p1 p2 p3 p4 p5 p6 p7 p8 p9 p10 p11 p12 p13 p14 t0 t1 t2 t3 t4 t5 t6 t7 t8 t9 t10 t11
        generalize Sort.grow (redrawn V d9) os9=w3 at *
        go_wp2
        exact⟨⟨j+1,by omega,by go_num,by rw[HSN.out]<;>go_num,below_tr HBJ.out kq⟩,by simp[intOf];omega⟩
       ·simp only[f1,f2,f3,Bool.and_true,Bool.and_false,Bool.true_and,Bool.false_and,if_true,Bool.false_eq_true,if_false,Nat.add_zero]at hsn
        have HSN:=Lib.hid hsn.out
        clear hsn
        go_wp2
        refine wrq ?_;(repeat (any_goals (go_big_quiet_step ((fail)))));all_goals (refine wqn ?_;intro d9 os9)
        have kq:=below_regrown V d9 os9
        clear p0 p1 p2 p3 p4 p5 p6 p7 p8 p9 p10 p11 p12 p13 p14 t0 t1 t2 t3 t4 t5 t6 t7 t8 t9 t10 t11
        generalize Sort.grow (redrawn V d9) os9=w3 at *
        go_wp2
        exact⟨⟨j+1,by omega,by go_num,by rw[HSN.out]<;>go_num,below_tr HBJ.out kq⟩,by simp[intOf];omega⟩
      ·obtain⟨a3,f3⟩|⟨a3,g3,f3⟩|⟨a3,g3,f3⟩:=fit3 p.o t.o
       ·simp only[f1,f2,f3,Bool.and_true,Bool.and_false,Bool.true_and,Bool.false_and,if_true,Bool.false_eq_true,if_false,Nat.add_zero]at hsn
        have HSN:=Lib.hid hsn.out
        clear hsn
        go_wp2
        refine wrq ?_;(repeat (any_goals (go_big_quiet_step ((fail)))));all_goals (refine wqn ?_;intro d9 os9)
        have kq:=below_regrown V d9 os9
        clear p0 p1 p2 p3 p4 p5 p6 p7 p8 p9 p10 p11 p12 p13 p14 t0 t1 t2 t3 t4 t5 t6 t7 t8 t9 t10 t11
        generalize Sort.grow (redrawn V d9) os9=w3 at *
        go_wp2
        exact⟨⟨j+1,by omega,by go_num,by rw[HSN.out]<;>go_num,below_tr HBJ.out kq⟩,by simp[intOf];omega⟩
       ·simp only[f1,f2,f3,Bool.and_true,Bool.and_false,Bool.true_and,Bool.false_and,if_true,Bool.false_eq_true,if_false,Nat.add_zero]at hsn
        have HSN:=Lib.hid hsn.out
        clear hsn
        go_wp2
        refine wrq ?_;(repeat (any_goals (go_big_quiet_step ((fail)))));all_goals (refine wqn ?_;intro d9 os9)
        have kq:=below_regrown V d9 os9
        clear p0 p1 p2 p3 p4 p5 p6 p7 p8 p9 p10 p11 p12 p13 p14 t0 t1 t2 t3 t4 t5 t6 t7 t8 t9 t10 t11
        generalize Sort.grow (redrawn V d9) os9=w3 at *
        go_wp2
        exact⟨⟨j+1,by omega,by go_num,by rw[HSN.out]<;>go_num,below_tr HBJ.out kq⟩,by simp[intOf];omega⟩
       ·simp only[f1,f2,f3,Bool.and_true,Bool.and_false,Bool.true_and,Bool.false_and,if_true,Bool.false_eq_true,if_false,Nat.add_zero]at hsn
        have HSN:=Lib.hid hsn.out
        clear hsn
        go_wp2
        refine wrq ?_;(repeat (any_goals (go_big_quiet_step ((fail)))));all_goals (refine wqn ?_;intro d9 os9)
        have kq:=below_regrown V d9 os9
        clear p0 p1 p2 p3 p4 p5 p6 p7 p8 p9 p10 p11 p12 p13 p14 t0 t1 t2 t3 t4 t5 t6 t7 t8 t9 t10 t11
        generalize Sort.grow (redrawn V d9) os9=w3 at *
        go_wp2
        exact⟨⟨j+1,by omega,by go_num,by rw[HSN.out]<;>go_num,below_tr HBJ.out kq⟩,by simp[intOf];omega⟩
      ·simp only[f1,f2,Bool.and_true,Bool.and_false,Bool.true_and,Bool.false_and,if_true,Bool.false_eq_true,if_false,Nat.add_zero]at hsn
       have HSN:=Lib.hid hsn.out
       clear hsn
       go_wp2
       refine wrq ?_;(repeat (any_goals (go_big_quiet_step ((fail)))));all_goals (refine wqn ?_;intro d9 os9)
       have kq:=below_regrown V d9 os9
       clear p0 p1 p2 p3 p4 p5 p6 p7 p8 p9 p10 p11 p12 p13 p14 t0 t1 t2 t3 t4 t5 t6 t7 t8 t9 t10 t11
       generalize Sort.grow (redrawn V d9) os9=w3 at *
       go_wp2
       exact⟨⟨j+1,by omega,by go_num,by rw[HSN.out]<;>go_num,below_tr HBJ.out kq⟩,by simp[intOf];omega⟩
     ·simp only[f1,Bool.and_true,Bool.and_false,Bool.true_and,Bool.false_and,if_true,Bool.false_eq_true,if_false,Nat.add_zero]at hsn
      have HSN:=Lib.hid hsn.out
      clear hsn
      go_wp2
      refine wrq ?_;(repeat (any_goals (go_big_quiet_step ((fail)))));all_goals (refine wqn ?_;intro d9 os9)
      have kq:=below_regrown V d9 os9
      clear p0 p1 p2 p3 p4 p5 p6 p7 p8 p9 p10 p11 p12 p13 p14 t0 t1 t2 t3 t4 t5 t6 t7 t8 t9 t10 t11
      generalize Sort.grow (redrawn V d9) os9=w3 at *
      go_wp2
      exact⟨⟨j+1,by omega,by go_num,by rw[HSN.out]<;>go_num,below_tr HBJ.out kq⟩,by simp[intOf];omega⟩
    ·rw[List.take_of_length_le (by omega)]at hcl ⊢
     have hq:=HX.out.1
     have hw:wrap64 ((m:Int)*max (cntP set p:Int) 1)=((m*max (cntP set p) 1:Nat):Int):=by
      have hM:m*max (cntP set p) 1<=1500*1000:=Nat.mul_le_mul hm (by omega)
      rw[show (m:Int)*max (cntP set p:Int) 1=((m*max (cntP set p) 1:Nat):Int) by rw[Int.natCast_mul];congr 1;omega]
      generalize m*max (cntP set p) 1=M at *
      exact IntWalk.wrap64_in _ ⟨by omega,by omega⟩
     generalize m*max (cntP set p) 1=M at *
     generalize cntP set p=q at *
     have HBj:=Lib.hid hBj
     clear hBj hcl
     by_cases hbig:1500<M
     ·rw[if_pos hbig]at hq
      subst hq
      go_wp2
      go_ret
      exact⟨rfl,below_tr HX.out.2.2.1 HBj.out⟩
     ·rw[if_neg hbig]at hq
      go_wp2
      exact⟨⟨k+1,M,by omega,by go_num,by rw[hw],by omega,hq,by have:=below_tr HX.out.2.2.1 HBj.out;exact this⟩,by simp[intOf];omega⟩
  ·rw[List.drop_of_length_le (by omega),heavyP]at hs
   subst hs
   go_wp2
   go_ret
   exact⟨rfl,hB⟩
open Mt Mp
theorem SolsR.plain {set:List Tp} {pats:List Pat} {w w':World} {e:Ending} (h:SolsR set pats w e w') {vars:List ByteArray} {rows:List (List Tm)} {nv N:Nat} (h1:varsN pats=vars) (h2:solP set pats=rows) (h3:vars.length=nv) (h4:rows.length=N) :
  ∃Av cv Ar cr,e=.returned (.tuple #[.slice Av nv cv,.slice Ar N cr])/\Rd w' Av (vars.map Value.string)/\RdRs w' Ar rows/\Below w.heap.size w w':=by
 subst h1 h2 h3 h4
 obtain⟨vv,vr,rfl,ho,hr,hb⟩:=h
 obtain⟨Av,cv,rfl,_,h5⟩:=own_slice ho
 obtain⟨Ar,cr,rfl,_,h6⟩:=hr.rd
 exact⟨Av,cv,Ar,cr,rfl,h5,h6,hb⟩
theorem sound_facts {set:List Tp} {pats:List Pat} {vars:List ByteArray} {rows:List (List Tm)} (h1:varsN pats=vars) (h2:solP set pats=rows) (hz:∀t∈set,smallP3 t) (hp:pats.length<=1000) :
  vars.length<=1000000/\(∀r∈rows,r.length=vars.length/\smallRow r)/\(∀i a b,rows[i]?=some a->rows[i+1]?=some b->cmpRow a b<0) /\
  ∀r∈rows,∀p∈pats,(⟨valueP vars r p.s,valueP vars r p.p,valueP vars r p.o⟩:Tp)∈set:=by
 subst h1 h2
 have hl:(varsN pats).length<=1000000:=by have:=varsN_len pats;omega
 refine⟨hl,λr hr=>⟨solP_row hr,by rw[solP_row hr];exact hl,λv hv=>?_⟩,λi a b ha hb=>solP_rise ha hb,λr hr p hp=>sol_there hr hp⟩
 obtain⟨t,ht,hi⟩:=solP_val hr hv
 rcases hi with rfl|rfl|rfl
 ·exact(hz t ht).1
 ·exact(hz t ht).2.1
 ·exact(hz t ht).2.2
def Part26 (n:Nat) (x:ExT n) (deep:Int) (w:World) (e:Ending) (w':World):Prop:=∃r:Int,e=.returned (.int .i64 r)/\1<=r/\r<=(62-deep)*201/\(r<=200->((preE n x).length:Int)<=r)/\Below w.heap.size w w'
def PartL26 (n:Nat) (kids:List (ExT n)) (deep:Int) (W:World) (nv i:Value) (wr:World):Prop:=
 ∃(j:Nat) (r:Int),j<=kids.length/\i=.int .i64 j/\nv=.int .i64 r/\1<=r/\r<=(62-deep)*201/\(r<=200->1+(((kids.take j).flatMap (preE n)).length:Int)<=r)/\Below W.heap.size W wr
theorem mlPart (n:Nat):∀(x:ExT n) (cs:List Value) (deep:Int) (w:World),0<=deep->deep<=61->RdE n w cs x->szE n x ->
  Calls Tryz.prog 30 #[.agg cs.toArray,.int .i64 deep] w (Part26 n x deep w):=by
 induction n with
 | zero=>intro x cs deep w _ _ h;exact h.elim
 | succ n ih =>
  rintro⟨k,s,t,kids⟩ cs deep w hd0 hd1 ⟨A,c,rfl,hcap,hk⟩ ⟨hs1,hs2,hkl,hkz⟩
  have hkl':(kids.length:Int)<=1353245080300:=by omega
  have hpre:(preE (n+1) (k,s,t,kids)).length=1+(kids.flatMap (preE n)).length:=by rw[preE,List.length_cons];omega
  have Hpre:=Lib.hid hpre
  clear hpre
  by_cases h60:60<deep
  ·clear ih
   go_enter Tryz.func30,Tryz.ntmps30
   go_wp2
   go_ret
   exact⟨201,rfl,by omega,by omega,λh=>by omega,blw⟩
  ·go_enter Tryz.func30,Tryz.ntmps30
   go_wp2
   obtain⟨W,hW⟩:∃W:World,w.alloc (.cells #[.int .i64 k,.string s,.int .i64 t.k,.string t.x,.string t.l,.string t.y,.slice A kids.length c] 82)=W:=⟨_,rfl⟩
   have hB0:Below w.heap.size w W:=by rw[←hW];exact blw
   have hz:W.heap.size=w.heap.size+1:=by rw[←hW];simp
   have hc6:W.cell? ⟨w.heap.size,6,none⟩=some (.slice A kids.length c):=by rw[←hW,World.cell?,heap_alloc_new];rfl
   have hkW:=RdEs.later hk hB0
   simp only[hW]
   have HW:=Lib.hid hW
   clear hW hk
   go_loopw [5,6] (PartL26 n kids deep W) (λ_ i _=>kids.length-(intOf i).toNat)
   case atStart=>exact⟨0,1,by omega,rfl,rfl,by omega,by omega,λ_=>by simp,Below.refl _ _⟩
   case round =>
    obtain⟨j,r,hj,rfl,rfl,hr1,hr2,hr6,hB⟩:=hrel
    have Hr6:=Lib.hid hr6
    have hc:=hB.cell (p:=⟨w.heap.size,6,none⟩) (by simp;omega)
    rw[hc6]at hc
    have Hz:=Lib.hid hz
    clear hz hc6 hr6
    by_cases hlt:j<kids.length
    ·by_cases hr3:r<=200
     ·obtain⟨y,hy⟩:∃y,kids[j]?=some y:=⟨_,List.getElem?_eq_getElem hlt⟩
      have hzy:=hkz y (List.mem_of_getElem? hy)
      obtain⟨g,o,u0,u1,u2,u3,u4,u5,u6,rfl,hR,c0,c1,c2,c3,c4,c5,c6⟩:=(RdEs.later hkW hB).at7 hy
      have Hft:=Lib.hid (flat_take hy (preE n))
      clear hy
      have hih:=ih y [u0,u1,u2,u3,u4,u5,u6] (deep+1) wr (by omega) (by omega) hR hzy
      clear ih
      go_wp2_with (refine hih.mono ?_;rintro e w2 ⟨r2,rfl,hr4,hr5,hr7,hB2⟩)
      go_roundw
      case rel=>exact⟨j+1,r+r2,by omega,by go_num,rfl,by omega,by omega,λh=>by
       have h1:=Hr6.out hr3
       have h2:=hr7 (by omega)
       have h3:=congrArg List.length Hft.out
       rw[List.length_append]at h3
       omega,below_tr hB hB2⟩
      case measure=>simp[intOf];omega
     ·clear ih
      go_wp2
      go_ret
      exact⟨r,rfl,by omega,by omega,λh=>by omega,below_tr hB0 hB⟩
    ·clear ih
     have Hk2:Hid (kids.take j=kids):=List.take_of_length_le (by omega)
     go_wp2
     go_ret
     exact⟨r,rfl,by omega,by omega,λh=>by
      have h1:=Hr6.out h
      rw[Hk2.out]at h1
      rw[Hpre.out]
      omega,below_tr hB0 hB⟩
def GreatB26 {n:Nat} (q:Qy n) (b:Bool):Prop:=b=false->allQ q<=200
def Great26 {n:Nat} (q:Qy n) (W:World) (nv i:Value) (wr:World):Prop:=
 ∃(k:Nat) (r:Int),k<=q.fils.length/\i=.int .i64 k/\nv=.int .i64 r/\0<=r/\r<=3000000000000000/\(r<=200->(cntQ q:Int)+((q.fils.take k).flatMap (preE n)).length<=r)/\Below W.heap.size W wr
theorem mlGreat (n:Nat) (q:Qy n) (a1 a2 a3 a4:Option Addr) (c1 c2 c3 c4:Nat) (w:World) (hr:RdEs n w a3 q.fils) (hz:szL q) :
  Calls Tryz.prog 14 #[.agg #[.bool q.ask,.bool q.dist,.slice a1 q.vars.length c1,.slice a2 q.pats.length c2,.slice a3 q.fils.length c3,.slice a4 q.ord.length c4,.int .i64 q.lim,.int .i64 q.off]] w (SomeZ (GreatB26 q) w):=by
 obtain⟨z1,z2,z3,z4,z5⟩:=hz
 have z1':(q.vars.length:Int)<=281474976710656:=by omega
 have z2':(q.pats.length:Int)<=281474976710656:=by omega
 have z3':(q.fils.length:Int)<=1353245080300:=by omega
 have z4':(q.ord.length:Int)<=281474976710656:=by omega
 have hcnt:(cntQ q:Int)=q.vars.length+q.pats.length+q.ord.length+q.fils.length:=by unfold cntQ;omega
 have Hcnt:=Lib.hid hcnt
 obtain⟨W,hW⟩:∃W:World,w.alloc (.cells #[.bool q.ask,.bool q.dist,.slice a1 q.vars.length c1,.slice a2 q.pats.length c2,.slice a3 q.fils.length c3,.slice a4 q.ord.length c4,.int .i64 q.lim,.int .i64 q.off] 50)=W:=⟨_,rfl⟩
 have hB0:Below w.heap.size w W:=by rw[←hW];exact blw
 have b0:W.cell? ⟨w.heap.size,0,none⟩=some (.bool q.ask):=by rw[←hW,World.cell?,heap_alloc_new];rfl
 have b1:W.cell? ⟨w.heap.size,1,none⟩=some (.bool q.dist):=by rw[←hW,World.cell?,heap_alloc_new];rfl
 have b2:W.cell? ⟨w.heap.size,2,none⟩=some (.slice a1 q.vars.length c1):=by rw[←hW,World.cell?,heap_alloc_new];rfl
 have b3:W.cell? ⟨w.heap.size,3,none⟩=some (.slice a2 q.pats.length c2):=by rw[←hW,World.cell?,heap_alloc_new];rfl
 have b4:W.cell? ⟨w.heap.size,4,none⟩=some (.slice a3 q.fils.length c3):=by rw[←hW,World.cell?,heap_alloc_new];rfl
 have b5:W.cell? ⟨w.heap.size,5,none⟩=some (.slice a4 q.ord.length c4):=by rw[←hW,World.cell?,heap_alloc_new];rfl
 have b6:W.cell? ⟨w.heap.size,6,none⟩=some (.int .i64 q.lim):=by rw[←hW,World.cell?,heap_alloc_new];rfl
 have b7:W.cell? ⟨w.heap.size,7,none⟩=some (.int .i64 q.off):=by rw[←hW,World.cell?,heap_alloc_new];rfl
 have hkW:=RdEs.later hr hB0
 have HW:=Lib.hid hW
 have HB0:=Lib.hid hB0
 have hzw:w.heap.size<W.heap.size:=cell_lt b0
 clear hW hcnt hr hB0
 go_enter Tryz.func14,Tryz.ntmps14
 go_wp2_with fail
 simp only[HW.out]
 go_wp2
 go_loopw [3,4] (Great26 q W) (λ_ i _=>q.fils.length-(intOf i).toNat)
 case atStart=>exact⟨0,_,by omega,rfl,rfl,by omega,by omega,λ_=>by
  have h2:=Hcnt.out
  simp only[List.take_zero,List.flatMap_nil,List.length_nil]
  omega,Below.refl _ _⟩
 case round =>
  obtain⟨k,r',hk,rfl,rfl,hr1',hr2',hr6',hB1⟩:=hrel
  have Hr6':=Lib.hid hr6'
  clear hr6'
  have b4':=cell_on b4 hB1
  have HB:=Lib.hid (below_tr HB0.out hB1)
  have hzw':=Nat.lt_of_lt_of_le hzw hB1.size
  clear b0 b1 b2 b3 b4 b5 b6 b7
  by_cases hkl:k<q.fils.length
  ·by_cases hr4:r'<=200
   ·obtain⟨y,hy⟩:∃y,q.fils[k]?=some y:=⟨_,List.getElem?_eq_getElem hkl⟩
    have hzy:=z5 y (List.mem_of_getElem? hy)
    obtain⟨g1,o1,u0,u1,u2,u3,u4,u5,u6,rfl,hR,x0,x1,x2,x3,x4,x5,x6⟩:=(RdEs.later hkW hB1).at7 hy
    have Hft:=Lib.hid (flat_take hy (preE n))
    clear hy
    have hih:=mlPart n y [u0,u1,u2,u3,u4,u5,u6] 0 wr (by omega) (by omega) hR hzy
    have HB1:=Lib.hid hB1
    clear hB1 hzy
    go_wp2_with (refine hih.mono ?_;rintro e w2 ⟨r2,rfl,hr5,hr7,hr8,hB2⟩)
    go_roundw
    case rel=>exact⟨k+1,r'+r2,by omega,by go_num,rfl,by omega,by omega,λh=>by
     have h1:=Hr6'.out hr4
     have h2:=hr8 (by omega)
     have h3:=congrArg List.length Hft.out
     rw[List.length_append]at h3
     omega,below_tr HB1.out hB2⟩
    case measure=>simp[intOf];omega
   ·clear hB1
    go_wp2
    go_ret
    exact⟨true,by go_num,λh=>(by cases h),HB.out⟩
  ·have Hk2:Hid (q.fils.take k=q.fils):=List.take_of_length_le (by omega)
   clear hB1
   by_cases hr4:r'<=200
   ·go_wp2
    all_goals
     go_ret
     exact⟨false,by go_num,λ_=>by
      have h1:=Hr6'.out hr4
      rw[Hk2.out]at h1
      have h2:allQ q=cntQ q+(q.fils.flatMap (preE n)).length:=rfl
      omega,HB.out⟩
   ·go_wp2
    all_goals
     go_ret
     exact⟨true,by go_num,λh=>(by cases h),HB.out⟩
end Go.Proofs.YtoaemihcbmlkgaaGreatDoor
