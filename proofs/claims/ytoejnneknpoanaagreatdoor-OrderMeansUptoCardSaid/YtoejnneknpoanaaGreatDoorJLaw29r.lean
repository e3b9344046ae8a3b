/- Layer 29's law, walked: how great a table and a query are. P -/
import Derived.Test.YtoejnneknpoanaaGreatDoorJKept3
set_option maxHeartbeats 4000000
set_option maxRecDepth 20000
namespace Go.Proofs.YtoejnneknpoanaaGreatDoor
open Go Go.RowKit Um Fm Lx Tx Om Mp
def Part29 (deep:Int) (w:World) (e:Ending) (w':World):Prop:=∃r:Int,e=.returned (.int .i64 r)/\1<=r/\r<=(62-deep)*201/\Below w.heap.size w w'
theorem law29Part (n:Nat):∀(x:ExT n) (cs:List Value) (deep:Int) (w:World),0<=deep->deep<=61->RdE n w cs x->szE n x ->
  Calls Tryz.prog 43 #[.agg cs.toArray,.int .i64 deep] w (Part29 deep w):=by
 induction n with
 | zero=>intro x cs deep w _ _ h;exact h.elim
 | succ n ih =>
  rintro⟨k,s,t,kids⟩ cs deep w hd0 hd1 ⟨A,c,rfl,hcap,hk⟩ ⟨hs1,hs2,hkl,hkz⟩
  have hkl':(kids.length:Int)<=1353245080300:=by omega
  by_cases h60:60<deep
  ·clear ih
   go_enter Tryz.func43,Tryz.ntmps43
   go_wp2
   go_ret
   exact⟨201,rfl,by omega,by omega,blw⟩
  ·go_enter Tryz.func43,Tryz.ntmps43
   go_wp2
   obtain⟨W,hW⟩:∃W:World,w.alloc (.cells #[.int .i64 k,.string s,.int .i64 t.k,.string t.x,.string t.l,.string t.y,.slice A kids.length c] 78)=W:=⟨_,rfl⟩
   have hB0:Below w.heap.size w W:=by rw[←hW];exact blw
   have hz:W.heap.size=w.heap.size+1:=by rw[←hW];simp
   have hc6:W.cell? ⟨w.heap.size,6,none⟩=some (.slice A kids.length c):=by rw[←hW,World.cell?,heap_alloc_new];rfl
   have hkW:=RdEs.later hk hB0
   simp only[hW]
   have HW:=Lib.hid hW
   clear hW hk
   go_loopw [5,6] (λnv i wr=>∃(j:Nat) (r:Int),j<=kids.length/\i=.int .i64 j/\nv=.int .i64 r/\1<=r/\r<=(62-deep)*201/\Below W.heap.size W wr) (λ_ i _=>kids.length-(intOf i).toNat)
   case atStart=>exact⟨0,1,by omega,rfl,rfl,by omega,by omega,Below.refl _ _⟩
   case round =>
    obtain⟨j,r,hj,rfl,rfl,hr1,hr2,hB⟩:=hrel
    have hc:=hB.cell (p:=⟨w.heap.size,6,none⟩) (by simp;omega)
    rw[hc6]at hc
    have Hz:=Lib.hid hz
    clear hz hc6
    by_cases hlt:j<kids.length
    ·by_cases hr3:r<=200
     ·obtain⟨y,hy⟩:∃y,kids[j]?=some y:=⟨_,List.getElem?_eq_getElem hlt⟩
      have hzy:=hkz y (List.mem_of_getElem? hy)
      obtain⟨g,o,u0,u1,u2,u3,u4,u5,u6,rfl,hR,c0,c1,c2,c3,c4,c5,c6⟩:=(RdEs.later hkW hB).at7 hy
      clear hy
      have hih:=ih y [u0,u1,u2,u3,u4,u5,u6] (deep+1) wr (by omega) (by omega) hR hzy
      clear ih
      go_wp2_with (refine hih.mono ?_;rintro e w2 ⟨r2,rfl,hr4,hr5,hB2⟩)
      go_roundw
      case rel=>exact⟨j+1,r+r2,by omega,by go_num,rfl,by omega,by omega,below_tr hB hB2⟩
      case measure=>simp[intOf];omega
     ·clear ih
      go_wp2
      go_ret
      exact⟨r,rfl,by omega,by omega,below_tr hB0 hB⟩
    ·clear ih
     go_wp2
     go_ret
     exact⟨r,rfl,by omega,by omega,below_tr hB0 hB⟩
def FewO {n:Nat} (vars:List ByteArray) (rows:List (List Tm)) (q:Qy n):Prop:=vars.length<=200/\rows.length<=200/\q.vars.length<=200/\q.ord.length<=200/\q.fils.length<=200/\∀r∈rows,r.length<=200
theorem law29Great (n:Nat) (q:Qy n) (vars:List ByteArray) (rows:List (List Tm)) (A B:Option Addr) (nv c m d:Nat) (a1 a2 a3 a4:Option Addr) (c1 c2 c3 c4:Nat) (w:World) (hnv:vars.length=nv) (hm:rows.length=m) (hlv:nv<=1048576) (hlm:m<=1048576) (hzr:∀r∈rows,r.length<=1048576) (hrs:RdRs w B rows) (hr:RdEs n w a3 q.fils) (z1:q.vars.length<=1048576) (z3:q.fils.length<=1048576) (z4:q.ord.length<=1048576) (z5:∀x∈q.fils,szE n x) :
  Calls Tryz.prog 8 #[.agg #[.slice A nv c,.slice B m d],.agg #[.bool q.ask,.bool q.dist,.slice a1 q.vars.length c1,.slice a2 q.pats.length c2,.slice a3 q.fils.length c3,.slice a4 q.ord.length c4,.int .i64 q.lim,.int .i64 q.off]] w (SomeZ (λb=>b=false->FewO vars rows q) w):=by
 obtain⟨W,hW⟩:∃W:World,(w.alloc (.cells #[.slice A nv c,.slice B m d] 25)).alloc (.cells #[.bool q.ask,.bool q.dist,.slice a1 q.vars.length c1,.slice a2 q.pats.length c2,.slice a3 q.fils.length c3,.slice a4 q.ord.length c4,.int .i64 q.lim,.int .i64 q.off] 30)=W:=⟨_,rfl⟩
 have hB0:Below w.heap.size w W:=by rw[←hW];exact blw
 have k0:W.heap[w.heap.size]?=some (Obj.cells #[.slice A nv c,.slice B m d] 25 (0,0)):=by rw[←hW];exact heap_two_1 _ _ _
 have k1:W.heap[w.heap.size+1]?=some (Obj.cells #[.bool q.ask,.bool q.dist,.slice a1 q.vars.length c1,.slice a2 q.pats.length c2,.slice a3 q.fils.length c3,.slice a4 q.ord.length c4,.int .i64 q.lim,.int .i64 q.off] 30 (0,0)):=by rw[←hW];exact heap_two_2 _ _ _
 have t0:W.cell? ⟨w.heap.size,0,none⟩=some (.slice A nv c):=by rw[World.cell?,k0];rfl
 have t1:W.cell? ⟨w.heap.size,1,none⟩=some (.slice B m d):=by rw[World.cell?,k0];rfl
 have b0:W.cell? ⟨w.heap.size+1,0,none⟩=some (.bool q.ask):=by rw[World.cell?,k1];rfl
 have b1:W.cell? ⟨w.heap.size+1,1,none⟩=some (.bool q.dist):=by rw[World.cell?,k1];rfl
 have b2:W.cell? ⟨w.heap.size+1,2,none⟩=some (.slice a1 q.vars.length c1):=by rw[World.cell?,k1];rfl
 have b3:W.cell? ⟨w.heap.size+1,3,none⟩=some (.slice a2 q.pats.length c2):=by rw[World.cell?,k1];rfl
 have b4:W.cell? ⟨w.heap.size+1,4,none⟩=some (.slice a3 q.fils.length c3):=by rw[World.cell?,k1];rfl
 have b5:W.cell? ⟨w.heap.size+1,5,none⟩=some (.slice a4 q.ord.length c4):=by rw[World.cell?,k1];rfl
 have b6:W.cell? ⟨w.heap.size+1,6,none⟩=some (.int .i64 q.lim):=by rw[World.cell?,k1];rfl
 have b7:W.cell? ⟨w.heap.size+1,7,none⟩=some (.int .i64 q.off):=by rw[World.cell?,k1];rfl
 obtain⟨nq,hnq⟩:∃k,q.vars.length=k:=⟨_,rfl⟩
 obtain⟨nf,hnf⟩:∃k,q.fils.length=k:=⟨_,rfl⟩
 obtain⟨no,hno⟩:∃k,q.ord.length=k:=⟨_,rfl⟩
 have H:=Lib.hid (And.intro hnv (And.intro hm (And.intro hzr (And.intro (hrs.later hB0) (And.intro (RdEs.later hr hB0) (And.intro hnq (And.intro hnf (And.intro hno (And.intro z5 hB0)))))))))
 rw[hnq]at z1 b2
 rw[hnf]at z3 b4
 rw[hno]at z4 b5
 have HW:=Lib.hid hW
 rw[hnq,hnf,hno]at HW
 rw[hnq,hnf,hno]
 clear hW hB0 hnv hm hzr hrs hr hnq hnf hno z5 k0 k1
 go_enter Tryz.func8,Tryz.ntmps8
 go_wp2_with fail
 simp only[HW.out]
 go_wp2
 go_loopw [5,6] (λnvv i wr=>∃(k:Nat) (r:Int),k<=m/\i=.int .i64 k/\nvv=.int .i64 r/\(nv:Int)+m+nq+no+nf<=r/\r<=6000000+1048576*k/\Below W.heap.size W wr/\Hid (r<=200->∀x∈rows.take k,x.length<=200)) (λ_ i _=>m-(intOf i).toNat)
 case atStart=>exact⟨0,_,by omega,rfl,rfl,by omega,by omega,Below.refl _ _,λ_ x hx=>by simp at hx⟩
 case round =>
  obtain⟨k,r,hk,rfl,rfl,hr1,hr2,hBw,HR⟩:=hrel
  replace t0:=cell_on t0 hBw
  replace t1:=cell_on t1 hBw
  replace b0:=cell_on b0 hBw
  replace b1:=cell_on b1 hBw
  replace b2:=cell_on b2 hBw
  replace b3:=cell_on b3 hBw
  replace b4:=cell_on b4 hBw
  replace b5:=cell_on b5 hBw
  replace b6:=cell_on b6 hBw
  replace b7:=cell_on b7 hBw
  by_cases hlt:k<m
  ·by_cases hr3:r<=200
   ·obtain⟨row,hrow⟩:∃row,rows[k]?=some row:=⟨_,List.getElem?_eq_getElem (by rw[H.out.2.1];exact hlt)⟩
    obtain⟨g,o,A',c',rfl,hcell,_,_⟩:=(H.out.2.2.2.1.later hBw).at1 hrow
    have hl:=H.out.2.2.1 row (List.mem_of_getElem? hrow)
    have HX:Hid (r+row.length<=200->∀x∈rows.take (k+1),x.length<=200):=by
     intro h x hx
     rw[take_snoc_of hrow]at hx
     rcases List.mem_append.1 hx with hx|hx
     ·exact HR.out hr3 x hx
     ·simp only[List.mem_cons,List.not_mem_nil,or_false]at hx
      subst hx
      omega
    generalize row.length=rl at *
    clear hrow HR
    go_wp2
    go_roundw
    case rel=>exact⟨k+1,r+rl,by omega,by go_num,rfl,by omega,by omega,hBw,HX⟩
    case measure=>simp[intOf];omega
   ·have HX:Hid (201<=r):=by show _<=_;omega
    clear HR
    go_wp2
    go_loopw [5,7] (λnvv i wv=>∃(j:Nat) (s:Int),j<=nf/\i=.int .i64 j/\nvv=.int .i64 s/\r<=s/\s<=1200000000000000+20000*j/\Below wr.heap.size wr wv) (λ_ i _=>nf-(intOf i).toNat)
    case atStart=>exact⟨0,r,by omega,rfl,rfl,by omega,by omega,Below.refl _ _⟩
    case round =>
     obtain⟨j,s,hj,rfl,rfl,hs1,hs2,hBv⟩:=hrel
     have u4:=cell_on b4 hBv
     have hzw:=cell_lt u4
     clear t0 t1 b0 b1 b2 b3 b4 b5 b6 b7
     by_cases hlt2:j<nf
     ·by_cases hs3:s<=200
      ·exfalso
       have:201<=r:=HX.out
       omega
      ·have hg:decide (200<s)=true:=decide_eq_true (by omega)
       go_wp2
       all_goals
        go_ret
        exact⟨true,by go_num,λh=>(by cases h),below_tr H.out.2.2.2.2.2.2.2.2.2 (below_tr hBw hBv)⟩
     ·by_cases hs3:s<=200
      ·exfalso
       have:201<=r:=HX.out
       omega
      ·have hg:decide (200<s)=true:=decide_eq_true (by omega)
       go_wp2
       all_goals
        go_ret
        exact⟨true,by go_num,λh=>(by cases h),below_tr H.out.2.2.2.2.2.2.2.2.2 (below_tr hBw hBv)⟩
  ·obtain rfl:k=m:=by omega
   have HX:Hid (r<=200->∀x∈rows,x.length<=200):=by
    have h:=HR.out
    rwa [List.take_of_length_le (by rw[H.out.2.1];exact Nat.le_refl _)]at h
   clear HR
   go_wp2
   go_loopw [5,7] (λnvv i wv=>∃(j:Nat) (s:Int),j<=nf/\i=.int .i64 j/\nvv=.int .i64 s/\r<=s/\s<=1200000000000000+20000*j/\Below wr.heap.size wr wv) (λ_ i _=>nf-(intOf i).toNat)
   case atStart=>exact⟨0,r,by omega,rfl,rfl,by omega,by omega,Below.refl _ _⟩
   case round =>
    obtain⟨j,s,hj,rfl,rfl,hs1,hs2,hBv⟩:=hrel
    have u4:=cell_on b4 hBv
    have hzw:=cell_lt u4
    clear t0 t1 b0 b1 b2 b3 b4 b5 b6 b7
    by_cases hlt2:j<nf
    ·by_cases hs3:s<=200
     ·obtain⟨y,hy⟩:∃y,q.fils[j]?=some y:=⟨_,List.getElem?_eq_getElem (by rw[H.out.2.2.2.2.2.2.1];exact hlt2)⟩
      have hzy:=H.out.2.2.2.2.2.2.2.2.1 y (List.mem_of_getElem? hy)
      obtain⟨g1,o1,y0,y1,y2,y3,y4,y5,y6,rfl,hR,x0,x1,x2,x3,x4,x5,x6⟩:=(RdEs.later (RdEs.later H.out.2.2.2.2.1 hBw) hBv).at7 hy
      clear hy
      have hih:=law29Part n y [y0,y1,y2,y3,y4,y5,y6] 0 wr (by omega) (by omega) hR hzy
      go_wp2_with (refine hih.mono ?_;rintro e w2 ⟨r2,rfl,hr5,hr7,hB2⟩)
      go_roundw
      case rel=>exact⟨j+1,s+r2,by omega,by go_num,rfl,by omega,by omega,below_tr hBv hB2⟩
      case measure=>simp[intOf];omega
     ·have hg:decide (200<s)=true:=decide_eq_true (by omega)
      go_wp2
      all_goals
       go_ret
       exact⟨true,by go_num,λh=>(by cases h),below_tr H.out.2.2.2.2.2.2.2.2.2 (below_tr hBw hBv)⟩
    ·by_cases hs3:s<=200
     ·have hg:decide (200<s)=false:=decide_eq_false (by omega)
      go_wp2
      all_goals
       go_ret
       exact⟨false,by go_num,λ_=>by
        obtain⟨e1,e2,e3,e4,e5,e6,e7,e8,e9,e10⟩:=H.out
        exact⟨by omega,by omega,by omega,by omega,by omega,HX.out (by omega)⟩,below_tr H.out.2.2.2.2.2.2.2.2.2 (below_tr hBw hBv)⟩
     ·have hg:decide (200<s)=true:=decide_eq_true (by omega)
      go_wp2
      all_goals
       go_ret
       exact⟨true,by go_num,λh=>(by cases h),below_tr H.out.2.2.2.2.2.2.2.2.2 (below_tr hBw hBv)⟩
theorem rdq_spell9 {n:Nat} {w:World} {q:Qy n} {a1 a2 a3 a4:Option Addr} {c1 c2 c3 c4:Nat} (h:RdQ n w [.bool q.ask,.bool q.dist,.slice a1 q.vars.length c1,.slice a2 q.pats.length c2,.slice a3 q.fils.length c3,.slice a4 q.ord.length c4,.int .i64 q.lim,.int .i64 q.off] q) :
  (q.vars.length<=c1)/\Rd w a1 (q.vars.map Value.string)/\RdPat w a2 q.pats/\RdEs n w a3 q.fils/\RdKey w a4 q.ord:=by
 obtain⟨b1,b2,b3,b4,d1,d2,d3,d4,h0,⟨o1,_,_,_⟩,r1,r2,r3,r4⟩:=h
 simp only[List.cons.injEq,Value.slice.injEq,and_true,true_and]at h0
 obtain⟨⟨rfl,rfl⟩,⟨rfl,rfl⟩,⟨rfl,rfl⟩,rfl,rfl⟩:=h0
 exact⟨o1,r1,r2,r3,r4⟩
section
variable {n:Nat} {q:Qy n} {vars:List ByteArray} {rows:List (List Tm)} {A B:Option Addr} {c d:Nat} {a1 a2 a3 a4:Option Addr} {c1 c2 c3 c4 bt bq bi bx gA:Nat} {A1:Option Addr} {c5 g1 g2 g3 g4 B0 B9:Nat} {V V':World}
end
theorem kitPick29 (x n:Int) (w:World) (h0:1<=n) (h1:n<=1000) :
  Calls Tryz.prog 36 #[.int .i64 x,.int .i64 n] w λe w'=>∃k:Nat,e=.returned (.int .i64 k)/\(k:Int)<n/\w=w':=by
 have b1 : -n<x.tmod n:=Int.lt_tmod_of_pos x (by omega)
 have b2:x.tmod n<n:=Int.tmod_lt_of_pos x (by omega)
 go_enter Tryz.func36,Tryz.ntmps36
 go_wp2
 ·go_ret
  exact⟨(x.tmod n+n).toNat,by congr 1;show Value.int .i64 _=Value.int .i64 _;congr 1;omega,by omega,rfl⟩
 ·go_ret
  exact⟨(x.tmod n).toNat,by congr 1;show Value.int .i64 _=Value.int .i64 _;congr 1;omega,by omega,rfl⟩
structure FrR {n:Nat} (q:Qy n) (vars:List ByteArray) (rows:List (List Tm)) (A B:Option Addr) (c d:Nat) (a1 a2 a3 a4:Option Addr) (c1 c2 c3 c4:Nat) (bt bq:Nat) (V:World):Prop where
 ht:V.heap[bt]?=some (Obj.cells #[.slice A vars.length c,.slice B rows.length d] 25 (0,0))
 hq:V.heap[bq]?=some (Obj.cells #[.bool q.ask,.bool q.dist,.slice a1 q.vars.length c1,.slice a2 q.pats.length c2,.slice a3 q.fils.length c3,.slice a4 q.ord.length c4,.int .i64 q.lim,.int .i64 q.off] 30 (0,0))
 rv:Rd V A (vars.map Value.string)
 rr:RdRs V B rows
 rq:RdQ n V [.bool q.ask,.bool q.dist,.slice a1 q.vars.length c1,.slice a2 q.pats.length c2,.slice a3 q.fils.length c3,.slice a4 q.ord.length c4,.int .i64 q.lim,.int .i64 q.off] q
section
variable {n:Nat} {q:Qy n} {vars:List ByteArray} {rows:List (List Tm)} {A B:Option Addr} {c d:Nat} {a1 a2 a3 a4:Option Addr} {c1 c2 c3 c4 bt bq:Nat} {V V':World}
theorem FrR.later (H:FrR q vars rows A B c d a1 a2 a3 a4 c1 c2 c3 c4 bt bq V) (hb:Below V.heap.size V V'):FrR q vars rows A B c d a1 a2 a3 a4 c1 c2 c3 c4 bt bq V':=⟨KeepT.below hb _ _ _ H.ht,KeepT.below hb _ _ _ H.hq,H.rv.later hb,H.rr.later hb,H.rq.later hb⟩
theorem FrR.cells (H:FrR q vars rows A B c d a1 a2 a3 a4 c1 c2 c3 c4 bt bq V):(V.cell? ⟨bt,0,none⟩=some (.slice A vars.length c)/\V.cell? ⟨bt,1,none⟩=some (.slice B rows.length d))/\V.cell? ⟨bq,0,none⟩=some (.bool q.ask)/\V.cell? ⟨bq,1,none⟩=some (.bool q.dist)/\V.cell? ⟨bq,2,none⟩=some (.slice a1 q.vars.length c1)/\V.cell? ⟨bq,3,none⟩=some (.slice a2 q.pats.length c2)/\V.cell? ⟨bq,4,none⟩=some (.slice a3 q.fils.length c3)/\V.cell? ⟨bq,5,none⟩=some (.slice a4 q.ord.length c4)/\V.cell? ⟨bq,6,none⟩=some (.int .i64 q.lim)/\V.cell? ⟨bq,7,none⟩=some (.int .i64 q.off):=
 ⟨⟨by rw[World.cell?,H.ht];rfl,by rw[World.cell?,H.ht];rfl⟩,by rw[World.cell?,H.hq];rfl,by rw[World.cell?,H.hq];rfl,by rw[World.cell?,H.hq];rfl,by rw[World.cell?,H.hq];rfl,by rw[World.cell?,H.hq];rfl,by rw[World.cell?,H.hq];rfl,by rw[World.cell?,H.hq];rfl,by rw[World.cell?,H.hq];rfl⟩
theorem FrR.tab (H:FrR q vars rows A B c d a1 a2 a3 a4 c1 c2 c3 c4 bt bq V) (hg:GoodT vars rows) (hc:vars.length<=c) (hd:rows.length<=d):TabW V A B c d vars rows:=⟨⟨rfl,rfl,by have:=hg.1;omega,by have:=hg.2.1;omega,hc,H.rv,H.rr,λr hr=>by have:=(hg.2.2 r hr).1;omega⟩,hd⟩
end
section
variable {V V':World} {b:Nat} {A B:Option Addr} {c d:Nat} {vs:List ByteArray} {rs:List (List Tm)}
end
end Go.Proofs.YtoejnneknpoanaaGreatDoor
