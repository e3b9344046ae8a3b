/- Layer 29's law, walked: how great a table and a query are. P -/
import Derived.Test.YtoejnneknpoanaaGreatDoorJSaidOf
import Derived.Test.YtoejnneknpoanaaGreatDoorJKept3
set_option maxHeartbeats 16000000
set_option maxRecDepth 100000
namespace Go.Proofs.YtoejnneknpoanaaGreatDoor
open Go Go.RowKit Um Fm Lx Tx Om Mp
def EK (deep:Int) (w:World) (e:Ending) (w':World):Prop:=∃r:Int,e=.returned (.int .i64 r)/\1<=r/\r<=(62-deep)*201/\Below w.heap.size w w'
theorem xP (n:Nat):∀(x:ExT n) (cs:List Value) (deep:Int) (w:World),0<=deep->deep<=61->RdE n w cs x->szE n x ->
  Calls Tryz.prog 43 #[.agg cs.toArray,.int .i64 deep] w (EK deep w):=by
 induction n with
 | zero=>intro x cs deep w _ _ h;exact h.elim
 | succ n ih =>
  rintro⟨k,s,t,kids⟩ cs deep w hd0 hd1 ⟨A,c,rfl,hcap,hk⟩ ⟨hs1,hs2,hkl,hkz⟩
  have hkl':(kids.length:Int)<=1353245080300:=by omega
  by_cases h60:60<deep
  ·clear ih
   go_enter Tryz.func43,Tryz.ntmps43
   go_wp2
   go_ret
   exact⟨201,rfl,by omega,by omega,blw⟩
  ·go_enter Tryz.func43,Tryz.ntmps43
   go_wp2
   obtain⟨W,hW⟩:∃W:World,w.alloc (.cells #[.int .i64 k,.string s,.int .i64 t.k,.string t.x,.string t.l,.string t.y,.slice A kids.length c] 78)=W:=⟨_,rfl⟩
   have hB0:Below w.heap.size w W:=by rw[←hW];exact blw
   have hz:W.heap.size=w.heap.size+1:=by rw[←hW];simp
   have hc6:W.cell? ⟨w.heap.size,6,none⟩=some (.slice A kids.length c):=by rw[←hW,World.cell?,heap_alloc_new];rfl
   have hkW:=aB.later hk hB0
   simp only[hW]
   have HW:=Lib.hid hW
   clear hW hk
   go_loopw [5,6] (λnv i wr=>∃(j:Nat) (r:Int),j<=kids.length/\i=.int .i64 j/\nv=.int .i64 r/\1<=r/\r<=(62-deep)*201/\Below W.heap.size W wr) (λ_ i _=>kids.length-(intOf i).toNat)
   case atStart=>exact⟨0,1,by omega,rfl,rfl,by omega,by omega,Below.refl _ _⟩
   case round =>
    obtain⟨j,r,hj,rfl,rfl,hr1,hr2,hB⟩:=hrel
    have hc:=hB.cell (p:=⟨w.heap.size,6,none⟩) (by simp;omega)
    rw[hc6]at hc
    have Hz:=Lib.hid hz
    clear hz hc6
    by_cases hlt:j<kids.length
    ·by_cases hr3:r<=200
     ·obtain⟨y,hy⟩:∃y,kids[j]?=some y:=⟨_,List.getElem?_eq_getElem hlt⟩
      have hzy:=hkz y (List.mem_of_getElem? hy)
      obtain⟨g,o,u0,u1,u2,u3,u4,u5,u6,rfl,hR,c0,c1,c2,c3,c4,c5,c6⟩:=(aB.later hkW hB).at7 hy
      clear hy
      have hih:=ih y [u0,u1,u2,u3,u4,u5,u6] (deep+1) wr (by omega) (by omega) hR hzy
      clear ih
      go_wp2_with (refine hih.mono ?_;rintro e w2 ⟨r2,rfl,hr4,hr5,hB2⟩)
      go_roundw
      case rel=>exact⟨j+1,r+r2,by omega,by go_num,rfl,by omega,by omega,aa hB hB2⟩
      case measure=>simp[intOf];omega
     ·clear ih
      go_wp2
      go_ret
      exact⟨r,rfl,by omega,by omega,aa hB0 hB⟩
    ·clear ih
     go_wp2
     go_ret
     exact⟨r,rfl,by omega,by omega,aa hB0 hB⟩
def FC {n:Nat} (vars:List ByteArray) (rows:List (List Tm)) (q:Qy n):Prop:=vars.length<=200/\rows.length<=200/\q.vars.length<=200/\q.ord.length<=200/\q.fils.length<=200/\∀r∈rows,r.length<=200
theorem nj (n:Nat) (q:Qy n) (vars:List ByteArray) (rows:List (List Tm)) (A B:Option Addr) (nv c m d:Nat) (a1 a2 a3 a4:Option Addr) (c1 c2 c3 c4:Nat) (w:World) (hnv:vars.length=nv) (hm:rows.length=m) (hlv:nv<=1048576) (hlm:m<=1048576) (hzr:∀r∈rows,r.length<=1048576) (hrs:RdRs w B rows) (hr:aB n w a3 q.fils) (z1:q.vars.length<=1048576) (z3:q.fils.length<=1048576) (z4:q.ord.length<=1048576) (z5:∀x∈q.fils,szE n x) :
  Calls Tryz.prog 8 #[.agg #[.slice A nv c,.slice B m d],.agg #[.bool q.ask,.bool q.dist,.slice a1 q.vars.length c1,.slice a2 q.pats.length c2,.slice a3 q.fils.length c3,.slice a4 q.ord.length c4,.int .i64 q.lim,.int .i64 q.off]] w (Fh (λb=>b=false->FC vars rows q) w):=by
 obtain⟨W,hW⟩:∃W:World,(w.alloc (.cells #[.slice A nv c,.slice B m d] 25)).alloc (.cells #[.bool q.ask,.bool q.dist,.slice a1 q.vars.length c1,.slice a2 q.pats.length c2,.slice a3 q.fils.length c3,.slice a4 q.ord.length c4,.int .i64 q.lim,.int .i64 q.off] 30)=W:=⟨_,rfl⟩
 have hB0:Below w.heap.size w W:=by rw[←hW];exact blw
 have k0:W.heap[w.heap.size]?=some (Obj.cells #[.slice A nv c,.slice B m d] 25 (0,0)):=by rw[←hW];exact aj _ _ _
 have k1:W.heap[w.heap.size+1]?=some (Obj.cells #[.bool q.ask,.bool q.dist,.slice a1 q.vars.length c1,.slice a2 q.pats.length c2,.slice a3 q.fils.length c3,.slice a4 q.ord.length c4,.int .i64 q.lim,.int .i64 q.off] 30 (0,0)):=by rw[←hW];exact ah _ _ _
 have t0:W.cell? ⟨w.heap.size,0,none⟩=some (.slice A nv c):=by rw[World.cell?,k0];rfl
 have t1:W.cell? ⟨w.heap.size,1,none⟩=some (.slice B m d):=by rw[World.cell?,k0];rfl
 have b0:W.cell? ⟨w.heap.size+1,0,none⟩=some (.bool q.ask):=by rw[World.cell?,k1];rfl
 have b1:W.cell? ⟨w.heap.size+1,1,none⟩=some (.bool q.dist):=by rw[World.cell?,k1];rfl
 have b2:W.cell? ⟨w.heap.size+1,2,none⟩=some (.slice a1 q.vars.length c1):=by rw[World.cell?,k1];rfl
 have b3:W.cell? ⟨w.heap.size+1,3,none⟩=some (.slice a2 q.pats.length c2):=by rw[World.cell?,k1];rfl
 have b4:W.cell? ⟨w.heap.size+1,4,none⟩=some (.slice a3 q.fils.length c3):=by rw[World.cell?,k1];rfl
 have b5:W.cell? ⟨w.heap.size+1,5,none⟩=some (.slice a4 q.ord.length c4):=by rw[World.cell?,k1];rfl
 have b6:W.cell? ⟨w.heap.size+1,6,none⟩=some (.int .i64 q.lim):=by rw[World.cell?,k1];rfl
 have b7:W.cell? ⟨w.heap.size+1,7,none⟩=some (.int .i64 q.off):=by rw[World.cell?,k1];rfl
 obtain⟨nq,hnq⟩:∃k,q.vars.length=k:=⟨_,rfl⟩
 obtain⟨nf,hnf⟩:∃k,q.fils.length=k:=⟨_,rfl⟩
 obtain⟨no,hno⟩:∃k,q.ord.length=k:=⟨_,rfl⟩
 have H:=Lib.hid (And.intro hnv (And.intro hm (And.intro hzr (And.intro (hrs.later hB0) (And.intro (aB.later hr hB0) (And.intro hnq (And.intro hnf (And.intro hno (And.intro z5 hB0)))))))))
 rw[hnq]at z1 b2
 rw[hnf]at z3 b4
 rw[hno]at z4 b5
 have HW:=Lib.hid hW
 rw[hnq,hnf,hno]at HW
 rw[hnq,hnf,hno]
 clear hW hB0 hnv hm hzr hrs hr hnq hnf hno z5 k0 k1
 go_enter Tryz.func8,Tryz.ntmps8
 go_wp2_with fail
 simp only[HW.out]
 go_wp2
 go_loopw [5,6] (λnvv i wr=>∃(k:Nat) (r:Int),k<=m/\i=.int .i64 k/\nvv=.int .i64 r/\(nv:Int)+m+nq+no+nf<=r/\r<=6000000+1048576*k/\Below W.heap.size W wr/\Hid (r<=200->∀x∈rows.take k,x.length<=200)) (λ_ i _=>m-(intOf i).toNat)
 case atStart=>exact⟨0,_,by omega,rfl,rfl,by omega,by omega,Below.refl _ _,λ_ x hx=>by simp at hx⟩
 case round =>
  obtain⟨k,r,hk,rfl,rfl,hr1,hr2,hBw,HR⟩:=hrel
  replace t0:=ab t0 hBw
  replace t1:=ab t1 hBw
  replace b0:=ab b0 hBw
  replace b1:=ab b1 hBw
  replace b2:=ab b2 hBw
  replace b3:=ab b3 hBw
  replace b4:=ab b4 hBw
  replace b5:=ab b5 hBw
  replace b6:=ab b6 hBw
  replace b7:=ab b7 hBw
  by_cases hlt:k<m
  ·by_cases hr3:r<=200
   ·obtain⟨row,hrow⟩:∃row,rows[k]?=some row:=⟨_,List.getElem?_eq_getElem (by rw[H.out.2.1];exact hlt)⟩
    obtain⟨g,o,A',c',rfl,hcell,_,_⟩:=(H.out.2.2.2.1.later hBw).at1 hrow
    have hl:=H.out.2.2.1 row (List.mem_of_getElem? hrow)
    have HX:Hid (r+row.length<=200->∀x∈rows.take (k+1),x.length<=200):=by
     intro h x hx
     rw[ai hrow]at hx
     rcases List.mem_append.1 hx with hx|hx
     ·exact HR.out hr3 x hx
     ·simp only[List.mem_cons,List.not_mem_nil,or_false]at hx
      subst hx
      omega
    generalize row.length=rl at *
    clear hrow HR
    go_wp2
    go_roundw
    case rel=>exact⟨k+1,r+rl,by omega,by go_num,rfl,by omega,by omega,hBw,HX⟩
    case measure=>simp[intOf];omega
   ·have HX:Hid (201<=r):=by show _<=_;omega
    clear HR
    go_wp2
    go_loopw [5,7] (λnvv i wv=>∃(j:Nat) (s:Int),j<=nf/\i=.int .i64 j/\nvv=.int .i64 s/\r<=s/\s<=1200000000000000+20000*j/\Below wr.heap.size wr wv) (λ_ i _=>nf-(intOf i).toNat)
    case atStart=>exact⟨0,r,by omega,rfl,rfl,by omega,by omega,Below.refl _ _⟩
    case round =>
     obtain⟨j,s,hj,rfl,rfl,hs1,hs2,hBv⟩:=hrel
     have u4:=ab b4 hBv
     have hzw:=ae u4
     clear t0 t1 b0 b1 b2 b3 b4 b5 b6 b7
     by_cases hlt2:j<nf
     ·by_cases hs3:s<=200
      ·exfalso
       have:201<=r:=HX.out
       omega
      ·have hg:decide (200<s)=true:=decide_eq_true (by omega)
       go_wp2
       all_goals
        go_ret
        exact⟨true,by go_num,λh=>(by cases h),aa H.out.2.2.2.2.2.2.2.2.2 (aa hBw hBv)⟩
     ·by_cases hs3:s<=200
      ·exfalso
       have:201<=r:=HX.out
       omega
      ·have hg:decide (200<s)=true:=decide_eq_true (by omega)
       go_wp2
       all_goals
        go_ret
        exact⟨true,by go_num,λh=>(by cases h),aa H.out.2.2.2.2.2.2.2.2.2 (aa hBw hBv)⟩
  ·obtain rfl:k=m:=by omega
   have HX:Hid (r<=200->∀x∈rows,x.length<=200):=by
    have h:=HR.out
    rwa [List.take_of_length_le (by rw[H.out.2.1];exact Nat.le_refl _)]at h
   clear HR
   go_wp2
   go_loopw [5,7] (λnvv i wv=>∃(j:Nat) (s:Int),j<=nf/\i=.int .i64 j/\nvv=.int .i64 s/\r<=s/\s<=1200000000000000+20000*j/\Below wr.heap.size wr wv) (λ_ i _=>nf-(intOf i).toNat)
   case atStart=>exact⟨0,r,by omega,rfl,rfl,by omega,by omega,Below.refl _ _⟩
   case round =>
    obtain⟨j,s,hj,rfl,rfl,hs1,hs2,hBv⟩:=hrel
    have u4:=ab b4 hBv
    have hzw:=ae u4
    clear t0 t1 b0 b1 b2 b3 b4 b5 b6 b7
    by_cases hlt2:j<nf
    ·by_cases hs3:s<=200
     ·obtain⟨y,hy⟩:∃y,q.fils[j]?=some y:=⟨_,List.getElem?_eq_getElem (by rw[H.out.2.2.2.2.2.2.1];exact hlt2)⟩
      have hzy:=H.out.2.2.2.2.2.2.2.2.1 y (List.mem_of_getElem? hy)
      obtain⟨g1,o1,y0,y1,y2,y3,y4,y5,y6,rfl,hR,x0,x1,x2,x3,x4,x5,x6⟩:=(aB.later (aB.later H.out.2.2.2.2.1 hBw) hBv).at7 hy
      clear hy
      have hih:=xP n y [y0,y1,y2,y3,y4,y5,y6] 0 wr (by omega) (by omega) hR hzy
      go_wp2_with (refine hih.mono ?_;rintro e w2 ⟨r2,rfl,hr5,hr7,hB2⟩)
      go_roundw
      case rel=>exact⟨j+1,s+r2,by omega,by go_num,rfl,by omega,by omega,aa hBv hB2⟩
      case measure=>simp[intOf];omega
     ·have hg:decide (200<s)=true:=decide_eq_true (by omega)
      go_wp2
      all_goals
       go_ret
       exact⟨true,by go_num,λh=>(by cases h),aa H.out.2.2.2.2.2.2.2.2.2 (aa hBw hBv)⟩
    ·by_cases hs3:s<=200
     ·have hg:decide (200<s)=false:=decide_eq_false (by omega)
      go_wp2
      all_goals
       go_ret
       exact⟨false,by go_num,λ_=>by
        obtain⟨e1,e2,e3,e4,e5,e6,e7,e8,e9,e10⟩:=H.out
        exact⟨by omega,by omega,by omega,by omega,by omega,HX.out (by omega)⟩,aa H.out.2.2.2.2.2.2.2.2.2 (aa hBw hBv)⟩
     ·have hg:decide (200<s)=true:=decide_eq_true (by omega)
      go_wp2
      all_goals
       go_ret
       exact⟨true,by go_num,λh=>(by cases h),aa H.out.2.2.2.2.2.2.2.2.2 (aa hBw hBv)⟩
theorem aX {n:Nat} {w:World} {q:Qy n} {a1 a2 a3 a4:Option Addr} {c1 c2 c3 c4:Nat} (h:RdQ n w [.bool q.ask,.bool q.dist,.slice a1 q.vars.length c1,.slice a2 q.pats.length c2,.slice a3 q.fils.length c3,.slice a4 q.ord.length c4,.int .i64 q.lim,.int .i64 q.off] q) :
  (q.vars.length<=c1)/\Rd w a1 (q.vars.map Value.string)/\tF w a2 q.pats/\aB n w a3 q.fils/\dl w a4 q.ord:=by
 obtain⟨b1,b2,b3,b4,d1,d2,d3,d4,h0,⟨o1,_,_,_⟩,r1,r2,r3,r4⟩:=h
 simp only[List.cons.injEq,Value.slice.injEq,and_true,true_and]at h0
 obtain⟨⟨rfl,rfl⟩,⟨rfl,rfl⟩,⟨rfl,rfl⟩,rfl,rfl⟩:=h0
 exact⟨o1,r1,r2,r3,r4⟩
def rJ (V wx:World) (g:Nat) (vars:List ByteArray) (rows:List (List Tm)):Prop:=∃gA A1 c5,wx.heap[g]?=some (Obj.cells #[.slice (some ⟨gA,0,none⟩) vars.length (vars.length+12),.slice A1 rows.length c5] 25 (0,0))/\aG 9 wx gA ((vars++marksOf (λi=>mkT 1 i)).map Value.string)/\rows.length<=c5/\RdL 1 (aV V.heap.size wx) wx A1 rows/\Below V.heap.size V wx
structure Fr9 {n:Nat} (q:Qy n) (vars:List ByteArray) (rows:List (List Tm)) (A B:Option Addr) (c d:Nat) (a1 a2 a3 a4:Option Addr) (c1 c2 c3 c4:Nat) (bt bq bi bx gA:Nat) (A1:Option Addr) (c5 g1 g2 g3 g4:Nat) (B0 B9:Nat) (V:World):Prop where
 ht:V.heap[bt]?=some (Obj.cells #[.slice A vars.length c,.slice B rows.length d] 25 (0,0))
 hq:V.heap[bq]?=some (Obj.cells #[.bool q.ask,.bool q.dist,.slice a1 q.vars.length c1,.slice a2 q.pats.length c2,.slice a3 q.fils.length c3,.slice a4 q.ord.length c4,.int .i64 q.lim,.int .i64 q.off] 30 (0,0))
 hi:V.heap[bi]?=some (Obj.cells #[.slice (some ⟨gA,0,none⟩) vars.length (vars.length+12),.slice A1 rows.length c5] 25 (0,0))
 hx:V.heap[bx]?=some (Obj.cells #[.bool q.ask,.bool q.dist,.slice (some ⟨g1,0,none⟩) q.vars.length (q.vars.length+12),.slice (some ⟨g2,0,none⟩) q.pats.length (q.pats.length+12),.slice (some ⟨g3,0,none⟩) q.fils.length (q.fils.length+12),.slice (some ⟨g4,0,none⟩) q.ord.length (q.ord.length+12),.int .i64 q.lim,.int .i64 q.off] 30 (0,0))
 lt:aG 9 V gA ((vars++marksOf (λi=>mkT 1 i)).map Value.string)
 lc:rows.length<=c5
 lr:RdL 1 (aV B0 V) V A1 rows
 lq:nV n B9 V [.bool q.ask,.bool q.dist,.slice (some ⟨g1,0,none⟩) q.vars.length (q.vars.length+12),.slice (some ⟨g2,0,none⟩) q.pats.length (q.pats.length+12),.slice (some ⟨g3,0,none⟩) q.fils.length (q.fils.length+12),.slice (some ⟨g4,0,none⟩) q.ord.length (q.ord.length+12),.int .i64 q.lim,.int .i64 q.off] q
 rv:Rd V A (vars.map Value.string)
 rr:RdRs V B rows
 rq:RdQ n V [.bool q.ask,.bool q.dist,.slice a1 q.vars.length c1,.slice a2 q.pats.length c2,.slice a3 q.fils.length c3,.slice a4 q.ord.length c4,.int .i64 q.lim,.int .i64 q.off] q
section
variable {n:Nat} {q:Qy n} {vars:List ByteArray} {rows:List (List Tm)} {A B:Option Addr} {c d:Nat} {a1 a2 a3 a4:Option Addr} {c1 c2 c3 c4 bt bq bi bx gA:Nat} {A1:Option Addr} {c5 g1 g2 g3 g4 B0 B9:Nat} {V V':World}
theorem Fr9.later (H:Fr9 q vars rows A B c d a1 a2 a3 a4 c1 c2 c3 c4 bt bq bi bx gA A1 c5 g1 g2 g3 g4 B0 B9 V) (hb:Below V.heap.size V V'):Fr9 q vars rows A B c d a1 a2 a3 a4 c1 c2 c3 c4 bt bq bi bx gA A1 c5 g1 g2 g3 g4 B0 B9 V':=
 ⟨KeepT.below hb _ _ _ H.ht,KeepT.below hb _ _ _ H.hq,KeepT.below hb _ _ _ H.hi,KeepT.below hb _ _ _ H.hx,H.lt.below hb H.lt.lt,H.lc,RdL.mono H.lr hb (λ_ _ _ h=>aV.later h hb),H.lq.later hb,H.rv.later hb,H.rr.later hb,H.rq.later hb⟩
theorem Fr9.cells (H:Fr9 q vars rows A B c d a1 a2 a3 a4 c1 c2 c3 c4 bt bq bi bx gA A1 c5 g1 g2 g3 g4 B0 B9 V) :
  (V.cell? ⟨bt,0,none⟩=some (.slice A vars.length c)/\V.cell? ⟨bt,1,none⟩=some (.slice B rows.length d)) /\
  (V.cell? ⟨bq,0,none⟩=some (.bool q.ask)/\V.cell? ⟨bq,1,none⟩=some (.bool q.dist)/\V.cell? ⟨bq,2,none⟩=some (.slice a1 q.vars.length c1)/\V.cell? ⟨bq,3,none⟩=some (.slice a2 q.pats.length c2)/\V.cell? ⟨bq,4,none⟩=some (.slice a3 q.fils.length c3)/\V.cell? ⟨bq,5,none⟩=some (.slice a4 q.ord.length c4)/\V.cell? ⟨bq,6,none⟩=some (.int .i64 q.lim)/\V.cell? ⟨bq,7,none⟩=some (.int .i64 q.off)) /\
  (V.cell? ⟨bi,0,none⟩=some (.slice (some ⟨gA,0,none⟩) vars.length (vars.length+12))/\V.cell? ⟨bi,1,none⟩=some (.slice A1 rows.length c5)) /\
  (V.cell? ⟨bx,0,none⟩=some (.bool q.ask)/\V.cell? ⟨bx,1,none⟩=some (.bool q.dist)/\V.cell? ⟨bx,2,none⟩=some (.slice (some ⟨g1,0,none⟩) q.vars.length (q.vars.length+12))/\V.cell? ⟨bx,3,none⟩=some (.slice (some ⟨g2,0,none⟩) q.pats.length (q.pats.length+12))/\V.cell? ⟨bx,4,none⟩=some (.slice (some ⟨g3,0,none⟩) q.fils.length (q.fils.length+12))/\V.cell? ⟨bx,5,none⟩=some (.slice (some ⟨g4,0,none⟩) q.ord.length (q.ord.length+12))/\V.cell? ⟨bx,6,none⟩=some (.int .i64 q.lim)/\V.cell? ⟨bx,7,none⟩=some (.int .i64 q.off)):=
 ⟨⟨by rw[World.cell?,H.ht];rfl,by rw[World.cell?,H.ht];rfl⟩,⟨by rw[World.cell?,H.hq];rfl,by rw[World.cell?,H.hq];rfl,by rw[World.cell?,H.hq];rfl,by rw[World.cell?,H.hq];rfl,by rw[World.cell?,H.hq];rfl,by rw[World.cell?,H.hq];rfl,by rw[World.cell?,H.hq];rfl,by rw[World.cell?,H.hq];rfl⟩,⟨by rw[World.cell?,H.hi];rfl,by rw[World.cell?,H.hi];rfl⟩,⟨by rw[World.cell?,H.hx];rfl,by rw[World.cell?,H.hx];rfl,by rw[World.cell?,H.hx];rfl,by rw[World.cell?,H.hx];rfl,by rw[World.cell?,H.hx];rfl,by rw[World.cell?,H.hx];rfl,by rw[World.cell?,H.hx];rfl,by rw[World.cell?,H.hx];rfl⟩⟩
theorem Fr9.tab (H:Fr9 q vars rows A B c d a1 a2 a3 a4 c1 c2 c3 c4 bt bq bi bx gA A1 c5 g1 g2 g3 g4 B0 B9 V) (hg:dI vars rows) (hc:vars.length<=c) (hd:rows.length<=d):rG V A B c d vars rows:=
 ⟨⟨rfl,rfl,by have:=hg.1;omega,by have:=hg.2.1;omega,hc,H.rv,H.rr,λr hr=>by have:=(hg.2.2 r hr).1;omega⟩,hd⟩
theorem Fr9.tabIn (H:Fr9 q vars rows A B c d a1 a2 a3 a4 c1 c2 c3 c4 bt bq bi bx gA A1 c5 g1 g2 g3 g4 B0 B9 V) (hg:dI vars rows):rG V (some ⟨gA,0,none⟩) A1 (vars.length+12) c5 vars rows:=
 ⟨⟨rfl,rfl,by have:=hg.1;omega,by have:=hg.2.1;omega,by omega,H.lt.rdStr,by
  obtain⟨xs,h1,h2⟩:=H.lr
  exact⟨xs,h1,h2.mono λ_ _ _ h=>h.rd⟩,λr hr=>by have:=(hg.2.2 r hr).1;omega⟩,H.lc⟩
end
theorem Fr9.stays {n:Nat} {q:Qy n} {vars:List ByteArray} {rows:List (List Tm)} {A B:Option Addr} {c d:Nat} {a1 a2 a3 a4:Option Addr} {c1 c2 c3 c4 bt bq bi bx gA:Nat} {A1:Option Addr} {c5 g1 g2 g3 g4 B0 B9:Nat} {W4 V:World} (H:Fr9 q vars rows A B c d a1 a2 a3 a4 c1 c2 c3 c4 bt bq bi bx gA A1 c5 g1 g2 g3 g4 B0 B9 W4) (hb:Below W4.heap.size W4 V) (hg:dI vars rows) (hc:vars.length<=c) (hd:rows.length<=d):dr W4 V A B vars.length c rows.length d vars rows:=by
 obtain⟨xs,h1,h2⟩:=H.rr
 exact⟨hb.size,rfl,rfl,by have:=hg.1;omega,by have:=hg.2.1;omega,hc,hd,λr hr=>by have:=(hg.2.2 r hr).1;omega,λW' k=>H.rv.later (hb.trans k.2.2.2),xs,λW' k=>h1.later (hb.trans k.2.2.2),h2.mono λ_ _ _ h W' k=>h.later (hb.trans k.2)⟩
theorem gO {W4 X Y:World} {ga gb:Nat} {ca cb:Array Value} {v0 v1:Value} {vs:List ByteArray} {rs:List (List Tm)} (hBX:Below W4.heap.size W4 X) (hbY:Below X.heap.size X Y) (hga:X.heap[ga]?=some (Obj.cells ca 25 (0,0))) (hgb:X.heap[gb]?=some (Obj.cells cb 39 (0,0))) (ha:W4.heap.size<=ga) (hT:dm X.heap.size Y v0 v1 vs rs) :
  Y.heap[ga]?=some (Obj.cells ca 25 (0,0))/\(Y.setRow ga #[v0,v1]).heap[ga]?=some (Obj.cells #[v0,v1] 25 (0,0))/\(Y.setRow ga #[v0,v1]).heap[gb]?=some (Obj.cells cb 39 (0,0))/\Below W4.heap.size W4 (Y.setRow ga #[v0,v1])/\dm X.heap.size (Y.setRow ga #[v0,v1]) v0 v1 vs rs/\X.heap.size<=(Y.setRow ga #[v0,v1]).heap.size:=by
 have h1:=KeepT.below hbY _ _ _ hga
 have h2:=KeepT.below hbY _ _ _ hgb
 have hk:∀e,25≠e->KeepT e Y (Y.setRow ga #[v0,v1]):=λe he=>KeepT.setRow h1 he
 have hBY:=aa hBX hbY
 refine⟨h1,setRow_heap Y _ _ _ _ (0,0) h1,hk _ (by decide) _ _ _ h2,below_setRow hBY ha _,⟨own_keep hT.1 (hk _ (by decide)),hT.2.keep (hk _ (by decide)) (hk _ (by decide))⟩,?_⟩
 have:(Y.setRow ga #[v0,v1]).heap.size=Y.heap.size:=by simp[World.setRow]
 rw[this];exact hbY.size
theorem fB {W4 Z w7:World} {base ga gb:Nat} {ca cb:Array Value} {v0 v1 r0 r1:Value} {vs:List ByteArray} {rs:List (List Tm)} (hBZ:Below W4.heap.size W4 Z) (hb7:Below Z.heap.size Z w7) (hga:Z.heap[ga]?=some (Obj.cells ca 25 (0,0))) (hgb:Z.heap[gb]?=some (Obj.cells cb 39 (0,0))) (hb:W4.heap.size<=gb) (hT:dm base Z v0 v1 vs rs) (hbs:base<=Z.heap.size) :
  w7.heap[gb]?=some (Obj.cells cb 39 (0,0))/\(w7.setRow gb #[r0,r1]).heap[gb]?=some (Obj.cells #[r0,r1] 39 (0,0))/\(w7.setRow gb #[r0,r1]).heap[ga]?=some (Obj.cells ca 25 (0,0))/\Below W4.heap.size W4 (w7.setRow gb #[r0,r1])/\dm base (w7.setRow gb #[r0,r1]) v0 v1 vs rs/\StS W4 w7 (w7.setRow gb #[r0,r1])/\base<=(w7.setRow gb #[r0,r1]).heap.size:=by
 have h1:=KeepT.below hb7 _ _ _ hga
 have h2:=KeepT.below hb7 _ _ _ hgb
 have hk:∀e,39≠e->KeepT e w7 (w7.setRow gb #[r0,r1]):=λe he=>KeepT.setRow h2 he
 have hT7:=hT.later hb7
 have hB7:=aa hBZ hb7
 refine⟨h2,setRow_heap w7 _ _ _ _ (0,0) h2,hk _ (by decide) _ _ _ h1,below_setRow hB7 hb _,⟨own_keep hT7.1 (hk _ (by decide)),hT7.2.keep (hk _ (by decide)) (hk _ (by decide))⟩,StS.setRow h2 hb,?_⟩
 have:(w7.setRow gb #[r0,r1]).heap.size=w7.heap.size:=by simp[World.setRow]
 rw[this];exact Nat.le_trans hbs hb7.size
theorem aV.lower {B B':Nat} {w:World} {cs:List Value} {row:List Tm} (h:aV B w cs row) (hb:B'<=B):aV B' w cs row:=by
 obtain⟨g,h1,h2,h3⟩:=h
 exact⟨g,h1,Nat.le_trans hb h2,h3⟩
theorem kA {V X:World} {vars:List ByteArray} {rows:List (List Tm)} {g gA B0:Nat} {A1:Option Addr} {c5:Nat} {xs:List Value} {cur:Array Value} (hg:X.heap[g]?=some (Obj.cells cur 25 (0,0))) (hgV:V.heap.size<=g) (hL:aG 9 X gA ((vars++marksOf (λi=>mkT 1 i)).map Value.string)) (hB0:V.heap.size<=B0) (ho:X.ownsRow B0 59 1 (.slice A1 rows.length c5) rows.length xs) (hall:All 1 (aV B0 X) xs rows) (hb:Below V.heap.size V X):rJ V (X.setRow g #[.slice (some ⟨gA,0,none⟩) vars.length (vars.length+12),.slice A1 rows.length c5] ) g vars rows:=by
 have hk:∀e,25≠e->KeepT e X (X.setRow g #[.slice (some ⟨gA,0,none⟩) vars.length (vars.length+12),.slice A1 rows.length c5] ):=λe he=>KeepT.setRow hg he
 obtain⟨A2,c2,e1,h1,h2⟩:=own_slice (own_keep ho (hk _ (by decide)))
 injection e1 with e1 _ e2
 subst e1
 subst e2
 obtain⟨cur2,h3,h4⟩:=hL
 exact⟨gA,A1,c5,setRow_heap X _ _ _ _ (0,0) hg,⟨cur2,hk _ (by decide) _ _ _ h3,h4⟩,h1,⟨xs,h2,hall.mono λ_ _ _ h=>(h.lower hB0).keep (hk _ (by decide))⟩,below_setRow hb hgV _⟩
theorem lU (n:Nat) (q:Qy n) (a1 a2 a3 a4:Option Addr) (c1 c2 c3 c4:Nat) (vars:List ByteArray) (rows:List (List Tm)) (A B:Option Addr) (c d:Nat) (w:World) (hC:dq w) (hP:eD w) (hz:rU q) (hq:RdQ n w [.bool q.ask,.bool q.dist,.slice a1 q.vars.length c1,.slice a2 q.pats.length c2,.slice a3 q.fils.length c3,.slice a4 q.ord.length c4,.int .i64 q.lim,.int .i64 q.off] q) (hlv:vars.length<=1048576) (hlr:rows.length<=1048576) (hzr:∀r∈rows,r.length<=1048576/\∀t∈r,keyTm t) (hnc:vars.length<=c) (hmd:rows.length<=d) (hrv:Rd w A (vars.map Value.string)) (hrr:RdRs w B rows) :
  Calls Tryz.prog 5 #[.agg #[.slice A vars.length c,.slice B rows.length d],.agg #[.bool q.ask,.bool q.dist,.slice a1 q.vars.length c1,.slice a2 q.pats.length c2,.slice a3 q.fils.length c3,.slice a4 q.ord.length c4,.int .i64 q.lim,.int .i64 q.off]] w λe w'=>e=.returned (.bool true)/\Below w.heap.size w w':=by
 have sL:=hz.l
 obtain⟨hqc,r1,rp,rf,rk⟩:=aX hq
 obtain⟨W,hW⟩:∃W:World,(w.alloc (.cells #[.slice A vars.length c,.slice B rows.length d] 25)).alloc (.cells #[.bool q.ask,.bool q.dist,.slice a1 q.vars.length c1,.slice a2 q.pats.length c2,.slice a3 q.fils.length c3,.slice a4 q.ord.length c4,.int .i64 q.lim,.int .i64 q.off] 30)=W:=⟨_,rfl⟩
 have hB0:Below w.heap.size w W:=by rw[←hW];exact blw
 have k0:W.heap[w.heap.size]?=some (Obj.cells #[.slice A vars.length c,.slice B rows.length d] 25 (0,0)):=by rw[←hW];exact aj _ _ _
 have k1:W.heap[w.heap.size+1]?=some (Obj.cells #[.bool q.ask,.bool q.dist,.slice a1 q.vars.length c1,.slice a2 q.pats.length c2,.slice a3 q.fils.length c3,.slice a4 q.ord.length c4,.int .i64 q.lim,.int .i64 q.off] 30 (0,0)):=by rw[←hW];exact ah _ _ _
 have hG:=nj n q vars rows A B vars.length c rows.length d a1 a2 a3 a4 c1 c2 c3 c4 W rfl rfl hlv hlr (λr hr=>(hzr r hr).1) (hrr.later hB0) (aB.later rf hB0) hz.1 hz.2.2.1 hz.2.2.2.1 (λx hx=>(hz.2.2.2.2.2.2.1 x hx).e)
 have a0:W.cell? ⟨w.heap.size,0,none⟩=some (.slice A vars.length c):=by rw[World.cell?,k0];rfl
 have a9:W.cell? ⟨w.heap.size,1,none⟩=some (.slice B rows.length d):=by rw[World.cell?,k0];rfl
 have b0:W.cell? ⟨w.heap.size+1,0,none⟩=some (.bool q.ask):=by rw[World.cell?,k1];rfl
 have b1:W.cell? ⟨w.heap.size+1,1,none⟩=some (.bool q.dist):=by rw[World.cell?,k1];rfl
 have b2:W.cell? ⟨w.heap.size+1,2,none⟩=some (.slice a1 q.vars.length c1):=by rw[World.cell?,k1];rfl
 have b3:W.cell? ⟨w.heap.size+1,3,none⟩=some (.slice a2 q.pats.length c2):=by rw[World.cell?,k1];rfl
 have b4:W.cell? ⟨w.heap.size+1,4,none⟩=some (.slice a3 q.fils.length c3):=by rw[World.cell?,k1];rfl
 have b5:W.cell? ⟨w.heap.size+1,5,none⟩=some (.slice a4 q.ord.length c4):=by rw[World.cell?,k1];rfl
 have b6:W.cell? ⟨w.heap.size+1,6,none⟩=some (.int .i64 q.lim):=by rw[World.cell?,k1];rfl
 have b7:W.cell? ⟨w.heap.size+1,7,none⟩=some (.int .i64 q.off):=by rw[World.cell?,k1];rfl
 have H:=Lib.hid (And.intro hC (And.intro hP (And.intro hq (And.intro hrv (And.intro hrr (And.intro hzr (And.intro hnc (And.intro hmd (And.intro hz (And.intro hB0 (And.intro k0 (And.intro k1 sL))))))))))))
 have HW:=Lib.hid hW
 have hAw:=λW' (hb:Below W.heap.size W W')=>nk W' (hC.step (aa hB0 hb)) (hP.step (aa hB0 hb))
 have HAw:=Lib.hid hAw
 clear hC hP hq hrv hrr hzr hnc hmd hz hB0 k0 k1 hW hAw r1 rp rf rk hqc sL
 go_enter Tryz.func5,Tryz.ntmps5
 go_wp2_with fail
 simp only[HW.out]
 refine hG.mono ?_
 rintro e w1 ⟨gb,rfl,hgb,hb1⟩
 clear hG
 have H1:=Lib.hid hb1
 cases gb
 case true =>
  have hA1:=HAw.out w1 hb1
  clear a0 a9 b0 b1 b2 b3 b4 b5 b6 b7 hgb hb1
  go_wp2_with (refine hA1.mono ?_;rintro e w2 ⟨rfl,hb2⟩)
  go_ret
  exact⟨rfl,aa H.out.2.2.2.2.2.2.2.2.2.1 (aa H1.out hb2)⟩
 obtain⟨f1,f2,f3,f4,f5,f6⟩:=hgb rfl
 have hgood:dI vars rows:=⟨f1,f2,λr hr=>⟨f6 r hr,(H.out.2.2.2.2.2.1 r hr).2⟩⟩
 have HG:=Lib.hid (And.intro hgood (And.intro f3 (And.intro f4 f5)))
 clear hgb f1 f2 f3 f4 f5 f6 hgood
 replace a0:=ab a0 hb1
 replace a9:=ab a9 hb1
 replace b0:=ab b0 hb1
 replace b1:=ab b1 hb1
 replace b2:=ab b2 hb1
 replace b3:=ab b3 hb1
 replace b4:=ab b4 hb1
 replace b5:=ab b5 hb1
 replace b6:=ab b6 hb1
 replace b7:=ab b7 hb1
 have hrv1:Rd w1 A (vars.map Value.string):=(H.out.2.2.2.1.later H.out.2.2.2.2.2.2.2.2.2.1).later hb1
 have hrr1:RdRs w1 B rows:=(H.out.2.2.2.2.1.later H.out.2.2.2.2.2.2.2.2.2.1).later hb1
 have hLT:=λV (hb:Below w1.heap.size w1 V)=>dX (kw vars A c V (hrv1.later hb) hlv)
 have hLR:=λV (hb:Below w1.heap.size w1 V)=>sG rows B rows.length d V rfl (by have:=HG.out.1.2.1;omega) (λr hr=>by have:=(HG.out.1.2.2 r hr).1;omega) (hrr1.later hb)
 clear hrv1 hrr1 hb1
 go_upto_region 3 with (fail)
 go_cut [5] from 16 to 22 (λs5 wx=>∃g,s5=.pointer (some ⟨g,0,none⟩)/\rJ w1 wx g vars rows)
 case first =>
  rename_i hJ hM
  refine Rf.p0 w1.heap.size _ (.quiet [0,1,3,4] (.fork 2 7 (.fork 5 7 (.quiet [6] (.one 7 (.one 8 (.done)))) (.one 5 (.quiet [6] (.one 8 (.done))))) (.one 2 (.one 5 (.quiet [6] (.one 8 (.done))))))) ?_ (λa w h=>h)
  intro wd hbd hwz
  have y0:=cellL a0 hbd
  have y9:=cellL a9 hbd
  have HWZ:=Lib.hid hwz
  have hs1:w1.heap.size<=wd.heap.size:=hbd.size
  clear hwz a0 a9 b0 b1 b2 b3 b4 b5 b6 b7
  refine Rf.pl_quiet ?_
  iterate 4 go_big_quiet_step (fail)
  refine wpQuiet_nil (Rf.pl_fork ?_ ?_)
  ·clear y0 y9
   go_wp2_with (go_at_call 10;refine(hLT wd hbd).mono ?_;rintro e v1 ⟨gA,rfl,hgA,hL,hb2⟩)
   have hs2:w1.heap.size<=v1.heap.size:=Nat.le_trans hs1 hb2.size
   have hB1:=aa hbd hb2
   refine⟨hb2.mono hs1,Rf.pl_fork ?_ ?_⟩
   ·go_wp2_with (go_at_call 11;refine(hLR v1 hB1).mono ?_;rintro e v2 ⟨vr,xs,rfl,own,hall,hb3⟩)
    obtain⟨A1,c5,rfl,_,_⟩:=own_slice own
    have hs3:w1.heap.size<=v2.heap.size:=Nat.le_trans hs2 hb3.size
    refine⟨hb3.mono hs2,Rf.pl_quiet ?_⟩
    have hal:Below v2.heap.size v2 (v2.alloc (.cells #[.slice none 0 0,.slice none 0 0] 25)):=blw
    have HF:Hid (rJ w1 ((v2.alloc (.cells #[.slice none 0 0,.slice none 0 0] 25)).setRow v2.heap.size #[.slice (some ⟨gA,0,none⟩) vars.length (vars.length+12),.slice A1 rows.length c5] ) v2.heap.size vars rows):=
     kA (heap_alloc_new v2 _) hs3 ((hL.below hb3 hL.lt).below hal (Nat.lt_of_lt_of_le hL.lt hb3.size)) hs2 (own_below own hal (Nat.le_refl _)) (hall.mono λ_ _ _ h=>h.later hal) (aa (aa hB1 hb3) hal)
    clear own hall hL hal hB1 hb3 hb2
    iterate 1 go_big_quiet_step (fail)
    refine wpQuiet_nil (Rf.pl_one ?_)
    go_wp2
    first|refine⟨(Below.refl _ _).alloc hs3 _,Rf.pl_one ?_⟩|refine Rf.pl_one ?_
    go_wp2_with (refine wpList_store_row rfl 25 _ _ rfl rfl rfl cE (heap_alloc_new _ _) rfl rfl ?_)
    first|refine⟨below_setRow (Below.refl _ _) hs3 _,Rf.pl_done ?_⟩|refine Rf.pl_done ?_
    refine hM _ _ (Met.intro (hJ _ _ ?_))
    (repeat apply Exists.intro)
    exact⟨⟨_,rfl,HF.out⟩,rfl⟩
   ·go_wp2
    have hal:Below v1.heap.size v1 (v1.alloc (.cells #[.slice none 0 0,.slice none 0 0] 25)):=blw
    have hg:=heap_alloc_new v1 (.cells #[.slice none 0 0,.slice none 0 0] 25)
    first|refine⟨(Below.refl _ _).alloc hs2 _,Rf.pl_one ?_⟩|refine Rf.pl_one ?_
    have hL2:=hL.below hal hL.lt
    have hB2:=aa hB1 hal
    generalize v1.alloc (.cells #[.slice none 0 0,.slice none 0 0] 25)=v9 at *
    have hs9:w1.heap.size<=v9.heap.size:=Nat.le_trans hs2 hal.size
    go_wp2_with (go_at_call 11;refine(hLR v9 hB2).mono ?_;rintro e v2 ⟨vr,xs,rfl,own,hall,hb3⟩)
    obtain⟨A1,c5,rfl,_,_⟩:=own_slice own
    refine⟨hb3.mono hs9,Rf.pl_quiet ?_⟩
    have hg2:=KeepT.below hb3 _ _ _ hg
    have HG2:=Lib.hid hg2
    have HF:Hid (rJ w1 (v2.setRow v1.heap.size #[.slice (some ⟨gA,0,none⟩) vars.length (vars.length+12),.slice A1 rows.length c5] ) v1.heap.size vars rows):=kA hg2 hs2 (hL2.below hb3 hL2.lt) hs9 own hall (aa hB2 hb3)
    clear own hall hL hL2 hal hB1 hB2 hb3 hb2 hg hg2
    iterate 1 go_big_quiet_step (fail)
    refine wpQuiet_nil (Rf.pl_one ?_)
    go_wp2_with (refine wpList_store_row rfl 25 _ _ rfl rfl rfl cE HG2.out rfl rfl ?_)
    first|refine⟨below_setRow (Below.refl _ _) hs2 _,Rf.pl_done ?_⟩|refine Rf.pl_done ?_
    refine hM _ _ (Met.intro (hJ _ _ ?_))
    (repeat apply Exists.intro)
    exact⟨⟨_,rfl,HF.out⟩,rfl⟩
  ·clear y0 y9
   go_wp2
   have hal:Below wd.heap.size wd (wd.alloc (.cells #[.slice none 0 0,.slice none 0 0] 25)):=blw
   have hg:=heap_alloc_new wd (.cells #[.slice none 0 0,.slice none 0 0] 25)
   first|refine⟨(Below.refl _ _).alloc hs1 _,Rf.pl_one ?_⟩|refine Rf.pl_one ?_
   have hB2:=aa hbd hal
   generalize wd.alloc (.cells #[.slice none 0 0,.slice none 0 0] 25)=v9 at *
   have hs9:w1.heap.size<=v9.heap.size:=Nat.le_trans hs1 hal.size
   go_wp2_with (go_at_call 10;refine(hLT v9 hB2).mono ?_;rintro e v1 ⟨gA,rfl,hgA,hL,hb2⟩)
   have hs2:w1.heap.size<=v1.heap.size:=Nat.le_trans hs9 hb2.size
   have hB1:=aa hB2 hb2
   refine⟨hb2.mono hs9,Rf.pl_one ?_⟩
   go_wp2_with (go_at_call 11;refine(hLR v1 hB1).mono ?_;rintro e v2 ⟨vr,xs,rfl,own,hall,hb3⟩)
   obtain⟨A1,c5,rfl,_,_⟩:=own_slice own
   refine⟨hb3.mono hs2,Rf.pl_quiet ?_⟩
   have hg2:=KeepT.below hb3 _ _ _ (KeepT.below hb2 _ _ _ hg)
   have HG2:=Lib.hid hg2
   have HF:Hid (rJ w1 (v2.setRow wd.heap.size #[.slice (some ⟨gA,0,none⟩) vars.length (vars.length+12),.slice A1 rows.length c5] ) wd.heap.size vars rows):=kA hg2 hs1 (hL.below hb3 hL.lt) hs2 own hall (aa hB1 hb3)
   clear own hall hL hal hB1 hB2 hb3 hb2 hg hg2
   iterate 1 go_big_quiet_step (fail)
   refine wpQuiet_nil (Rf.pl_one ?_)
   go_wp2_with (refine wpList_store_row rfl 25 _ _ rfl rfl rfl cE HG2.out rfl rfl ?_)
   first|refine⟨below_setRow (Below.refl _ _) hs1 _,Rf.pl_done ?_⟩|refine Rf.pl_done ?_
   refine hM _ _ (Met.intro (hJ _ _ ?_))
   (repeat apply Exists.intro)
   exact⟨⟨_,rfl,HF.out⟩,rfl⟩
 obtain⟨bi,rfl,gA,A1,c5,hi,hLt,hc5,hLr,hb5⟩:=hcut
 obtain⟨W5,hW5⟩:∃V:World,V=wc:=⟨_,rfl⟩
 subst hW5
 clear a0 a9 hLT hLR
 replace b0:=ab b0 hb5
 replace b1:=ab b1 hb5
 replace b2:=ab b2 hb5
 replace b3:=ab b3 hb5
 replace b4:=ab b4 hb5
 replace b5:=ab b5 hb5
 replace b6:=ab b6 hb5
 replace b7:=ab b7 hb5
 have hQ5:RdQ n W5 [.bool q.ask,.bool q.dist,.slice a1 q.vars.length c1,.slice a2 q.pats.length c2,.slice a3 q.fils.length c3,.slice a4 q.ord.length c4,.int .i64 q.lim,.int .i64 q.off] q:=((H.out.2.2.1.later H.out.2.2.2.2.2.2.2.2.2.1).later H1.out).later hb5
 have hLQ:=Dt n q _ W5 hQ5 H.out.2.2.2.2.2.2.2.2.2.2.2.2 H.out.2.2.2.2.2.2.2.2.1.1 H.out.2.2.2.2.2.2.2.2.1.2.1 H.out.2.2.2.2.2.2.2.2.1.2.2.2.1
 have HI:=Lib.hid (And.intro hi (And.intro hLt (And.intro hc5 (And.intro hLr hb5))))
 clear hi hLt hc5 hLr hb5 hQ5
 go_wp2_with fail
 refine hLQ.mono ?_
 rintro e w2 ⟨ds,rfl,hL2,hb2⟩
 have hL2':=hL2
 obtain⟨g1,g2,g3,g4,xs,rfl,-,-,-,-,-⟩:=hL2'
 have hQi:(Tryz.prog.info? 30).map (·.size)=some 8:=by kernel_rfl
 obtain⟨W4,hW4⟩:∃V:World,(w2.alloc (.cells #[.bool false,.bool false,.slice none 0 0,.slice none 0 0,.slice none 0 0,.slice none 0 0,.int .i64 0,.int .i64 0] 30)).setRow w2.heap.size #[.bool q.ask,.bool q.dist,.slice (some ⟨g1,0,none⟩) q.vars.length (q.vars.length+12),.slice (some ⟨g2,0,none⟩) q.pats.length (q.pats.length+12),.slice (some ⟨g3,0,none⟩) q.fils.length (q.fils.length+12),.slice (some ⟨g4,0,none⟩) q.ord.length (q.ord.length+12),.int .i64 q.lim,.int .i64 q.off]=V:=⟨_,rfl⟩
 have hrow:W4.heap[w2.heap.size]?=some (.cells #[.bool q.ask,.bool q.dist,.slice (some ⟨g1,0,none⟩) q.vars.length (q.vars.length+12),.slice (some ⟨g2,0,none⟩) q.pats.length (q.pats.length+12),.slice (some ⟨g3,0,none⟩) q.fils.length (q.fils.length+12),.slice (some ⟨g4,0,none⟩) q.ord.length (q.ord.length+12),.int .i64 q.lim,.int .i64 q.off] 30 (0,0)):=by rw[←hW4];exact setRow_heap _ _ _ _ _ _ (heap_alloc_new w2 (.cells #[.bool false,.bool false,.slice none 0 0,.slice none 0 0,.slice none 0 0,.slice none 0 0,.int .i64 0,.int .i64 0] 30))
 have hB34:Below w2.heap.size w2 W4:=by rw[←hW4];exact below_setRow ((Below.refl _ _).alloc (Nat.le_refl _) _) (Nat.le_refl _) _
 have hb25:=aa hb2 hB34
 have hB54:=aa (aa H1.out HI.out.2.2.2.2) hb25
 have hBw4:=aa H.out.2.2.2.2.2.2.2.2.2.1 hB54
 obtain⟨B0,hB00⟩:∃g:Nat,w1.heap.size=g:=⟨_,rfl⟩
 obtain⟨B9,hB99⟩:∃g:Nat,W5.heap.size=g:=⟨_,rfl⟩
 have hFr:Fr9 q vars rows A B c d a1 a2 a3 a4 c1 c2 c3 c4 w.heap.size (w.heap.size+1) bi w2.heap.size gA A1 c5 g1 g2 g3 g4 B0 B9 W4:=by
  rw[←hB00,←hB99]
  exact⟨KeepT.below hB54 _ _ _ H.out.2.2.2.2.2.2.2.2.2.2.1,KeepT.below hB54 _ _ _ H.out.2.2.2.2.2.2.2.2.2.2.2.1,KeepT.below hb25 _ _ _ HI.out.1,hrow,HI.out.2.1.below hb25 HI.out.2.1.lt,HI.out.2.2.1,RdL.mono HI.out.2.2.2.1 hb25 (λ_ _ _ h=>aV.later h hb25),hL2.later hB34,H.out.2.2.2.1.later hBw4,H.out.2.2.2.2.1.later hBw4,H.out.2.2.1.later hBw4⟩
 have HFr:=Lib.hid hFr
 have HW4:=Lib.hid hW4
 have HB4:=Lib.hid hBw4
 have HBa:=Lib.hid hB54
 obtain⟨⟨z0,z1⟩,⟨d0,d1,d2,d3,d4,d5,d6,d7⟩,⟨i0,i1⟩,⟨p0,p1,p2,p3,p4,p5,p6,p7⟩⟩:=hFr.cells
 have l4:w.heap.size+1<W4.heap.size:=ae d0
 have lbi:bi<W4.heap.size:=ae i0
 have lbx:w2.heap.size<W4.heap.size:=ae p0
 clear hW4 hb2 hB34 hL2 hB54 hb25 hBw4 hFr hLQ hB00 hB99 HI
 go_wp2_with (refine wpList_store_row rfl 30 _ _ rfl rfl rfl hQi (heap_alloc_new _ _) rfl rfl ?_;rw[HW4.out];clear b0 b1 b2 b3 b4 b5 b6 b7)
 clear hrow
 clear z0 z1 d0 d1 d2 d3 d4 d5 d6 d7 i0 i1 p0 p1 p2 p3 p4 p5 p6 p7
 have HBa0:=HBa
 obtain⟨N,rs,⟨hrsl,hrsz⟩,hPA,hRA⟩:=un HG.out.1 q.vars n q.fils q.ord q.ask q.dist q.off q.lim HG.out.2.1 HG.out.2.2.2 HG.out.2.2.1 (λx hx=>(H.out.2.2.2.2.2.2.2.2.1.2.2.2.2.2.2.1 x hx).e) (λx hx=>(H.out.2.2.2.2.2.2.2.2.1.2.2.2.2.2.2.1 x hx).n)
 have hx4:=aX HFr.out.lq.rdQ
 have hA5:=hPA _ _ _ _ (some ⟨g1,0,none⟩) (some ⟨g2,0,none⟩) (some ⟨g3,0,none⟩) (some ⟨g4,0,none⟩) (q.vars.length+12) q.pats.length (q.pats.length+12) (q.fils.length+12) (q.ord.length+12) W4 (HFr.out.tabIn HG.out.1) (H.out.1.step HB4.out) (H.out.2.1.step HB4.out) (by omega) hx4.2.1 hx4.2.2.2.1 hx4.2.2.2.2
 have HRA:=Lib.hid hRA
 clear hPA hx4 hRA
 refine hA5.mono ?_
 rintro e w5 ⟨v5,rfl,hb5,hin⟩
 obtain⟨A5,c9,e5,hc9,hsh⟩:=hin.sh
 have hr5:RdRs w5 A5 rs:=by
  obtain⟨A6,c6,e6,_,h6⟩:=hin.rd
  rw[e5]at e6
  injection e6 with e6
  rw[e6];exact h6
 subst e5
 obtain⟨m,hm⟩:∃m,rs.length=m:=⟨_,rfl⟩
 have HRS:=Lib.hid (And.intro hsh (And.intro hr5 (And.intro hb5 (And.intro hrsz hm))))
 have HF5:=Lib.hid (HFr.out.later hb5)
 rw[hm]at hc9 hrsl ⊢
 clear hA5 hin hsh hr5 hb5 hrsz hm
 obtain⟨⟨z0,z1⟩,⟨d0,d1,d2,d3,d4,d5,d6,d7⟩,⟨i0,i1⟩,⟨p0,p1,p2,p3,p4,p5,p6,p7⟩⟩:=HF5.out.cells
 have l5:=ae d0
 go_upto_region 6 with (fail)
 refine Rf.p0 w5.heap.size _ (.quiet [0,2] (.one 1 (.one 3 (.quiet [4,5,6,7,8] (.done))))) ?_ (λa w h=>h)
 intro wd hbd hwz
 have y0:=cellL z0 hbd
 have y1:=cellL z1 hbd
 have x0:=cellL d0 hbd
 have x1:=cellL d1 hbd
 have x2:=cellL d2 hbd
 have x3:=cellL d3 hbd
 have x4:=cellL d4 hbd
 have x5:=cellL d5 hbd
 have x6:=cellL d6 hbd
 have x7:=cellL d7 hbd
 have HWZ:=Lib.hid hwz
 have hs1:w5.heap.size<=wd.heap.size:=hbd.size
 have HBD:=Lib.hid hbd
 clear hwz z0 z1 d0 d1 d2 d3 d4 d5 d6 d7 i0 i1 p0 p1 p2 p3 p4 p5 p6 p7 hbd
 refine Rf.pl_quiet ?_
 iterate 2 go_big_quiet_step (fail)
 refine wpQuiet_nil (Rf.pl_one ?_)
 clear y0 y1 x0 x1 x2 x3 x4 x5 x6 x7
 go_wp2_with (go_at_call 15;refine(dG A B vars.length c rows.length d wd).mono ?_;rintro e w6 ⟨rfl,hb6⟩)
 have hB6:=aa HBD.out hb6
 have hs6:w5.heap.size<=w6.heap.size:=hB6.size
 refine⟨hb6.mono hs1,Rf.pl_one ?_⟩
 have hF6:=HF5.out.later hB6
 have hq6:=aX hF6.rq
 have hR7:=HRA.out _ _ _ _ a1 a2 a3 a4 c1 q.pats.length c2 c3 c4 w6 (hF6.tab HG.out.1 H.out.2.2.2.2.2.2.1 H.out.2.2.2.2.2.2.2.1) hq6.1 hq6.2.1 hq6.2.2.2.1 hq6.2.2.2.2
 have HB6:=Lib.hid hB6
 clear hF6 hq6 hb6 hB6
 go_wp2_with (go_at_call 38;refine hR7.mono ?_;rintro e w7 ⟨B7,e7,rfl,hb7,hd7,hr7⟩)
 refine⟨hb7.mono hs6,Rf.pl_quiet ?_⟩
 rw[HRS.out.2.2.2.2]at hd7 ⊢
 have hB57:=aa HB6.out hb7
 have hSm:=cT rs rs A5 B7 c9 e7 m m w7 HRS.out.2.2.2.2 HRS.out.2.2.2.2 (by omega) (by omega) (λr hr=>by have:=HRS.out.2.2.2.1 r hr;omega) (λr hr=>by have:=HRS.out.2.2.2.1 r hr;omega) (HRS.out.2.1.later hB57) hr7
 rw[show decide (rs=rs)=true from decide_eq_true rfl]at hSm
 have HB57:=Lib.hid hB57
 clear hR7 hb7 hB57 hd7 hr7
 iterate 5 go_big_quiet_step (fail)
 refine wpQuiet_nil (Rf.pl_done ?_)
 have hNN:(N == N)=true:=by simp
 go_wp2_with (go_at_call 31;refine hSm.mono ?_;rintro e w8 ⟨rfl,hb8⟩;have HB8:=Lib.hid (aa HB57.out hb8);clear hb8 hSm)
 have hS8:Shape W4.heap.size w5 w8:=Shape.below HRS.out.2.2.1.size HB8.out
 have HS8:=Lib.hid hS8
 clear hS8
 go_loopw [12] (λi wr=>∃k:Nat,k<=m/\i=.int .i64 k/\Hid (Shape W4.heap.size w5 wr)) (λi _=>m-(intOf i).toNat)
 case atStart=>exact⟨0,by omega,rfl,HS8⟩
 case round =>
  clear HS8
  obtain⟨k,hk,rfl,HS⟩:=hrel
  by_cases hlt:k<m
  ·obtain⟨row,hrow⟩:∃row,rs[k]?=some row:=⟨_,List.getElem?_eq_getElem (by rw[HRS.out.2.2.2.2];exact hlt)⟩
   obtain⟨g,o,v,rfl,hcell,hO⟩:=(HRS.out.1.on HS.out).at_ hrow
   have hC:=zH hO (HRS.out.2.2.2.1 row (List.mem_of_getElem? hrow))
   obtain⟨A8,n8,c8,rfl⟩:∃A n c,v=.slice A n c:=by
    rcases hO with h|⟨g5,cap5,h,_⟩
    ·injection h with h;exact⟨_,_,_,h⟩
    ·injection h with h;exact⟨_,_,_,h⟩
   clear hrow hO
   go_wp2_with (go_at_call 39;refine hC.mono ?_;rintro e w9 ⟨⟨v,rfl⟩,hS3⟩;have HS3:=Lib.hid (HS.out.trans hS3);clear hS3 hC hcell)
   go_roundw
   case rel=>exact⟨k+1,by omega,by go_num,HS3⟩
   case measure=>simp[intOf];omega
  ·have HBX:=Lib.hid (HRS.out.2.2.1.trans HS.out.1)
   clear HS
   obtain⟨X,hX⟩:∃X,X=wr:=⟨_,rfl⟩
   subst hX
   have HFx:=Lib.hid (HFr.out.later HBX.out)
   have HBw:=Lib.hid (aa HB4.out HBX.out)
   obtain⟨⟨z0,z1⟩,⟨d0,d1,d2,d3,d4,d5,d6,d7⟩,⟨i0,i1⟩,⟨p0,p1,p2,p3,p4,p5,p6,p7⟩⟩:=HFx.out.cells
   have hKT:=kz vars gA A c X HFx.out.lt HFx.out.rv hlv
   go_wp2_with fail
   refine hKT.mono ?_
   rintro e u1 ⟨rfl,hc1⟩
   have HF1:=Lib.hid (HFx.out.later hc1)
   have HB1:=Lib.hid (aa HBw.out hc1)
   have HC1:=Lib.hid (aa HBX.out hc1)
   clear z0 z1 d0 d1 d2 d3 d4 d5 d6 d7 i0 i1 p0 p1 p2 p3 p4 p5 p6 p7 hKT hc1
   obtain⟨⟨z0,z1⟩,⟨d0,d1,d2,d3,d4,d5,d6,d7⟩,⟨i0,i1⟩,⟨p0,p1,p2,p3,p4,p5,p6,p7⟩⟩:=HF1.out.cells
   have hKR:=sS B0 rows A1 B rows.length c5 d u1 rfl (by have:=HG.out.1.2.1;omega) (λr hr=>by have:=(HG.out.1.2.2 r hr).1;omega) HF1.out.lr HF1.out.rr
   go_wp2_with fail
   refine hKR.mono ?_
   rintro e u2 ⟨rfl,hc2⟩
   have HF2:=Lib.hid (HF1.out.later hc2)
   have HB2:=Lib.hid (aa HB1.out hc2)
   have HC2:=Lib.hid (aa HC1.out hc2)
   clear z0 z1 d0 d1 d2 d3 d4 d5 d6 d7 i0 i1 p0 p1 p2 p3 p4 p5 p6 p7 hKR hc2
   obtain⟨⟨z0,z1⟩,⟨d0,d1,d2,d3,d4,d5,d6,d7⟩,⟨i0,i1⟩,⟨p0,p1,p2,p3,p4,p5,p6,p7⟩⟩:=HF2.out.cells
   have hKQ:=Du n B9 q _ _ u2 HF2.out.lq HF2.out.rq H.out.2.2.2.2.2.2.2.2.2.2.2.2 H.out.2.2.2.2.2.2.2.2.1.1 H.out.2.2.2.2.2.2.2.2.1.2.1 H.out.2.2.2.2.2.2.2.2.1.2.2.2.1
   go_wp2_with fail
   refine hKQ.mono ?_
   rintro e u3 ⟨rfl,hc3⟩
   have HB3:=Lib.hid (aa HB2.out hc3)
   have hA9:=HAw.out u3 (aa HBa0.out (aa HC2.out hc3))
   clear z0 z1 d0 d1 d2 d3 d4 d5 d6 d7 i0 i1 p0 p1 p2 p3 p4 p5 p6 p7 hKQ hc3
   go_wp2_with (refine hA9.mono ?_;rintro e u4 ⟨rfl,hc4⟩)
   go_ret
   exact⟨rfl,aa HB3.out hc4⟩
end Go.Proofs.YtoejnneknpoanaaGreatDoor
