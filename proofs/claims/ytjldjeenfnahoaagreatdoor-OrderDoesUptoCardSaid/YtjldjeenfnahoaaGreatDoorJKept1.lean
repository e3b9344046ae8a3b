/- The kit's flat lists, kept: printed by gen/kept.py. -/
import Derived.Test.YtjldjeenfnahoaaGreatDoorJCopyQ
set_option maxHeartbeats 2000000
set_option maxRecDepth 100000
namespace Go.Proofs.YtjldjeenfnahoaaGreatDoor
open Go Go.RowKit Um Fm
theorem lh (a:Tm) (W:World):(binOp .eql 65 (.agg #[.int .i64 a.k,.string a.x,.string a.l,.string a.y]) (.agg #[.int .i64 a.k,.string a.x,.string a.l,.string a.y])).run Tryz.prog W=.ok (.bool true) W:=by
 have h0:=Tryz.underlying65
 have h1:=Tryz.underlying63
 have h2:=Tryz.underlying9
 simp only[go_sem,h0]
 simp[go_sem,h0,h1,h2]
theorem jV (a:Pat) (W:World):(binOp .eql 101 (.agg #[.string a.s.v,.int .i64 a.s.t.k,.string a.s.t.x,.string a.s.t.l,.string a.s.t.y,.string a.p.v,.int .i64 a.p.t.k,.string a.p.t.x,.string a.p.t.l,.string a.p.t.y,.string a.o.v,.int .i64 a.o.t.k,.string a.o.t.x,.string a.o.t.l,.string a.o.t.y]) (.agg #[.string a.s.v,.int .i64 a.s.t.k,.string a.s.t.x,.string a.s.t.l,.string a.s.t.y,.string a.p.v,.int .i64 a.p.t.k,.string a.p.t.x,.string a.p.t.l,.string a.p.t.y,.string a.o.v,.int .i64 a.o.t.k,.string a.o.t.x,.string a.o.t.l,.string a.o.t.y])).run Tryz.prog W=.ok (.bool true) W:=by
 have h0:=Tryz.underlying101
 have h1:=Tryz.underlying9
 have h2:=Tryz.underlying99
 have h3:=Tryz.underlying65
 have h4:=Tryz.underlying63
 simp only[go_sem,h0]
 simp[go_sem,h0,h1,h2,h3,h4]
theorem li (a:Ky) (W:World):(binOp .eql 61 (.agg #[.string a.v,.bool a.d]) (.agg #[.string a.v,.bool a.d])).run Tryz.prog W=.ok (.bool true) W:=by
 have h0:=Tryz.underlying61
 have h1:=Tryz.underlying9
 have h2:=Tryz.underlying4
 simp only[go_sem,h0]
 simp[go_sem,h0,h1,h2]
theorem ob (l:List ByteArray) (g:Nat) (A:Option Addr) (c:Nat) (w:World) (hg:aG 9 w g ((l++marksOf (λi=>mkT 1 i)).map Value.string)) (hr:Rd w A (l.map Value.string)) (hl:l.length<=1048576) :
  Calls Tryz.prog 25 #[.slice (some ⟨g,0,none⟩) l.length (l.length+12),.slice A l.length c] w λe w'=>e=.returned (.bool true)/\Below w.heap.size w w':=by
 have hlm:(l++marksOf (λi=>mkT 1 i)).length=l.length+12:=by simp[marksOf]
 go_enter Tryz.func25,Tryz.ntmps25
 go_wp2
 go_loopw [6] (λi wr=>∃k:Nat,k<=l.length+12/\i=.int .i64 k/\Below w.heap.size w wr) (λi _=>l.length+12-(intOf i).toNat)
 case atStart=>exact⟨0,by omega,rfl,Below.refl _ _⟩
 case round =>
  obtain⟨k,hk,rfl,hB⟩:=hrel
  by_cases hlt:k<l.length+12
  ·have hlt0:=hlt
   have hrd:=hg.rd.of_belowL hB
   have hrl:=hr.of_belowL hB
   clear hr hg
   by_cases hkn:k<l.length
   ·obtain⟨x,hx⟩:∃x,l[k]?=some x:=⟨_,List.getElem?_eq_getElem hkn⟩
    have hxm:(l++marksOf (λi=>mkT 1 i))[k]?=some x:=by rw[List.getElem?_append_left hkn];exact hx
    obtain⟨g0,o0,he0,c0⟩:=hrd.at_ (j:=k) (u:=.string x) (by simp only[List.getElem?_map,hxm,Option.map_some])
    injection he0 with he0;injection he0 with h2 h3;subst h2;subst h3
    rw[Nat.zero_add]at c0
    obtain⟨g1,o1,rfl,d0⟩:=hrl.at_ (j:=k) (u:=.string x) (by simp[hx])
    have x0:=λd os=>ab c0 (below_regrown wr d os)
    have x1:=λd os=>ab d0 (below_regrown wr d os)
    clear c0 d0
    have hd1:decide ((k:Int)<(l.length:Int))=true:=by simp;omega
    have hd2:decide (l.length<=k)=false:=by simp;omega
    clear hx hxm hrd hrl hlm
    go_wp2
    refine wrq ?_;(repeat (any_goals (go_big_quiet_step ((fail)))));all_goals (refine wqn ?_;intro d9 os9)
    go_wp2
    go_roundw
    case rel=>exact⟨k+1,by omega,by go_num,blw⟩
    case measure=>simp[intOf];omega
   ·have hmk:=λW=>kC 1 ((k:Int)-l.length) W (by omega) (by omega) (by omega) (by omega)
    have hxm:(l++marksOf (λi=>mkT 1 i))[k]?=some ((λi=>mkT 1 i) ((k:Int)-l.length)):=iP _ _ _ (by omega) hlt
    obtain⟨g0,o0,he0,c0⟩:=hrd.at_ (j:=k) (u:=.string (mkT 1 ((k:Int)-l.length))) (by simp only[List.getElem?_map,hxm,Option.map_some])
    injection he0 with he0;injection he0 with h2 h3;subst h2;subst h3
    rw[Nat.zero_add]at c0
    have x0:=λd os=>ab c0 (below_regrown wr d os)
    clear c0
    generalize mkT 1 ((k:Int)-l.length)=s at *
    have hd1:decide ((k:Int)<(l.length:Int))=false:=by simp;omega
    have hd2:decide (l.length<=k)=true:=by simp;omega
    have e1:IntKind.i64.wrap ((k:Int)-l.length)=(k:Int)-l.length:=IntWalk.i64_in _ (by omega)
    clear hxm hrd hrl hlm
    go_wp2
    refine wrq ?_;(repeat (any_goals (go_big_quiet_step ((go_at_call 33;exact Calls.regrown_of (hmk _))))));all_goals (refine wqn ?_;intro d9 os9)
    go_wp2
    go_roundw
    case rel=>exact⟨k+1,by omega,by go_num,blw⟩
    case measure=>simp[intOf];omega
  ·go_wp2
   go_ret
   exact⟨rfl,hB⟩
theorem vW (l:List Tm) (g:Nat) (A:Option Addr) (c:Nat) (w:World) (hg:aG 65 w g ((l++marksOf (eZ)).flatMap tmC)) (hr:Rd w A (l.flatMap tmC)) (hl:l.length<=1048576) :
  Calls Tryz.prog 54 #[.slice (some ⟨g,0,none⟩) l.length (l.length+12),.slice A l.length c] w λe w'=>e=.returned (.bool true)/\Below w.heap.size w w':=by
 have hlm:(l++marksOf (eZ)).length=l.length+12:=by simp[marksOf]
 go_enter Tryz.func54,Tryz.ntmps54
 go_wp2
 go_loopw [6] (λi wr=>∃k:Nat,k<=l.length+12/\i=.int .i64 k/\Below w.heap.size w wr) (λi _=>l.length+12-(intOf i).toNat)
 case atStart=>exact⟨0,by omega,rfl,Below.refl _ _⟩
 case round =>
  obtain⟨k,hk,rfl,hB⟩:=hrel
  by_cases hlt:k<l.length+12
  ·have hlt0:=hlt
   have hrd:=hg.rd.of_belowL hB
   have hrl:=hr.of_belowL hB
   clear hr hg
   by_cases hkn:k<l.length
   ·obtain⟨x,hx⟩:∃x,l[k]?=some x:=⟨_,List.getElem?_eq_getElem hkn⟩
    have hxm:(l++marksOf (eZ))[k]?=some x:=by rw[List.getElem?_append_left hkn];exact hx
    obtain⟨g0,o0,csx,he0,-,rfl,hcx⟩:=((RdL.flatC (sz:=4) (λ_=>rfl)).2 hrd).at_ (by omega) hxm
    injection he0 with he0;injection he0 with h2 h3;subst h2;subst h3
    simp only[Nat.zero_add]at hcx
    have c0:∀d os,(Sort.grow (redrawn wr d) os).cell? ⟨g,k*4,none⟩=some (.int .i64 x.k):=λd os=>ab (hcx 0 _ rfl) (below_regrown wr d os)
    have c1:∀d os,(Sort.grow (redrawn wr d) os).cell? ⟨g,k*4+1,none⟩=some (.string x.x):=λd os=>ab (hcx 1 _ rfl) (below_regrown wr d os)
    have c2:∀d os,(Sort.grow (redrawn wr d) os).cell? ⟨g,k*4+2,none⟩=some (.string x.l):=λd os=>ab (hcx 2 _ rfl) (below_regrown wr d os)
    have c3:∀d os,(Sort.grow (redrawn wr d) os).cell? ⟨g,k*4+3,none⟩=some (.string x.y):=λd os=>ab (hcx 3 _ rfl) (below_regrown wr d os)
    obtain⟨g1,o1,csy,rfl,-,rfl,hcy⟩:=((RdL.flatC (sz:=4) (λ_=>rfl)).2 hrl).at_ (by omega) hx
    have d0:∀d os,(Sort.grow (redrawn wr d) os).cell? ⟨g1,o1+k*4,none⟩=some (.int .i64 x.k):=λd os=>ab (hcy 0 _ rfl) (below_regrown wr d os)
    have d1:∀d os,(Sort.grow (redrawn wr d) os).cell? ⟨g1,o1+k*4+1,none⟩=some (.string x.x):=λd os=>ab (hcy 1 _ rfl) (below_regrown wr d os)
    have d2:∀d os,(Sort.grow (redrawn wr d) os).cell? ⟨g1,o1+k*4+2,none⟩=some (.string x.l):=λd os=>ab (hcy 2 _ rfl) (below_regrown wr d os)
    have d3:∀d os,(Sort.grow (redrawn wr d) os).cell? ⟨g1,o1+k*4+3,none⟩=some (.string x.y):=λd os=>ab (hcy 3 _ rfl) (below_regrown wr d os)
    have hself:=λW=>lh x W
    have hd1:decide ((k:Int)<(l.length:Int))=true:=by simp;omega
    have hd2:decide (l.length<=k)=false:=by simp;omega
    clear hx hxm hrd hrl hlm hcx hcy
    go_wp2
    refine wrq ?_;(repeat (any_goals (go_big_quiet_step ((fail)))));all_goals (refine wqn ?_;intro d9 os9)
    go_wp2
    go_roundw
    case rel=>exact⟨k+1,by omega,by go_num,blw⟩
    case measure=>simp[intOf];omega
   ·have hmk:=λW=>yA ((k:Int)-l.length) W (by omega) (by omega)
    have hxm:(l++marksOf (eZ))[k]?=some ((eZ) ((k:Int)-l.length)):=iP _ _ _ (by omega) hlt
    obtain⟨g0,o0,csx,he0,-,rfl,hcx⟩:=((RdL.flatC (sz:=4) (λ_=>rfl)).2 hrd).at_ (by omega) hxm
    injection he0 with he0;injection he0 with h2 h3;subst h2;subst h3
    simp only[Nat.zero_add]at hcx
    have hself:=λW=>lh (eZ ((k:Int)-l.length)) W
    simp only[eZ,tmC]at hself hcx hmk
    generalize 8000024+((k:Int)-l.length)=s at *
    have c0:∀d os,(Sort.grow (redrawn wr d) os).cell? ⟨g,k*4,none⟩=some (.int .i64 s):=λd os=>ab (hcx 0 _ rfl) (below_regrown wr d os)
    have c1:∀d os,(Sort.grow (redrawn wr d) os).cell? ⟨g,k*4+1,none⟩=some (.string ⟨#[]⟩):=λd os=>ab (hcx 1 _ rfl) (below_regrown wr d os)
    have c2:∀d os,(Sort.grow (redrawn wr d) os).cell? ⟨g,k*4+2,none⟩=some (.string ⟨#[]⟩):=λd os=>ab (hcx 2 _ rfl) (below_regrown wr d os)
    have c3:∀d os,(Sort.grow (redrawn wr d) os).cell? ⟨g,k*4+3,none⟩=some (.string ⟨#[]⟩):=λd os=>ab (hcx 3 _ rfl) (below_regrown wr d os)
    have hd1:decide ((k:Int)<(l.length:Int))=false:=by simp;omega
    have hd2:decide (l.length<=k)=true:=by simp;omega
    have e1:IntKind.i64.wrap ((k:Int)-l.length)=(k:Int)-l.length:=IntWalk.i64_in _ (by omega)
    clear hxm hrd hrl hlm hcx
    go_wp2
    refine wrq ?_;(repeat (any_goals (go_big_quiet_step ((go_at_call 62;exact Calls.regrown_of (hmk _))))));all_goals (refine wqn ?_;intro d9 os9)
    go_wp2
    go_roundw
    case rel=>exact⟨k+1,by omega,by go_num,blw⟩
    case measure=>simp[intOf];omega
  ·go_wp2
   go_ret
   exact⟨rfl,hB⟩
theorem pi (l:List Pat) (g:Nat) (A:Option Addr) (c:Nat) (w:World) (hg:aG 101 w g ((l++marksOf (iM)).flatMap cPat)) (hr:Rd w A (l.flatMap cPat)) (hl:l.length<=1048576) :
  Calls Tryz.prog 56 #[.slice (some ⟨g,0,none⟩) l.length (l.length+12),.slice A l.length c] w λe w'=>e=.returned (.bool true)/\Below w.heap.size w w':=by
 have hlm:(l++marksOf (iM)).length=l.length+12:=by simp[marksOf]
 go_enter Tryz.func56,Tryz.ntmps56
 go_wp2
 go_loopw [6] (λi wr=>∃k:Nat,k<=l.length+12/\i=.int .i64 k/\Below w.heap.size w wr) (λi _=>l.length+12-(intOf i).toNat)
 case atStart=>exact⟨0,by omega,rfl,Below.refl _ _⟩
 case round =>
  obtain⟨k,hk,rfl,hB⟩:=hrel
  by_cases hlt:k<l.length+12
  ·have hlt0:=hlt
   have hrd:=hg.rd.of_belowL hB
   have hrl:=hr.of_belowL hB
   clear hr hg
   by_cases hkn:k<l.length
   ·obtain⟨x,hx⟩:∃x,l[k]?=some x:=⟨_,List.getElem?_eq_getElem hkn⟩
    have hxm:(l++marksOf (iM))[k]?=some x:=by rw[List.getElem?_append_left hkn];exact hx
    obtain⟨g0,o0,csx,he0,-,rfl,hcx⟩:=((RdL.flatC (sz:=15) (λ_=>rfl)).2 hrd).at_ (by omega) hxm
    injection he0 with he0;injection he0 with h2 h3;subst h2;subst h3
    simp only[Nat.zero_add]at hcx
    have c0:∀d os,(Sort.grow (redrawn wr d) os).cell? ⟨g,k*15,none⟩=some (.string x.s.v):=λd os=>ab (hcx 0 _ rfl) (below_regrown wr d os)
    have c1:∀d os,(Sort.grow (redrawn wr d) os).cell? ⟨g,k*15+1,none⟩=some (.int .i64 x.s.t.k):=λd os=>ab (hcx 1 _ rfl) (below_regrown wr d os)
    have c2:∀d os,(Sort.grow (redrawn wr d) os).cell? ⟨g,k*15+2,none⟩=some (.string x.s.t.x):=λd os=>ab (hcx 2 _ rfl) (below_regrown wr d os)
    have c3:∀d os,(Sort.grow (redrawn wr d) os).cell? ⟨g,k*15+3,none⟩=some (.string x.s.t.l):=λd os=>ab (hcx 3 _ rfl) (below_regrown wr d os)
    have c4:∀d os,(Sort.grow (redrawn wr d) os).cell? ⟨g,k*15+4,none⟩=some (.string x.s.t.y):=λd os=>ab (hcx 4 _ rfl) (below_regrown wr d os)
    have c5:∀d os,(Sort.grow (redrawn wr d) os).cell? ⟨g,k*15+5,none⟩=some (.string x.p.v):=λd os=>ab (hcx 5 _ rfl) (below_regrown wr d os)
    have c6:∀d os,(Sort.grow (redrawn wr d) os).cell? ⟨g,k*15+6,none⟩=some (.int .i64 x.p.t.k):=λd os=>ab (hcx 6 _ rfl) (below_regrown wr d os)
    have c7:∀d os,(Sort.grow (redrawn wr d) os).cell? ⟨g,k*15+7,none⟩=some (.string x.p.t.x):=λd os=>ab (hcx 7 _ rfl) (below_regrown wr d os)
    have c8:∀d os,(Sort.grow (redrawn wr d) os).cell? ⟨g,k*15+8,none⟩=some (.string x.p.t.l):=λd os=>ab (hcx 8 _ rfl) (below_regrown wr d os)
    have c9:∀d os,(Sort.grow (redrawn wr d) os).cell? ⟨g,k*15+9,none⟩=some (.string x.p.t.y):=λd os=>ab (hcx 9 _ rfl) (below_regrown wr d os)
    have c10:∀d os,(Sort.grow (redrawn wr d) os).cell? ⟨g,k*15+10,none⟩=some (.string x.o.v):=λd os=>ab (hcx 10 _ rfl) (below_regrown wr d os)
    have c11:∀d os,(Sort.grow (redrawn wr d) os).cell? ⟨g,k*15+11,none⟩=some (.int .i64 x.o.t.k):=λd os=>ab (hcx 11 _ rfl) (below_regrown wr d os)
    have c12:∀d os,(Sort.grow (redrawn wr d) os).cell? ⟨g,k*15+12,none⟩=some (.string x.o.t.x):=λd os=>ab (hcx 12 _ rfl) (below_regrown wr d os)
    have c13:∀d os,(Sort.grow (redrawn wr d) os).cell? ⟨g,k*15+13,none⟩=some (.string x.o.t.l):=λd os=>ab (hcx 13 _ rfl) (below_regrown wr d os)
    have c14:∀d os,(Sort.grow (redrawn wr d) os).cell? ⟨g,k*15+14,none⟩=some (.string x.o.t.y):=λd os=>ab (hcx 14 _ rfl) (below_regrown wr d os)
    obtain⟨g1,o1,csy,rfl,-,rfl,hcy⟩:=((RdL.flatC (sz:=15) (λ_=>rfl)).2 hrl).at_ (by omega) hx
    have d0:∀d os,(Sort.grow (redrawn wr d) os).cell? ⟨g1,o1+k*15,none⟩=some (.string x.s.v):=λd os=>ab (hcy 0 _ rfl) (below_regrown wr d os)
    have d1:∀d os,(Sort.grow (redrawn wr d) os).cell? ⟨g1,o1+k*15+1,none⟩=some (.int .i64 x.s.t.k):=λd os=>ab (hcy 1 _ rfl) (below_regrown wr d os)
    have d2:∀d os,(Sort.grow (redrawn wr d) os).cell? ⟨g1,o1+k*15+2,none⟩=some (.string x.s.t.x):=λd os=>ab (hcy 2 _ rfl) (below_regrown wr d os)
    have d3:∀d os,(Sort.grow (redrawn wr d) os).cell? ⟨g1,o1+k*15+3,none⟩=some (.string x.s.t.l):=λd os=>ab (hcy 3 _ rfl) (below_regrown wr d os)
    have d4:∀d os,(Sort.grow (redrawn wr d) os).cell? ⟨g1,o1+k*15+4,none⟩=some (.string x.s.t.y):=λd os=>ab (hcy 4 _ rfl) (below_regrown wr d os)
    have d5:∀d os,(Sort.grow (redrawn wr d) os).cell? ⟨g1,o1+k*15+5,none⟩=some (.string x.p.v):=λd os=>ab (hcy 5 _ rfl) (below_regrown wr d os)
    have d6:∀d os,(Sort.grow (redrawn wr d) os).cell? ⟨g1,o1+k*15+6,none⟩=some (.int .i64 x.p.t.k):=λd os=>ab (hcy 6 _ rfl) (below_regrown wr d os)
    have d7:∀d os,(Sort.grow (redrawn wr d) os).cell? ⟨g1,o1+k*15+7,none⟩=some (.string x.p.t.x):=λd os=>ab (hcy 7 _ rfl) (below_regrown wr d os)
    have d8:∀d os,(Sort.grow (redrawn wr d) os).cell? ⟨g1,o1+k*15+8,none⟩=some (.string x.p.t.l):=λd os=>ab (hcy 8 _ rfl) (below_regrown wr d os)
    have d9:∀d os,(Sort.grow (redrawn wr d) os).cell? ⟨g1,o1+k*15+9,none⟩=some (.string x.p.t.y):=λd os=>ab (hcy 9 _ rfl) (below_regrown wr d os)
    have d10:∀d os,(Sort.grow (redrawn wr d) os).cell? ⟨g1,o1+k*15+10,none⟩=some (.string x.o.v):=λd os=>ab (hcy 10 _ rfl) (below_regrown wr d os)
    have d11:∀d os,(Sort.grow (redrawn wr d) os).cell? ⟨g1,o1+k*15+11,none⟩=some (.int .i64 x.o.t.k):=λd os=>ab (hcy 11 _ rfl) (below_regrown wr d os)
    have d12:∀d os,(Sort.grow (redrawn wr d) os).cell? ⟨g1,o1+k*15+12,none⟩=some (.string x.o.t.x):=λd os=>ab (hcy 12 _ rfl) (below_regrown wr d os)
    have d13:∀d os,(Sort.grow (redrawn wr d) os).cell? ⟨g1,o1+k*15+13,none⟩=some (.string x.o.t.l):=λd os=>ab (hcy 13 _ rfl) (below_regrown wr d os)
    have d14:∀d os,(Sort.grow (redrawn wr d) os).cell? ⟨g1,o1+k*15+14,none⟩=some (.string x.o.t.y):=λd os=>ab (hcy 14 _ rfl) (below_regrown wr d os)
    have hself:=λW=>jV x W
    have hd1:decide ((k:Int)<(l.length:Int))=true:=by simp;omega
    have hd2:decide (l.length<=k)=false:=by simp;omega
    clear hx hxm hrd hrl hlm hcx hcy
    go_wp2
    refine wrq ?_;(repeat (any_goals (go_big_quiet_step ((fail)))));all_goals (refine wqn ?_;intro d9 os9)
    go_wp2
    go_roundw
    case rel=>exact⟨k+1,by omega,by go_num,blw⟩
    case measure=>simp[intOf];omega
   ·have hmk:=λW=>yB ((k:Int)-l.length) W (by omega) (by omega)
    have hxm:(l++marksOf (iM))[k]?=some ((iM) ((k:Int)-l.length)):=iP _ _ _ (by omega) hlt
    obtain⟨g0,o0,csx,he0,-,rfl,hcx⟩:=((RdL.flatC (sz:=15) (λ_=>rfl)).2 hrd).at_ (by omega) hxm
    injection he0 with he0;injection he0 with h2 h3;subst h2;subst h3
    simp only[Nat.zero_add]at hcx
    have hself:=λW=>jV (iM ((k:Int)-l.length)) W
    simp only[iM,eZ,zTm,wS,cPat]at hself hcx hmk
    generalize 8000024+((k:Int)-l.length)=s at *
    have c0:∀d os,(Sort.grow (redrawn wr d) os).cell? ⟨g,k*15,none⟩=some (.string ⟨#[]⟩):=λd os=>ab (hcx 0 _ rfl) (below_regrown wr d os)
    have c1:∀d os,(Sort.grow (redrawn wr d) os).cell? ⟨g,k*15+1,none⟩=some (.int .i64 s):=λd os=>ab (hcx 1 _ rfl) (below_regrown wr d os)
    have c2:∀d os,(Sort.grow (redrawn wr d) os).cell? ⟨g,k*15+2,none⟩=some (.string ⟨#[]⟩):=λd os=>ab (hcx 2 _ rfl) (below_regrown wr d os)
    have c3:∀d os,(Sort.grow (redrawn wr d) os).cell? ⟨g,k*15+3,none⟩=some (.string ⟨#[]⟩):=λd os=>ab (hcx 3 _ rfl) (below_regrown wr d os)
    have c4:∀d os,(Sort.grow (redrawn wr d) os).cell? ⟨g,k*15+4,none⟩=some (.string ⟨#[]⟩):=λd os=>ab (hcx 4 _ rfl) (below_regrown wr d os)
    have c5:∀d os,(Sort.grow (redrawn wr d) os).cell? ⟨g,k*15+5,none⟩=some (.string ⟨#[]⟩):=λd os=>ab (hcx 5 _ rfl) (below_regrown wr d os)
    have c6:∀d os,(Sort.grow (redrawn wr d) os).cell? ⟨g,k*15+6,none⟩=some (.int .i64 0):=λd os=>ab (hcx 6 _ rfl) (below_regrown wr d os)
    have c7:∀d os,(Sort.grow (redrawn wr d) os).cell? ⟨g,k*15+7,none⟩=some (.string ⟨#[]⟩):=λd os=>ab (hcx 7 _ rfl) (below_regrown wr d os)
    have c8:∀d os,(Sort.grow (redrawn wr d) os).cell? ⟨g,k*15+8,none⟩=some (.string ⟨#[]⟩):=λd os=>ab (hcx 8 _ rfl) (below_regrown wr d os)
    have c9:∀d os,(Sort.grow (redrawn wr d) os).cell? ⟨g,k*15+9,none⟩=some (.string ⟨#[]⟩):=λd os=>ab (hcx 9 _ rfl) (below_regrown wr d os)
    have c10:∀d os,(Sort.grow (redrawn wr d) os).cell? ⟨g,k*15+10,none⟩=some (.string ⟨#[]⟩):=λd os=>ab (hcx 10 _ rfl) (below_regrown wr d os)
    have c11:∀d os,(Sort.grow (redrawn wr d) os).cell? ⟨g,k*15+11,none⟩=some (.int .i64 0):=λd os=>ab (hcx 11 _ rfl) (below_regrown wr d os)
    have c12:∀d os,(Sort.grow (redrawn wr d) os).cell? ⟨g,k*15+12,none⟩=some (.string ⟨#[]⟩):=λd os=>ab (hcx 12 _ rfl) (below_regrown wr d os)
    have c13:∀d os,(Sort.grow (redrawn wr d) os).cell? ⟨g,k*15+13,none⟩=some (.string ⟨#[]⟩):=λd os=>ab (hcx 13 _ rfl) (below_regrown wr d os)
    have c14:∀d os,(Sort.grow (redrawn wr d) os).cell? ⟨g,k*15+14,none⟩=some (.string ⟨#[]⟩):=λd os=>ab (hcx 14 _ rfl) (below_regrown wr d os)
    have hd1:decide ((k:Int)<(l.length:Int))=false:=by simp;omega
    have hd2:decide (l.length<=k)=true:=by simp;omega
    have e1:IntKind.i64.wrap ((k:Int)-l.length)=(k:Int)-l.length:=IntWalk.i64_in _ (by omega)
    clear hxm hrd hrl hlm hcx
    go_wp2
    refine wrq ?_;(repeat (any_goals (go_big_quiet_step ((go_at_call 63;exact Calls.regrown_of (hmk _))))));all_goals (refine wqn ?_;intro d9 os9)
    go_wp2
    go_roundw
    case rel=>exact⟨k+1,by omega,by go_num,blw⟩
    case measure=>simp[intOf];omega
  ·go_wp2
   go_ret
   exact⟨rfl,hB⟩
theorem yT (l:List Ky) (g:Nat) (A:Option Addr) (c:Nat) (w:World) (hg:aG 61 w g ((l++marksOf (iN)).flatMap cKey)) (hr:Rd w A (l.flatMap cKey)) (hl:l.length<=1048576) :
  Calls Tryz.prog 58 #[.slice (some ⟨g,0,none⟩) l.length (l.length+12),.slice A l.length c] w λe w'=>e=.returned (.bool true)/\Below w.heap.size w w':=by
 have hlm:(l++marksOf (iN)).length=l.length+12:=by simp[marksOf]
 go_enter Tryz.func58,Tryz.ntmps58
 go_wp2
 go_loopw [6] (λi wr=>∃k:Nat,k<=l.length+12/\i=.int .i64 k/\Below w.heap.size w wr) (λi _=>l.length+12-(intOf i).toNat)
 case atStart=>exact⟨0,by omega,rfl,Below.refl _ _⟩
 case round =>
  obtain⟨k,hk,rfl,hB⟩:=hrel
  by_cases hlt:k<l.length+12
  ·have hlt0:=hlt
   have hrd:=hg.rd.of_belowL hB
   have hrl:=hr.of_belowL hB
   clear hr hg
   by_cases hkn:k<l.length
   ·obtain⟨x,hx⟩:∃x,l[k]?=some x:=⟨_,List.getElem?_eq_getElem hkn⟩
    have hxm:(l++marksOf (iN))[k]?=some x:=by rw[List.getElem?_append_left hkn];exact hx
    obtain⟨g0,o0,csx,he0,-,rfl,hcx⟩:=((RdL.flatC (sz:=2) (λ_=>rfl)).2 hrd).at_ (by omega) hxm
    injection he0 with he0;injection he0 with h2 h3;subst h2;subst h3
    simp only[Nat.zero_add]at hcx
    have c0:∀d os,(Sort.grow (redrawn wr d) os).cell? ⟨g,k*2,none⟩=some (.string x.v):=λd os=>ab (hcx 0 _ rfl) (below_regrown wr d os)
    have c1:∀d os,(Sort.grow (redrawn wr d) os).cell? ⟨g,k*2+1,none⟩=some (.bool x.d):=λd os=>ab (hcx 1 _ rfl) (below_regrown wr d os)
    obtain⟨g1,o1,csy,rfl,-,rfl,hcy⟩:=((RdL.flatC (sz:=2) (λ_=>rfl)).2 hrl).at_ (by omega) hx
    have d0:∀d os,(Sort.grow (redrawn wr d) os).cell? ⟨g1,o1+k*2,none⟩=some (.string x.v):=λd os=>ab (hcy 0 _ rfl) (below_regrown wr d os)
    have d1:∀d os,(Sort.grow (redrawn wr d) os).cell? ⟨g1,o1+k*2+1,none⟩=some (.bool x.d):=λd os=>ab (hcy 1 _ rfl) (below_regrown wr d os)
    have hself:=λW=>li x W
    have hd1:decide ((k:Int)<(l.length:Int))=true:=by simp;omega
    have hd2:decide (l.length<=k)=false:=by simp;omega
    clear hx hxm hrd hrl hlm hcx hcy
    go_wp2
    refine wrq ?_;(repeat (any_goals (go_big_quiet_step ((fail)))));all_goals (refine wqn ?_;intro d9 os9)
    go_wp2
    go_roundw
    case rel=>exact⟨k+1,by omega,by go_num,blw⟩
    case measure=>simp[intOf];omega
   ·have hmk:=λW=>yC ((k:Int)-l.length) W (by omega) (by omega)
    have hxm:(l++marksOf (iN))[k]?=some ((iN) ((k:Int)-l.length)):=iP _ _ _ (by omega) hlt
    obtain⟨g0,o0,csx,he0,-,rfl,hcx⟩:=((RdL.flatC (sz:=2) (λ_=>rfl)).2 hrd).at_ (by omega) hxm
    injection he0 with he0;injection he0 with h2 h3;subst h2;subst h3
    simp only[Nat.zero_add]at hcx
    have hself:=λW=>li (iN ((k:Int)-l.length)) W
    simp only[iN,cKey]at hself hcx hmk
    generalize mkT 1 ((k:Int)-l.length)=s at *
    have c0:∀d os,(Sort.grow (redrawn wr d) os).cell? ⟨g,k*2,none⟩=some (.string s):=λd os=>ab (hcx 0 _ rfl) (below_regrown wr d os)
    have c1:∀d os,(Sort.grow (redrawn wr d) os).cell? ⟨g,k*2+1,none⟩=some (.bool false):=λd os=>ab (hcx 1 _ rfl) (below_regrown wr d os)
    have hd1:decide ((k:Int)<(l.length:Int))=false:=by simp;omega
    have hd2:decide (l.length<=k)=true:=by simp;omega
    have e1:IntKind.i64.wrap ((k:Int)-l.length)=(k:Int)-l.length:=IntWalk.i64_in _ (by omega)
    clear hxm hrd hrl hlm hcx
    go_wp2
    refine wrq ?_;(repeat (any_goals (go_big_quiet_step ((go_at_call 66;exact Calls.regrown_of (hmk _))))));all_goals (refine wqn ?_;intro d9 os9)
    go_wp2
    go_roundw
    case rel=>exact⟨k+1,by omega,by go_num,blw⟩
    case measure=>simp[intOf];omega
  ·go_wp2
   go_ret
   exact⟨rfl,hB⟩
end Go.Proofs.YtjldjeenfnahoaaGreatDoor
