/- Layer 26's law: the second example's query, by its contract. -/
import Derived.Test.YtfcbghmbbjolcaaGreatDoorJMnL9
import Derived.Test.YtfcbghmbbjolcaaGreatDoorJRegion9
namespace Go.Proofs.YtfcbghmbbjolcaaGreatDoor
open Go Go.RowKit Um Fm Mt Tx Om Mv Mn Mp
theorem sZ {w:World} {ab:Nat} {b:Bool} {T:TypeId} {A:Option Addr} {t:Tm} (h:RdRs w A [[t]]) (hd:w.heap[ab]?=some (.cells #[.bool b,.slice none 0 0] T (0,0))):∀a,A=some a->a.block≠ab:=by
 rintro a rfl rfl
 obtain⟨g,o,A1,c1,hA,hc,_,_⟩:=h.at1 (j:=0) rfl
 simp only[Option.some.injEq]at hA
 subst hA
 rw[World.cell?,hd]at hc
 simp only[Nat.add_zero]at hc
 match o,hc with
 | 0,hc=>simp at hc
 | 1,hc=>simp at hc
 | o+2,hc=>simp at hc
theorem Fi:zT mpQ:=by
 unfold zT
 refine⟨by decide,by decide,by decide,?_⟩
 exact⟨by decide,λx hx=>(by cases hx),by decide⟩
theorem I1:szQ mpQ:=by
 unfold szQ
 refine⟨by decide,by decide,by decide,by decide,?_,?_,?_,?_⟩
 ·intro x hx;simp only[mpQ,List.mem_cons,List.not_mem_nil,or_false]at hx;subst hx;decide
 ·intro x hx
  simp only[mpQ,List.mem_cons,List.not_mem_nil,or_false]at hx
  rcases hx with rfl|rfl<;>exact⟨⟨by decide,by decide,by decide,by decide⟩,⟨by decide,by decide,by decide,by decide⟩,⟨by decide,by decide,by decide,by decide⟩⟩
 ·intro x hx;cases hx
 ·intro x hx;cases hx
theorem Fo (W:World) (hC:cD W) (A:Option Addr) (c g h:Nat) (hs:Rd W A (iB.flatMap tpL)) (hg:W.heap[g]?=some (.cells #[.string ⟨#[122]⟩] 9 (0,0))) (hh:W.heap[h]?=some (.cells #[.string ⟨#[120]⟩,.int .i64 0,.string ⟨#[]⟩,.string ⟨#[]⟩,.string ⟨#[]⟩,.string ⟨#[]⟩,.int .i64 1,.string ⟨#[112]⟩,.string ⟨#[]⟩,.string ⟨#[]⟩,.string ⟨#[121]⟩,.int .i64 0,.string ⟨#[]⟩,.string ⟨#[]⟩,.string ⟨#[]⟩,.string ⟨#[121]⟩,.int .i64 0,.string ⟨#[]⟩,.string ⟨#[]⟩,.string ⟨#[]⟩,.string ⟨#[113]⟩,.int .i64 0,.string ⟨#[]⟩,.string ⟨#[]⟩,.string ⟨#[]⟩,.string ⟨#[122]⟩,.int .i64 0,.string ⟨#[]⟩,.string ⟨#[]⟩,.string ⟨#[]⟩] 72 (0,0))) :
  Calls Tryz.prog 11 #[.slice A 3 c,.agg #[.bool false,.bool false,.slice (some ⟨g,0,none⟩) 1 1,.slice (some ⟨h,0,none⟩) 2 2,.slice none 0 0,.slice none 0 0,.int .i64 (-1),.int .i64 0]] W λe w'=>∃A c,e=.returned (.tuple #[.agg #[.bool true,.slice A 1 c],.int .i64 0])/\RdRs w' A [[au ⟨#[99]⟩]]/\Below W.heap.size W w':=by
 have h1:Rd W (some ⟨g,0,none⟩) (mpQ.vars.map Value.string):=Rd.of_block hg rfl
 have h2:bI W (some ⟨h,0,none⟩) mpQ.pats:=⟨mpQ.pats.flatMap cPat,Rd.of_block hh rfl,All.of_flat _ λ_ _=>rfl⟩
 have h3:aJ 1 W none mpQ.fils:=RdL.nil _ _ _ _
 have h4:eN W none mpQ.ord:=RdL.nil _ _ _ _
 have hq:=zD 1 mpQ iB A (some ⟨g,0,none⟩) (some ⟨h,0,none⟩) none none c 1 2 0 0 W hC Fi I1 (by decide) (iX (n:=3) (by decide)) hs
  ⟨_,_,_,_,_,_,_,_,rfl,⟨by decide,by decide,by decide,by decide⟩,h1,h2,h3,h4⟩ h1 h2 h3 h4 Cu
 refine Calls.mono hq ?_
 rintro e w' ⟨A',c',rfl,hc,hr,hb⟩
 rw[I0]at hr hc ⊢
 rw[Cv]
 exact⟨A',c',rfl,hr,hb⟩
def AwF (B:Nat) (i:Nat) (v:Value) (W:World):Prop:=
 match i with
 | 0=>∃A c,v=.slice A 3 c/\Rd W A (iB.flatMap tpL)
 | 1=>∃g,v=.slice (some ⟨g,0,none⟩) 1 1/\W.heap[g]?=some (.cells #[.string ⟨#[122]⟩] 9 (0,0))
 | 2=>v=.agg #[.string ⟨#[120]⟩,.int .i64 0,.string ⟨#[]⟩,.string ⟨#[]⟩,.string ⟨#[]⟩,.string ⟨#[]⟩,.int .i64 1,.string ⟨#[112]⟩,.string ⟨#[]⟩,.string ⟨#[]⟩,.string ⟨#[121]⟩,.int .i64 0,.string ⟨#[]⟩,.string ⟨#[]⟩,.string ⟨#[]⟩]
 | 3=>v=.agg #[.string ⟨#[121]⟩,.int .i64 0,.string ⟨#[]⟩,.string ⟨#[]⟩,.string ⟨#[]⟩]
 | 4=>v=.agg #[.string ⟨#[113]⟩,.int .i64 0,.string ⟨#[]⟩,.string ⟨#[]⟩,.string ⟨#[]⟩]
 | 5=>v=.agg #[.string ⟨#[122]⟩,.int .i64 0,.string ⟨#[]⟩,.string ⟨#[]⟩,.string ⟨#[]⟩]
 | 6=>v=.agg #[.string ⟨#[121]⟩,.int .i64 0,.string ⟨#[]⟩,.string ⟨#[]⟩,.string ⟨#[]⟩,.string ⟨#[113]⟩,.int .i64 0,.string ⟨#[]⟩,.string ⟨#[]⟩,.string ⟨#[]⟩,.string ⟨#[122]⟩,.int .i64 0,.string ⟨#[]⟩,.string ⟨#[]⟩,.string ⟨#[]⟩]
 | 7=>∃h,v=.slice (some ⟨h,0,none⟩) 2 2/\W.heap[h]?=some (.cells #[.string ⟨#[120]⟩,.int .i64 0,.string ⟨#[]⟩,.string ⟨#[]⟩,.string ⟨#[]⟩,.string ⟨#[]⟩,.int .i64 1,.string ⟨#[112]⟩,.string ⟨#[]⟩,.string ⟨#[]⟩,.string ⟨#[121]⟩,.int .i64 0,.string ⟨#[]⟩,.string ⟨#[]⟩,.string ⟨#[]⟩,.string ⟨#[121]⟩,.int .i64 0,.string ⟨#[]⟩,.string ⟨#[]⟩,.string ⟨#[]⟩,.string ⟨#[113]⟩,.int .i64 0,.string ⟨#[]⟩,.string ⟨#[]⟩,.string ⟨#[]⟩,.string ⟨#[122]⟩,.int .i64 0,.string ⟨#[]⟩,.string ⟨#[]⟩,.string ⟨#[]⟩] 72 (0,0))
 | 8=>∃g h,v=.agg #[.bool false,.bool false,.slice (some ⟨g,0,none⟩) 1 1,.slice (some ⟨h,0,none⟩) 2 2,.slice none 0 0,.slice none 0 0,.int .i64 (-1),.int .i64 0]/\W.heap[g]?=some (.cells #[.string ⟨#[122]⟩] 9 (0,0))/\W.heap[h]?=some (.cells #[.string ⟨#[120]⟩,.int .i64 0,.string ⟨#[]⟩,.string ⟨#[]⟩,.string ⟨#[]⟩,.string ⟨#[]⟩,.int .i64 1,.string ⟨#[112]⟩,.string ⟨#[]⟩,.string ⟨#[]⟩,.string ⟨#[121]⟩,.int .i64 0,.string ⟨#[]⟩,.string ⟨#[]⟩,.string ⟨#[]⟩,.string ⟨#[121]⟩,.int .i64 0,.string ⟨#[]⟩,.string ⟨#[]⟩,.string ⟨#[]⟩,.string ⟨#[113]⟩,.int .i64 0,.string ⟨#[]⟩,.string ⟨#[]⟩,.string ⟨#[]⟩,.string ⟨#[122]⟩,.int .i64 0,.string ⟨#[]⟩,.string ⟨#[]⟩,.string ⟨#[]⟩] 72 (0,0))
 | 9=>∃A c,v=.tuple #[.agg #[.bool true,.slice A 1 c],.int .i64 0]/\RdRs W A [[au ⟨#[99]⟩]]
 | 10=>∃A c,v=.tuple #[.agg #[.bool true,.slice A 1 c],.int .i64 0]/\RdRs W A [[au ⟨#[99]⟩]]
 | 11=>∃A c,v=.agg #[.bool true,.slice A 1 c]/\RdRs W A [[au ⟨#[99]⟩]]
 | 12=>v=.int .i64 0
 | 13=>∃g,B<=g/\v=.pointer (some ⟨g,0,none⟩)/\W.heap[g]?=some (.cells #[.bool false,.slice none 0 0] 37 (0,0))
 | _=>True
theorem sY {w:World} {g1 g2 n:Nat} {cs:Array Value} {row:List Tm} (h1:w.heap[g1]?=some (.cells cs 62 (0,0))) (h2:w.heap[g2]?=some (.cells #[.slice (some ⟨g1,0,none⟩) n n] 58 (0,0))) (hn:n=row.length) (hc:cs.toList=row.flatMap tmC):RdRs w (some ⟨g2,0,none⟩) [row]:=by
 subst hn
 exact⟨[.slice (some ⟨g1,0,none⟩) row.length row.length],Rd.of_block h2 rfl,All.one rfl ⟨_,_,rfl,Nat.le_refl _,RdTs.of (Rd.of_block h1 hc)⟩⟩
theorem ez {w w':World} (h:Below w.heap.size w w') {g:Nat} {o:Obj} (hg:w.heap[g]?=some o):w'.heap[g]?=some o:=(h.block _ (Array.getElem?_eq_some_iff.1 hg).1).trans hg
theorem Cw (w:World):Calls Tryz.prog 27 #[.agg #[.int .i64 1,.string ⟨#[112]⟩,.string ⟨#[]⟩,.string ⟨#[]⟩]] w λe w'=>e=.returned (.agg #[.string ⟨#[]⟩,.int .i64 1,.string ⟨#[112]⟩,.string ⟨#[]⟩,.string ⟨#[]⟩])/\Below w.heap.size w w':=Jh (au ⟨#[112]⟩) w
set_option maxHeartbeats 8000000 in
set_option maxRecDepth 100000 in
theorem xF (w:World) (hC:cD w):Calls Tryz.prog 8 #[] w λe w'=>e=.returned (.bool true)/\Below w.heap.size w w':=by
 have HB:Below w.heap.size w w:=Below.refl _ _
 go_enter Tryz.func8,Tryz.ntmps8
 go_upto_region 2 with (first
  | (go_at_call 26;refine(kB _ _).mono ?_;rintro e w2 ⟨rfl,b2⟩;replace HB:=aa HB b2;clear b2)
  | (go_at_call 28;refine(nh _ _).mono ?_;rintro e w2 ⟨rfl,b2⟩;replace HB:=aa HB b2;clear b2)
  | (go_at_call 27;refine(Cw _).mono ?_;rintro e w2 ⟨rfl,b2⟩;replace HB:=aa HB b2;clear b2))
 obtain⟨V,hV⟩:∃V:World,w2.alloc (.cells #[.string ⟨#[120]⟩,.int .i64 0,.string ⟨#[]⟩,.string ⟨#[]⟩,.string ⟨#[]⟩,.string ⟨#[]⟩,.int .i64 1,.string ⟨#[112]⟩,.string ⟨#[]⟩,.string ⟨#[]⟩,.string ⟨#[121]⟩,.int .i64 0,.string ⟨#[]⟩,.string ⟨#[]⟩,.string ⟨#[]⟩] 72)=V:=⟨_,rfl⟩
 have hbV:Below w2.heap.size w2 V:=by rw[←hV];exact blw
 have kV:V.heap[w2.heap.size]?=some (Obj.cells #[.string ⟨#[120]⟩,.int .i64 0,.string ⟨#[]⟩,.string ⟨#[]⟩,.string ⟨#[]⟩,.string ⟨#[]⟩,.int .i64 1,.string ⟨#[112]⟩,.string ⟨#[]⟩,.string ⟨#[]⟩,.string ⟨#[121]⟩,.int .i64 0,.string ⟨#[]⟩,.string ⟨#[]⟩,.string ⟨#[]⟩] 72 (0,0)):=by rw[←hV];exact heap_alloc_new _ _
 have HB1:=Lib.hid (aa HB hbV)
 have HV:=Lib.hid hV
 have hcV:∀(j:Nat) (v:Value),(#[.string ⟨#[120]⟩,.int .i64 0,.string ⟨#[]⟩,.string ⟨#[]⟩,.string ⟨#[]⟩,.string ⟨#[]⟩,.int .i64 1,.string ⟨#[112]⟩,.string ⟨#[]⟩,.string ⟨#[]⟩,.string ⟨#[121]⟩,.int .i64 0,.string ⟨#[]⟩,.string ⟨#[]⟩,.string ⟨#[]⟩]:Array Value)[j]?=some v->V.cell? ⟨w2.heap.size,j,none⟩=some v:=λj v h=>by rw[World.cell?,kV];simpa using h
 simp only[hV]
 clear hV HB hbV
 refine Rf.p0 V.heap.size _ (.quiet [1] (.one 0 (.one 2 (.one 3 (.one 4 (.one 5 (.quiet [6] (.one 7 (.one 8 (.quiet [9,10,11,12,13] (.done))))))))))) ?_ (λa w h=>h)
 intro wd hbd hwz
 have hs0:=hbd.size
 obtain⟨x0,x1,x2,x3,x4,x5,x6,x7,x8,x9,x10,x11,x12,x13,x14⟩:_/\_/\_/\_/\_/\_/\_/\_/\_/\_/\_/\_/\_/\_/\_:=⟨cellL (hcV 0 _ rfl) hbd,cellL (hcV 1 _ rfl) hbd,cellL (hcV 2 _ rfl) hbd,cellL (hcV 3 _ rfl) hbd,cellL (hcV 4 _ rfl) hbd,cellL (hcV 5 _ rfl) hbd,cellL (hcV 6 _ rfl) hbd,cellL (hcV 7 _ rfl) hbd,cellL (hcV 8 _ rfl) hbd,cellL (hcV 9 _ rfl) hbd,cellL (hcV 10 _ rfl) hbd,cellL (hcV 11 _ rfl) hbd,cellL (hcV 12 _ rfl) hbd,cellL (hcV 13 _ rfl) hbd,cellL (hcV 14 _ rfl) hbd⟩
 clear hwz
 refine Rf.pl_quiet ?_
 iterate 1 go_big_quiet_step (fail)
 refine wpQuiet_nil (Rf.pl_one ?_)
 clear x0 x1 x2 x3 x4 x5 x6 x7 x8 x9 x10 x11 x12 x13 x14
 go_wp2_with (go_at_call 29;refine(qi _).mono ?_;rintro e w3 ⟨As,cs,rfl,hb3,hr3⟩)
 refine⟨hb3.mono hs0,Rf.pl_one ?_⟩
 have hs3:=Nat.le_trans hs0 hb3.size
 go_wp2_with (go_at_call 26;refine(kB _ _).mono ?_;rintro e w4 ⟨rfl,hb4⟩)
 refine⟨hb4.mono hs3,Rf.pl_one ?_⟩
 have hs4:=Nat.le_trans hs3 hb4.size
 go_wp2_with (go_at_call 28;refine(nh _ _).mono ?_;rintro e w5 ⟨rfl,hb5⟩)
 refine⟨hb5.mono hs4,Rf.pl_one ?_⟩
 have hs5:=Nat.le_trans hs4 hb5.size
 go_wp2_with (go_at_call 27;refine(Cw _).mono ?_;rintro e w6 ⟨rfl,hb6⟩)
 refine⟨hb6.mono hs5,Rf.pl_one ?_⟩
 have hs6:=Nat.le_trans hs5 hb6.size
 go_wp2_with (go_at_call 26;refine(kB _ _).mono ?_;rintro e w7 ⟨rfl,hb7⟩)
 refine⟨hb7.mono hs6,Rf.pl_quiet ?_⟩
 have hs7:=Nat.le_trans hs6 hb7.size
 iterate 1 go_big_quiet_step (fail)
 refine wpQuiet_nil (Rf.pl_one ?_)
 go_wp2
 refine⟨(Below.refl _ _).alloc (by omega) _,Rf.pl_one ?_⟩
 have HB7:=Lib.hid (aa HB1.out (aa hbd (aa hb3 (aa hb4 (aa hb5 (aa hb6 hb7))))))
 have HR7:=Lib.hid (hr3.later (aa hb4 (aa hb5 (aa hb6 hb7))))
 have HK7:=Lib.hid ((aa hbd (aa hb3 (aa hb4 (aa hb5 (aa hb6 hb7))))).block _ (Array.getElem?_eq_some_iff.1 kV).1)
 clear hbd hb3 hr3 hb4 hb5 hb6 hb7
 obtain⟨V2,hV2⟩:∃V:World,w7.alloc (.cells #[.string ⟨#[120]⟩,.int .i64 0,.string ⟨#[]⟩,.string ⟨#[]⟩,.string ⟨#[]⟩,.string ⟨#[]⟩,.int .i64 1,.string ⟨#[112]⟩,.string ⟨#[]⟩,.string ⟨#[]⟩,.string ⟨#[121]⟩,.int .i64 0,.string ⟨#[]⟩,.string ⟨#[]⟩,.string ⟨#[]⟩,.string ⟨#[121]⟩,.int .i64 0,.string ⟨#[]⟩,.string ⟨#[]⟩,.string ⟨#[]⟩,.string ⟨#[]⟩,.int .i64 1,.string ⟨#[112]⟩,.string ⟨#[]⟩,.string ⟨#[]⟩,.string ⟨#[122]⟩,.int .i64 0,.string ⟨#[]⟩,.string ⟨#[]⟩,.string ⟨#[]⟩] 72)=V:=⟨_,rfl⟩
 have hbV2:Below w7.heap.size w7 V2:=by rw[←hV2];exact blw
 have hsol:=fS iB [mpP,vT] As (some ⟨w7.heap.size,0,none⟩) cs 2 V2 (hC.step (aa HB7.out hbV2)) (by decide) (by decide) (iX (n:=3) (by decide)) (HR7.out.later hbV2) (by rw[←hV2];exact⟨[mpP,vT].flatMap cPat,Rd.of_block (heap_alloc_new _ _) rfl,All.of_flat _ λ_ _=>rfl⟩) Fg
 have HV2:=Lib.hid hV2
 have HB8:=Lib.hid hbV2
 clear hV2 hbV2
 simp only[HV2.out]
 have hs8:V.heap.size<=V2.heap.size:=Nat.le_trans hs7 HB8.out.size
 go_wp2_with (go_at_call 17;refine hsol.mono ?_;rintro e w9 ⟨vv,vr,rfl,ho9,hr9,hb9⟩)
 refine⟨hb9.mono hs8,Rf.pl_quiet ?_⟩
 have hs9:=Nat.le_trans hs8 hb9.size
 iterate 5 go_big_quiet_step (fail)
 refine wpQuiet_nil (Rf.pl_done ?_)
 have hB9:=aa HB7.out (aa HB8.out hb9)
 have lt7:w2.heap.size<w7.heap.size:=Nat.lt_of_lt_of_le (Array.getElem?_eq_some_iff.1 kV).1 hs7
 have hp9:w9.heap[w2.heap.size]?=some (Obj.cells #[.string ⟨#[120]⟩,.int .i64 0,.string ⟨#[]⟩,.string ⟨#[]⟩,.string ⟨#[]⟩,.string ⟨#[]⟩,.int .i64 1,.string ⟨#[112]⟩,.string ⟨#[]⟩,.string ⟨#[]⟩,.string ⟨#[121]⟩,.int .i64 0,.string ⟨#[]⟩,.string ⟨#[]⟩,.string ⟨#[]⟩] 72 (0,0)):=((aa HB8.out hb9).block _ lt7).trans (HK7.out.trans kV)
 rw[Fc]at ho9
 rw[Hp]at hr9
 obtain⟨Av,cv,rfl,_,hrv⟩:=own_slice ho9
 obtain⟨Ar,cr,rfl,_,hrr⟩:=hr9.rd
 have HB:=Lib.hid hB9
 have HC9:=Lib.hid (hC.step hB9)
 have HP:=Lib.hid hp9
 have HV:=Lib.hid (And.intro hrv hrr)
 clear hB9 lt7 hp9 ho9 hr9 hrv hrr hb9 hs9 hs8 hs7 hs6 hs5 hs4 hs3 hs0 hsol HV2 HB8 HB7 HR7 HK7 kV hcV HB1
 generalize w2.heap.size=pb at *
 go_wp2
 refine Ro.p0 w9.heap.size (AwF w9.heap.size) [some [],some [],some [],some [],some [],some [],some [(3,some 27),(4,some 28),(5,some 29)],some [(2,some 26),(6,some 30)],some [(1,some 25),(7,some 31)],some [(0,some 24),(8,some 32)],some [(9,some 33)],some [(10,some 23)],some [(10,some 23)],some [],none,none] 12 [(10,some 23)] [(0,some 24),(1,some 25),(2,some 26),(3,some 27),(4,some 28),(5,some 29),(6,some 30),(7,some 31),(8,some 32),(9,some 33),(10,some 23),(11,some 34),(12,some 35),(13,some 4)] (.one 14 (.quiet [15] (.done))) (λwd hbd hwz=>⟨?_,?_,?_⟩)
 ·have hat:∀W,Below wd.heap.size wd W->∀(j:Nat) (v:Value),(#[.string ⟨#[120]⟩,.int .i64 0,.string ⟨#[]⟩,.string ⟨#[]⟩,.string ⟨#[]⟩,.string ⟨#[]⟩,.int .i64 1,.string ⟨#[112]⟩,.string ⟨#[]⟩,.string ⟨#[]⟩,.string ⟨#[121]⟩,.int .i64 0,.string ⟨#[]⟩,.string ⟨#[]⟩,.string ⟨#[]⟩]:Array Value)[j]?=some v->W.cell? ⟨pb,j,none⟩=some v:=λW hW j v h=>by
   rw[World.cell?,ez (aa hbd hW) HP.out];simpa using h
  have hCC:∀W,Below wd.heap.size wd W->cD W:=λW hW=>HC9.out.step (aa hbd hW)
  have hsz:∀W,Below wd.heap.size wd W->w9.heap.size<=W.heap.size:=λW hW=>(aa hbd hW).size
  clear hbd hwz
  refine Ro.o_cons (λvals W hW _=>?_) ?_
  ·simp only[Ro.putL]
   go_wp2_with (go_at_call 29;refine(qi _).mono ?_;rintro e w3 ⟨As,cs,rfl,hb3,hr3⟩)
   exact⟨hb3,.slice As 3 cs,rfl,As,cs,rfl,hr3⟩
  refine Ro.o_cons (λvals W hW _=>?_) ?_
  ·simp only[Ro.putL]
   go_wp2
   exact⟨blw,.slice (some ⟨W.heap.size,0,none⟩) 1 1,rfl,W.heap.size,rfl,heap_alloc_new _ _⟩
  refine Ro.o_cons (λvals W hW _=>?_) ?_
  ·simp only[Ro.putL]
   obtain⟨x0,x1,x2,x3,x4,x5,x6,x7,x8,x9,x10,x11,x12,x13,x14⟩:_/\_/\_/\_/\_/\_/\_/\_/\_/\_/\_/\_/\_/\_/\_:=⟨hat W hW 0 _ rfl,hat W hW 1 _ rfl,hat W hW 2 _ rfl,hat W hW 3 _ rfl,hat W hW 4 _ rfl,hat W hW 5 _ rfl,hat W hW 6 _ rfl,hat W hW 7 _ rfl,hat W hW 8 _ rfl,hat W hW 9 _ rfl,hat W hW 10 _ rfl,hat W hW 11 _ rfl,hat W hW 12 _ rfl,hat W hW 13 _ rfl,hat W hW 14 _ rfl⟩
   go_wp2
   exact⟨Below.refl _ _,_,rfl,rfl⟩
  refine Ro.o_cons (λvals W hW _=>?_) ?_
  ·simp only[Ro.putL]
   go_wp2_with (go_at_call 26;refine(kB _ _).mono ?_;rintro e w3 ⟨rfl,hb3⟩)
   exact⟨hb3,_,rfl,rfl⟩
  refine Ro.o_cons (λvals W hW _=>?_) ?_
  ·simp only[Ro.putL]
   go_wp2_with (go_at_call 26;refine(kB _ _).mono ?_;rintro e w3 ⟨rfl,hb3⟩)
   exact⟨hb3,_,rfl,rfl⟩
  refine Ro.o_cons (λvals W hW _=>?_) ?_
  ·simp only[Ro.putL]
   go_wp2_with (go_at_call 26;refine(kB _ _).mono ?_;rintro e w3 ⟨rfl,hb3⟩)
   exact⟨hb3,_,rfl,rfl⟩
  refine Ro.o_cons (λvals W hW hh=>?_) ?_
  ·obtain⟨⟨_,_,e3⟩,⟨_,_,e4⟩,⟨_,_,e5⟩,_⟩:=hh
   replace e3:vals 3=.agg #[.string ⟨#[121]⟩,.int .i64 0,.string ⟨#[]⟩,.string ⟨#[]⟩,.string ⟨#[]⟩]:=e3
   replace e4:vals 4=.agg #[.string ⟨#[113]⟩,.int .i64 0,.string ⟨#[]⟩,.string ⟨#[]⟩,.string ⟨#[]⟩]:=e4
   replace e5:vals 5=.agg #[.string ⟨#[122]⟩,.int .i64 0,.string ⟨#[]⟩,.string ⟨#[]⟩,.string ⟨#[]⟩]:=e5
   simp only[Ro.putL,e3,e4,e5]
   go_wp2
   exact⟨Below.refl _ _,_,rfl,rfl⟩
  refine Ro.o_cons (λvals W hW hh=>?_) ?_
  ·obtain⟨⟨_,_,e2⟩,⟨_,_,e6⟩,_⟩:=hh
   replace e2:vals 2=.agg #[.string ⟨#[120]⟩,.int .i64 0,.string ⟨#[]⟩,.string ⟨#[]⟩,.string ⟨#[]⟩,.string ⟨#[]⟩,.int .i64 1,.string ⟨#[112]⟩,.string ⟨#[]⟩,.string ⟨#[]⟩,.string ⟨#[121]⟩,.int .i64 0,.string ⟨#[]⟩,.string ⟨#[]⟩,.string ⟨#[]⟩]:=e2
   replace e6:vals 6=.agg #[.string ⟨#[121]⟩,.int .i64 0,.string ⟨#[]⟩,.string ⟨#[]⟩,.string ⟨#[]⟩,.string ⟨#[113]⟩,.int .i64 0,.string ⟨#[]⟩,.string ⟨#[]⟩,.string ⟨#[]⟩,.string ⟨#[122]⟩,.int .i64 0,.string ⟨#[]⟩,.string ⟨#[]⟩,.string ⟨#[]⟩]:=e6
   simp only[Ro.putL,e2,e6]
   go_wp2
   exact⟨blw,.slice (some ⟨W.heap.size,0,none⟩) 2 2,rfl,W.heap.size,rfl,heap_alloc_new _ _⟩
  refine Ro.o_cons (λvals W hW hh=>?_) ?_
  ·obtain⟨⟨V1,b1,g,e1,k1⟩,⟨V7,b7,h,e7,k7⟩,_⟩:=hh
   replace e1:vals 1=.slice (some ⟨g,0,none⟩) 1 1:=e1
   replace e7:vals 7=.slice (some ⟨h,0,none⟩) 2 2:=e7
   have K1:=Lib.hid (ez b1 k1)
   have K7:=Lib.hid (ez b7 k7)
   clear k1 k7
   simp only[Ro.putL,e1,e7]
   go_wp2
   exact⟨Below.refl _ _,_,rfl,g,h,rfl,K1.out,K7.out⟩
  refine Ro.o_cons (λvals W hW hh=>?_) ?_
  ·obtain⟨⟨V0,b0,As,cs,e0,r0⟩,⟨V8,b8,g,h,e8,k1,k7⟩,_⟩:=hh
   replace e0:vals 0=.slice As 3 cs:=e0
   replace e8:vals 8=.agg #[.bool false,.bool false,.slice (some ⟨g,0,none⟩) 1 1,.slice (some ⟨h,0,none⟩) 2 2,.slice none 0 0,.slice none 0 0,.int .i64 (-1),.int .i64 0]:=e8
   have hq:=Fo W (hCC W hW) As cs g h (r0.later b0) (ez b8 k1) (ez b8 k7)
   clear r0 k1 k7
   simp only[Ro.putL,e0,e8]
   go_wp2_with (go_at_call 11;refine hq.mono ?_;rintro e w3 ⟨A,c,rfl,hr3,hb3⟩)
   exact⟨hb3,_,rfl,A,c,rfl,hr3⟩
  refine Ro.o_cons (λvals W hW hh=>?_) ?_
  ·obtain⟨⟨V9,b9,A,c,e9,r9⟩,_⟩:=hh
   replace e9:vals 9=.tuple #[.agg #[.bool true,.slice A 1 c],.int .i64 0]:=e9
   have R9:=Lib.hid (r9.later b9)
   clear r9
   simp only[Ro.putL,e9]
   go_wp2
   exact⟨Below.refl _ _,_,rfl,A,c,rfl,R9.out⟩
  refine Ro.o_cons (λvals W hW hh=>?_) ?_
  ·obtain⟨⟨V9,b9,A,c,e9,r9⟩,_⟩:=hh
   replace e9:vals 10=.tuple #[.agg #[.bool true,.slice A 1 c],.int .i64 0]:=e9
   have R9:=Lib.hid (r9.later b9)
   clear r9
   simp only[Ro.putL,e9]
   go_wp2
   exact⟨Below.refl _ _,_,rfl,A,c,rfl,R9.out⟩
  refine Ro.o_cons (λvals W hW hh=>?_) ?_
  ·obtain⟨⟨V9,b9,A,c,e9,r9⟩,_⟩:=hh
   replace e9:vals 10=.tuple #[.agg #[.bool true,.slice A 1 c],.int .i64 0]:=e9
   clear r9
   simp only[Ro.putL,e9]
   go_wp2
   exact⟨Below.refl _ _,_,rfl,rfl⟩
  refine Ro.o_cons (λvals W hW _=>?_) ?_
  ·have hz:=hsz W hW
   simp only[Ro.putL]
   go_wp2
   exact⟨blw,.pointer (some ⟨W.heap.size,0,none⟩),rfl,W.heap.size,hz,rfl,heap_alloc_new _ _⟩
  exact Ro.o_skip (Ro.o_skip Ro.o_nil)
 ·intro vals W o ho hW hh
  obtain⟨⟨V9,b9,A,c,e9,r9⟩,_⟩:=hh
  replace e9:vals 10=.tuple #[.agg #[.bool true,.slice A 1 c],.int .i64 0]:=e9
  simp only[List.getElem?_cons_succ,List.getElem?_cons_zero,Option.some.injEq]at ho
  subst ho
  simp only[Ro.putL,e9]
  exact⟨.int .i64 0,.inl ⟨rfl,λW' _=>rfl⟩,rfl⟩
 intro vals W hW hh
 obtain⟨_,_,_,_,_,_,_,_,_,_,_,⟨W11,b11,A,c,e11,r11⟩,⟨W12,b12,e12⟩,⟨W13,b13,g,hg0,e13,k13⟩,_⟩:=hh
 replace e11:vals 11=.agg #[.bool true,.slice A 1 c]:=e11
 replace e12:vals 12=.int .i64 0:=e12
 replace e13:vals 13=.pointer (some ⟨g,0,none⟩):=e13
 have kg:=ez b13 k13
 have rA:=r11.later b11
 have hb9W:=aa hbd hW
 have hgz:w9.heap.size<=g:=hg0
 have hst:Below w9.heap.size w9 (W.setRow g #[.bool true,.slice A 1 c]):=below_setRow hb9W hgz _
 have hst2:Below w9.heap.size W (W.setRow g #[.bool true,.slice A 1 c]):=below_setRow (Below.refl _ _) hgz _
 have kg2:=setRow_heap W _ _ #[.bool true,.slice A 1 c] _ (0,0) kg
 have rA2:RdRs (W.setRow g #[.bool true,.slice A 1 c]) A [[au ⟨#[99]⟩]]:=rA.box (ab:=g) (sZ rA kg) kg λk hk=>setRow_other _ _ _ _ hk
 have HG:=Lib.hid kg
 have H4:=Lib.hid (And.intro hst (And.intro kg2 rA2))
 clear k13 r11 kg rA hst kg2 rA2 hb9W b11 b12 b13 hbd hwz hg0
 simp only[Ro.putL,e11,e12,e13]
 clear e11 e12 e13
 generalize vals 0=j0
 generalize vals 1=j1
 generalize vals 2=j2
 generalize vals 3=j3
 generalize vals 4=j4
 generalize vals 5=j5
 generalize vals 6=j6
 generalize vals 7=j7
 generalize vals 8=j8
 generalize vals 9=j9
 generalize vals 10=j10
 refine Rf.pl_one ?_
 go_frame
 go_wp2_with (refine wpList_store_row rfl 37 _ _ rfl rfl rfl iq HG.out rfl rfl ?_)
 refine⟨hst2,Rf.pl_quiet ?_⟩
 go_frame
 iterate 1 go_big_quiet_step (fail)
 refine wpQuiet_nil (Rf.pl_done ?_)
 generalize W.setRow g #[.bool true,.slice A 1 c]=U at *
 clear hst2 HG hW
 obtain⟨hb9,kg,rA⟩:=H4.out
 have HU:=Lib.hid (And.intro (aa HB.out hb9) (And.intro (HV.out.1.later hb9) (And.intro (HV.out.2.later hb9) rA)))
 have y0:U.cell? ⟨g,0,none⟩=some (.bool true):=by rw[World.cell?,kg];rfl
 have y1:U.cell? ⟨g,1,none⟩=some (.slice A 1 c):=by rw[World.cell?,kg];rfl
 clear hb9 kg rA H4 HV HB HC9 HP hgz
 go_wp2
 refine Rf.p0 U.heap.size _ (.quiet [0] (.one 1 (.one 2 (.quiet [3,4] (.one 5 (.one 6 (.one 7 (.one 8 (.one 9 (.one 10 (.quiet [11,12,13,14,15,16,17,18,19,20,21,22] (.one 23 (.one 24 (.one 25 (.one 26 (.quiet [27,28] (.done))))))))))))))))) ?_ (λa w h=>h)
 intro wd hbd hwz
 have hs0:=hbd.size
 clear hwz
 refine Rf.pl_quiet ?_
 iterate 1 go_big_quiet_step (fail)
 refine wpQuiet_nil (Rf.pl_one ?_)
 go_wp2
 refine⟨(Below.refl _ _).alloc (by omega) _,Rf.pl_one ?_⟩
 obtain⟨V1,hV1⟩:∃V:World,wd.alloc (.cells #[.string ⟨#[120]⟩,.string ⟨#[121]⟩,.string ⟨#[122]⟩] 9)=V:=⟨_,rfl⟩
 have hk1:V1.heap[wd.heap.size]?=some (.cells #[.string ⟨#[120]⟩,.string ⟨#[121]⟩,.string ⟨#[122]⟩] 9 (0,0)):=by rw[←hV1];exact heap_alloc_new _ _
 have hb1:Below U.heap.size U V1:=by rw[←hV1];exact aa hbd blw
 have hst:Calls Tryz.prog 19 #[.slice Av 3 cv,.slice (some ⟨wd.heap.size,0,none⟩) 3 3] V1 λe w'=>e=.returned (.bool true)/\Below V1.heap.size V1 w':=by
  have h:=pO [bX,bY,bZ] [bX,bY,bZ] Av (some ⟨wd.heap.size,0,none⟩) cv 3 V1 (HU.out.2.1.later hb1) (Rd.of_block hk1 rfl) (by decide) (by decide)
  rw[show eB [bX,bY,bZ] [bX,bY,bZ]=true from (by unfold eB;simp)]at h
  exact h
 have HB1:=Lib.hid hb1
 clear hk1 hb1 hbd
 simp only[hV1]
 have hs1:=HB1.out.size
 clear hV1
 go_wp2_with (go_at_call 19;refine hst.mono ?_;rintro e v2 ⟨rfl,hb2⟩)
 refine⟨hb2.mono hs1,Rf.pl_quiet ?_⟩
 have HB2:=Lib.hid (aa HB1.out hb2)
 have hs2:=HB2.out.size
 clear hst hb2 HB1
 iterate 2 go_big_quiet_step (fail)
 refine wpQuiet_nil (Rf.pl_one ?_)
 go_wp2_with (go_at_call 28;refine(nh _ _).mono ?_;rintro e v3 ⟨rfl,hb3⟩)
 refine⟨hb3.mono hs2,Rf.pl_one ?_⟩
 have HB3:=Lib.hid (aa HB2.out hb3)
 have hs3:=HB3.out.size
 clear hb3 HB2
 go_wp2_with (go_at_call 28;refine(nh _ _).mono ?_;rintro e v4 ⟨rfl,hb4⟩)
 refine⟨hb4.mono hs3,Rf.pl_one ?_⟩
 have HB4:=Lib.hid (aa HB3.out hb4)
 have hs4:=HB4.out.size
 clear hb4 HB3
 go_wp2_with (go_at_call 28;refine(nh _ _).mono ?_;rintro e v5 ⟨rfl,hb5⟩)
 refine⟨hb5.mono hs4,Rf.pl_one ?_⟩
 have HB5:=Lib.hid (aa HB4.out hb5)
 have hs5:=HB5.out.size
 clear hb5 HB4
 go_wp2
 refine⟨(Below.refl _ _).alloc (by omega) _,Rf.pl_one ?_⟩
 go_wp2
 refine⟨(Below.refl _ _).alloc (by simp;omega) _,Rf.pl_one ?_⟩
 obtain⟨V6,hV6⟩:∃V:World,(v5.alloc (.cells #[.int .i64 1,.string ⟨#[97]⟩,.string ⟨#[]⟩,.string ⟨#[]⟩,.int .i64 1,.string ⟨#[98]⟩,.string ⟨#[]⟩,.string ⟨#[]⟩,.int .i64 1,.string ⟨#[99]⟩,.string ⟨#[]⟩,.string ⟨#[]⟩] 62)).alloc (.cells #[.slice (some ⟨v5.heap.size,0,none⟩) 3 3] 58)=V:=⟨_,rfl⟩
 have hb6:Below v5.heap.size v5 V6:=by rw[←hV6];exact blw
 have hr6:RdRs V6 (some ⟨v5.heap.size+1,0,none⟩) [[au ⟨#[97]⟩,au ⟨#[98]⟩,au ⟨#[99]⟩]]:=by
  rw[←hV6]
  exact sY (aL _ _ _) (av _ _ _) rfl rfl
 have HB6:=Lib.hid (aa HB5.out hb6)
 have hsr:Calls Tryz.prog 13 #[.slice Ar 1 cr,.slice (some ⟨v5.heap.size+1,0,none⟩) 1 1] V6 λe w'=>e=.returned (.bool true)/\Below V6.heap.size V6 w':=by
  have h:=gJ [[au ⟨#[97]⟩,au ⟨#[98]⟩,au ⟨#[99]⟩]] [[au ⟨#[97]⟩,au ⟨#[98]⟩,au ⟨#[99]⟩]] Ar (some ⟨v5.heap.size+1,0,none⟩) cr 1 1 1 V6 rfl rfl (by decide) (by decide) (by intro r hr;simp only[List.mem_cons,List.not_mem_nil,or_false]at hr;subst hr;decide) (by intro r hr;simp only[List.mem_cons,List.not_mem_nil,or_false]at hr;subst hr;decide) (HU.out.2.2.1.later HB6.out) hr6
  rw[decide_eq_true rfl]at h
  exact h
 clear hr6 hb6
 simp only[hV6]
 have hs6:=HB6.out.size
 clear hV6
 go_wp2_with (go_at_call 13;refine hsr.mono ?_;rintro e v7 ⟨rfl,hb7⟩)
 refine⟨hb7.mono hs6,Rf.pl_quiet ?_⟩
 have HB7:=Lib.hid (aa HB6.out hb7)
 have hs7:=HB7.out.size
 clear hsr
 have y2:=cellL y0 HB7.out
 have y3:=cellL y1 HB7.out
 clear hb7
 iterate 12 go_big_quiet_step (fail)
 refine wpQuiet_nil (Rf.pl_one ?_)
 clear y2 y3
 go_wp2_with (go_at_call 28;refine(nh _ _).mono ?_;rintro e v8 ⟨rfl,hb8⟩)
 refine⟨hb8.mono hs7,Rf.pl_one ?_⟩
 have HB8:=Lib.hid (aa HB7.out hb8)
 have hs8:=HB8.out.size
 clear hb8
 go_wp2
 refine⟨(Below.refl _ _).alloc (by omega) _,Rf.pl_one ?_⟩
 go_wp2
 refine⟨(Below.refl _ _).alloc (by simp;omega) _,Rf.pl_one ?_⟩
 obtain⟨V9,hV9⟩:∃V:World,(v8.alloc (.cells #[.int .i64 1,.string ⟨#[99]⟩,.string ⟨#[]⟩,.string ⟨#[]⟩] 62)).alloc (.cells #[.slice (some ⟨v8.heap.size,0,none⟩) 1 1] 58)=V:=⟨_,rfl⟩
 have hb9:Below v8.heap.size v8 V9:=by rw[←hV9];exact blw
 have hr9:RdRs V9 (some ⟨v8.heap.size+1,0,none⟩) [[au ⟨#[99]⟩]]:=by
  rw[←hV9]
  exact sY (aL _ _ _) (av _ _ _) rfl rfl
 have HB9:=Lib.hid (aa HB8.out hb9)
 have hsr:Calls Tryz.prog 13 #[.slice A 1 c,.slice (some ⟨v8.heap.size+1,0,none⟩) 1 1] V9 λe w'=>e=.returned (.bool true)/\Below V9.heap.size V9 w':=by
  have h:=gJ [[au ⟨#[99]⟩]] [[au ⟨#[99]⟩]] A (some ⟨v8.heap.size+1,0,none⟩) c 1 1 1 V9 rfl rfl (by decide) (by decide) (by intro r hr;simp only[List.mem_cons,List.not_mem_nil,or_false]at hr;subst hr;decide) (by intro r hr;simp only[List.mem_cons,List.not_mem_nil,or_false]at hr;subst hr;decide) (HU.out.2.2.2.later HB9.out) hr9
  rw[decide_eq_true rfl]at h
  exact h
 clear hr9 hb9
 simp only[hV9]
 have hs9:=HB9.out.size
 clear hV9
 go_wp2_with (go_at_call 13;refine hsr.mono ?_;rintro e v10 ⟨rfl,hb10⟩)
 refine⟨hb10.mono hs9,Rf.pl_quiet ?_⟩
 have HB10:=Lib.hid (aa HB9.out hb10)
 have hs10:=HB10.out.size
 clear hsr
 clear hb10
 iterate 2 go_big_quiet_step (fail)
 refine wpQuiet_nil (Rf.pl_done ?_)
 go_wp2
 go_ret
 exact⟨rfl,aa HU.out.1 HB10.out⟩
end Go.Proofs.YtfcbghmbbjolcaaGreatDoor
