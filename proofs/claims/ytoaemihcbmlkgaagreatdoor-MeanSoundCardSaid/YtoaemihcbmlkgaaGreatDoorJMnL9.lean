/- Layer 26's law, walked: iri, plain, free, one, example. Laye -/
import Derived.Test.YtoaemihcbmlkgaaGreatDoorJMn10
set_option maxHeartbeats 8000000
set_option maxRecDepth 100000
namespace Go.Proofs.YtoaemihcbmlkgaaGreatDoor
open Go Go.RowKit Um Fm Tx Om
def iriT6 (s:ByteArray):Tm:=⟨1,s,⟨#[]⟩,⟨#[]⟩⟩
def litT6 (s:ByteArray):Tm:=⟨3,s,⟨#[]⟩,⟨#[]⟩⟩
theorem mlIri (s:ByteArray) (w:World):Calls Tryz.prog 21 #[.string s] w λe w'=>e=.returned (.agg #[.int .i64 1,.string s,.string ⟨#[]⟩,.string ⟨#[]⟩])/\Below w.heap.size w w':=by
 go_enter Tryz.func21,Tryz.ntmps21
 go_wp2
 exact bodyPost_ret (v:=.agg #[.int .i64 1,.string s,.string ⟨#[]⟩,.string ⟨#[]⟩]) (by simp[results,Tryz.results21,go_sem]) rfl ⟨rfl,blw⟩
theorem mlPlain (s:ByteArray) (w:World):Calls Tryz.prog 44 #[.string s] w λe w'=>e=.returned (.agg #[.int .i64 3,.string s,.string ⟨#[]⟩,.string ⟨#[]⟩])/\Below w.heap.size w w':=by
 go_enter Tryz.func44,Tryz.ntmps44
 go_wp2
 exact bodyPost_ret (v:=.agg #[.int .i64 3,.string s,.string ⟨#[]⟩,.string ⟨#[]⟩]) (by simp[results,Tryz.results44,go_sem]) rfl ⟨rfl,blw⟩
theorem mlFree (s:ByteArray) (w:World):Calls Tryz.prog 19 #[.string s] w λe w'=>e=.returned (.agg #[.string s,.int .i64 0,.string ⟨#[]⟩,.string ⟨#[]⟩,.string ⟨#[]⟩])/\Below w.heap.size w w':=by
 go_enter Tryz.func19,Tryz.ntmps19
 go_wp2
 exact bodyPost_ret (v:=.agg #[.string s,.int .i64 0,.string ⟨#[]⟩,.string ⟨#[]⟩,.string ⟨#[]⟩]) (by simp[results,Tryz.results19,go_sem]) rfl ⟨rfl,blw⟩
theorem mlOne (t:Tm) (w:World):Calls Tryz.prog 20 #[.agg #[.int .i64 t.k,.string t.x,.string t.l,.string t.y]] w λe w'=>e=.returned (.agg #[.string ⟨#[]⟩,.int .i64 t.k,.string t.x,.string t.l,.string t.y])/\Below w.heap.size w w':=by
 go_enter Tryz.func20,Tryz.ntmps20
 go_wp2
 exact bodyPost_ret (v:=.agg #[.string ⟨#[]⟩,.int .i64 t.k,.string t.x,.string t.l,.string t.y]) (by simp[results,Tryz.results20,go_sem]) rfl ⟨rfl,blw⟩
def exaT:List Tp:=[⟨iriT6 ⟨#[97]⟩,iriT6 ⟨#[112]⟩,iriT6 ⟨#[98]⟩⟩,⟨iriT6 ⟨#[98]⟩,iriT6 ⟨#[112]⟩,iriT6 ⟨#[99]⟩⟩,⟨iriT6 ⟨#[97]⟩,iriT6 ⟨#[113]⟩,litT6 ⟨#[120]⟩⟩]
theorem mlExample (w:World):Calls Tryz.prog 22 #[] w λe w'=>∃A c,e=.returned (.slice A 3 c)/\Below w.heap.size w w'/\Rd w' A (exaT.flatMap tpL):=by
 have HB:Below w.heap.size w w:=Below.refl _ _
 go_enter Tryz.func22,Tryz.ntmps22
 go_wp2_with (first
  | (go_at_call 21;refine(mlIri _ _).mono ?_;rintro e W2 ⟨rfl,B2⟩;replace HB:=below_tr HB B2;clear B2)
  | (go_at_call 44;refine(mlPlain _ _).mono ?_;rintro e W2 ⟨rfl,B2⟩;replace HB:=below_tr HB B2;clear B2))
 go_ret
 exact⟨_,_,rfl,blw,Rd.of_block (heap_alloc_new _ _) rfl⟩
def sz3 (t:Tp):Nat:=sz8T t.s+sz8T t.p+sz8T t.o
def sizeM:List Tp->Nat->Nat
 | [],n=>n
 | t::r,n=>if n<=3000 then sizeM r (n+sz3 t) else n
theorem sizeM_le:∀(l:List Tp) (n:Nat),sizeM l n<=3000->sizeM l n=n+(l.map sz3).sum
 | [],n,_=>by simp[sizeM]
 | t::r,n,h=>by
  rw[sizeM]at h ⊢
  split at h
  ·next h1=>rw[if_pos h1,sizeM_le r _ h,List.map_cons,List.sum_cons];omega
  ·next h1=>exact absurd h h1
theorem sum_mem_le {l:List Tp} {t:Tp} (h:t∈l):sz3 t<=(l.map sz3).sum:=by
 induction l with
 | nil=>cases h
 | cons x r ih =>
  rw[List.map_cons,List.sum_cons]
  rcases List.mem_cons.1 h with rfl|h
  ·omega
  ·have:=ih h;omega
theorem size_small {l:List Tp} {n:Nat} (h:sizeM l n<=3000):∀t∈l,smallP3 t:=by
 have e:=sizeM_le l n h
 intro t ht
 have h1:sz3 t<=3000:=by have:=sum_mem_le ht;omega
 unfold sz3 sz8T at h1
 exact⟨⟨by omega,by omega,by omega⟩,⟨by omega,by omega,by omega⟩,⟨by omega,by omega,by omega⟩⟩
def hugeP (t:Tp):Prop:=hugeT t.s/\hugeT t.p/\hugeT t.o
theorem mlSize (l:List Tp) (A:Option Addr) (c:Nat) (w:World) (hl:l.length<=281474976710656) (hz:∀t∈l,hugeP t) (hr:Rd w A (l.flatMap tpL)) :
  Calls Tryz.prog 6 #[.slice A l.length c] w λe w'=>e=.returned (.int .i64 (sizeM l l.length:Nat))/\Below w.heap.size w w':=by
 have HR:=Lib.hid (And.intro hr hz)
 clear hr hz
 obtain⟨N,hN⟩:∃N,sizeM l l.length=N:=⟨_,rfl⟩
 rw[hN]
 go_enter Tryz.func6,Tryz.ntmps6
 go_wp2
 go_loopw [3,4,5,6] (λs i _ _ wr=>∃k n:Nat,k<=l.length/\i=.int .i64 k/\s=.int .i64 n/\n<=2814749767106560/\sizeM (l.drop k) n=N/\Below w.heap.size w wr) (λ_ i _ _ _=>l.length-(intOf i).toNat)
 case atStart=>exact⟨0,l.length,by omega,rfl,rfl,by omega,by simpa using hN,Below.refl _ _⟩
 case round =>
  obtain⟨k,n,hk,rfl,rfl,hn,hs,hB⟩:=hrel
  by_cases hlt:k<l.length
  ·by_cases hn3:n<=3000
   ·obtain⟨t,ht⟩:∃t,l[k]?=some t:=⟨_,List.getElem?_eq_getElem hlt⟩
    rw[drop_cons_of ht,sizeM,if_pos hn3]at hs
    have hzt:=HR.out.2 t (List.mem_of_getElem? ht)
    obtain⟨⟨z1,z2,z3⟩,⟨z4,z5,z6⟩,z7,z8,z9⟩:=hzt
    obtain⟨g,o,rfl,c0,c1,c2,c3,c4,c5,c6,c7,c8,c9,c10,c11⟩:=rd_at12 (HR.out.1.later hB) ht
    have HX:=Lib.hid (And.intro hs hB)
    clear hs hB ht hN
    go_wp2
    refine Rf.p0 wr.heap.size _ (.quiet [0,1,2,3,4,5,6,7,8,9,10,11,12,13,14] (.one 15 (.quiet [16] (.done)))) ?_ (λa w h=>h)
    intro wd hbd hwz
    have y0:=cellL c0 hbd
    have y1:=cellL c1 hbd
    have y2:=cellL c2 hbd
    have y3:=cellL c3 hbd
    have y4:=cellL c4 hbd
    have y5:=cellL c5 hbd
    have y6:=cellL c6 hbd
    have y7:=cellL c7 hbd
    have y8:=cellL c8 hbd
    have y9:=cellL c9 hbd
    have y10:=cellL c10 hbd
    have y11:=cellL c11 hbd
    clear c0 c1 c2 c3 c4 c5 c6 c7 c8 c9 c10 c11
    have hs3:=hbd.size
    clear hwz
    refine Rf.pl_quiet ?_
    iterate 15 go_big_quiet_step (fail)
    refine wpQuiet_nil (Rf.pl_one ?_)
    go_wp2
    refine⟨(Below.refl _ _).alloc (by omega) _,Rf.pl_quiet ?_⟩
    iterate 1 go_big_quiet_step (fail)
    refine wpQuiet_nil (Rf.pl_done ?_)
    obtain⟨V,hV⟩:∃V:World,wd.alloc (.cells (tpC t) 26)=V:=⟨_,rfl⟩
    have hbV:Below w.heap.size w V:=by rw[←hV];exact below_alloc (below_tr HX.out.2 hbd)
    have hcell:∀(j i:Nat) (u:Tm) (v:Value),[t.s,t.p,t.o][j]?=some u->i<4->(tC u)[i]?=some v->V.cell? ⟨wd.heap.size,j*4+i,none⟩=some v:=by
     intro j i u v hj hi hv
     rw[←hV,World.cell?,heap_alloc_new]
     have:=flat_at8 [t.s,t.p,t.o] j i u hj hi
     rw[hv]at this
     show (tpC t)[j*4+i]?=some v
     rw[←Array.getElem?_toList]
     exact this
    have Hc:=Lib.hid hcell
    have HV:=Lib.hid (And.intro hbV HX.out.1)
    have hz3:∀u∈[t.s,t.p,t.o],hugeT u:=by
     intro u hu
     simp only[List.mem_cons,List.not_mem_nil,or_false]at hu
     rcases hu with rfl|rfl|rfl
     ·exact⟨z1,z2,z3⟩
     ·exact⟨z4,z5,z6⟩
     ·exact⟨z7,z8,z9⟩
    clear hcell hbV HX y0 y1 y2 y3 y4 y5 y6 y7 y8 y9 y10 y11 z1 z2 z3 z4 z5 z6 z7 z8 z9 hbd hs3
    change Exit.then _ _ Exit.normal _ (wd.alloc (.cells (tpC t) 26))
    rw[hV]
    go_wp2
    obtain⟨T,hT⟩:∃T:List Tm,T=[t.s,t.p,t.o]:=⟨_,rfl⟩
    have hT3:T.length=3:=by rw[hT];rfl
    rw[←hT]at Hc hz3
    have hTs:sz8L T=sz3 t:=by rw[hT];simp[sz8L,sz3,sz8T];omega
    clear hT
    go_loopw [3,6] (λs i wr2=>∃(j:Nat),j<=3/\i=.int .i64 j/\s=.int .i64 (n+sz8L (T.take j):Nat)/\∃q,wr2=V.drewN q) (λ_ i _=>3-(intOf i).toNat)
    case atStart=>exact⟨0,by omega,rfl,by simp[sz8L],0,rfl⟩
    case round =>
     obtain⟨j,hj,rfl,rfl,q,rfl⟩:=hrel
     have hle:=szL_le T hz3 j (by omega)
     by_cases hlt3:j<3
     ·obtain⟨u,hu⟩:∃u,T[j]?=some u:=⟨_,List.getElem?_eq_getElem (by omega)⟩
      have e1:=Hc.out j 1 u _ hu (by omega) rfl
      have e2:=Hc.out j 2 u _ hu (by omega) rfl
      have e3:=Hc.out j 3 u _ hu (by omega) rfl
      have hsn:=Lib.hid (sz8L_snoc T j u hu)
      have hzu:=hz3 _ (List.mem_of_getElem? hu)
      obtain⟨y1,y2,y3⟩:=hzu
      clear hu hz3
      generalize sz8L (T.take j)=m at *
      have hm:m<=3*844424930131968:=Nat.le_trans hle (Nat.mul_le_mul_right _ hj)
      clear hle
      go_wp2
      go_quiet (fail)
      go_wp2
      exact⟨⟨j+1,by omega,by go_num,by rw[hsn.out,sz8T];go_num,q+nq,rfl⟩,by simp[intOf];omega⟩
     ·have e:T.take j=T:=List.take_of_length_le (by omega)
      rw[e,hTs]at hle
      rw[e,hTs]
      have hle2:sz3 t<=3*844424930131968:=Nat.le_trans hle (Nat.mul_le_mul_right _ hj)
      go_wp2
      exact⟨⟨k+1,n+sz3 t,by omega,by go_num,rfl,by omega,HV.out.2,below_drewN' HV.out.1 q⟩,by simp[intOf];omega⟩
   ·rw[drop_cons_of (List.getElem?_eq_getElem hlt),sizeM,if_neg hn3]at hs
    subst hs
    go_wp2
    go_ret
    exact⟨rfl,hB⟩
  ·rw[List.drop_of_length_le (by omega),sizeM]at hs
   subst hs
   go_wp2
   go_ret
   exact⟨rfl,hB⟩
open Mt Mv Mn Mp
instance decTp:DecidableEq Tp:=λ_ _=>decidable_of_iff _ sameTp_iff
theorem mlThere (set:List Tp) (t:Tp) (A:Option Addr) (c:Nat) (w:World) (hl:set.length<=1000000) (hr:Rd w A (set.flatMap tpL)) :
  Calls Tryz.prog 10 #[.slice A set.length c,.agg #[.int .i64 t.s.k,.string t.s.x,.string t.s.l,.string t.s.y,.int .i64 t.p.k,.string t.p.x,.string t.p.l,.string t.p.y,.int .i64 t.o.k,.string t.o.x,.string t.o.l,.string t.o.y]] w λe w'=>e=.returned (.bool (decide (t∈set)))/\Below w.heap.size w w':=by
 obtain⟨W,hW⟩:∃V:World,w.alloc (.cells #[.int .i64 t.s.k,.string t.s.x,.string t.s.l,.string t.s.y,.int .i64 t.p.k,.string t.p.x,.string t.p.l,.string t.p.y,.int .i64 t.o.k,.string t.o.x,.string t.o.l,.string t.o.y] 28)=V:=⟨_,rfl⟩
 have hb:Below w.heap.size w W:=by rw[←hW];exact blw
 have hk:∀(j:Nat) (v:Value),(#[Value.int .i64 t.s.k,.string t.s.x,.string t.s.l,.string t.s.y,.int .i64 t.p.k,.string t.p.x,.string t.p.l,.string t.p.y,.int .i64 t.o.k,.string t.o.x,.string t.o.l,.string t.o.y]:Array Value)[j]?=some v->W.cell? ⟨w.heap.size,j,none⟩=some v:=λj v h=>by rw[←hW,World.cell?,heap_alloc_new];simpa using h
 obtain⟨x0,x1,x2,x3,x4,x5,x6,x7,x8,x9,x10,x11⟩:_/\_/\_/\_/\_/\_/\_/\_/\_/\_/\_/\_:=⟨hk 0 _ rfl,hk 1 _ rfl,hk 2 _ rfl,hk 3 _ rfl,hk 4 _ rfl,hk 5 _ rfl,hk 6 _ rfl,hk 7 _ rfl,hk 8 _ rfl,hk 9 _ rfl,hk 10 _ rfl,hk 11 _ rfl⟩
 have HR:=Lib.hid (And.intro (hr.later hb) hb)
 have heq:=λ(u:Tp) V=>run_eqTp u t V
 clear hr hb hk
 go_enter Tryz.func10,Tryz.ntmps10
 go_wp2
 clear hW
 go_loopw [5] (λi wr=>∃k q:Nat,k<=set.length/\i=.int .i64 k/\t ∉ set.take k/\wr=W.drewN q) (λi _=>set.length-(intOf i).toNat)
 case atStart=>exact⟨0,0,by omega,rfl,by simp,rfl⟩
 case round =>
  obtain⟨k,q,hk,rfl,hn,rfl⟩:=hrel
  by_cases hlt:k<set.length
  ·obtain⟨u,hu⟩:∃u,set[k]?=some u:=⟨_,List.getElem?_eq_getElem hlt⟩
   obtain⟨g,o,rfl,c0,c1,c2,c3,c4,c5,c6,c7,c8,c9,c10,c11⟩:=rd_at12 HR.out.1 hu
   replace heq:=heq u
   have HN:=Lib.hid (And.intro hn hu)
   clear hn hu
   cases hs:sameTp u t
   ·have h2:t ∉ set.take (k+1):=by
     rw[take_snoc_of HN.out.2,List.mem_append]
     rintro(h|h)
     ·exact HN.out.1 h
     ·simp only[List.mem_cons,List.not_mem_nil,or_false]at h
      rw[h,sameTp_iff.2 rfl]at hs;cases hs
    have H2:=Lib.hid h2
    rw[hs]at heq
    clear h2
    go_wp2
    go_quiet (fail)
    go_wp2
    exact⟨⟨k+1,q+nq,by omega,by go_num,H2.out,rfl⟩,by simp[intOf];omega⟩
   ·have h2:t∈set:=by
     rw[←sameTp_iff.1 hs];exact List.mem_of_getElem? HN.out.2
    rw[hs]at heq
    have H2:=Lib.hid h2
    clear h2
    go_wp2
    go_quiet (fail)
    go_wp2
    go_ret
    exact⟨by rw[decide_eq_true H2.out];rfl,below_drewN' (below_drewN' HR.out.2 _) _⟩
  ·rw[List.take_of_length_le (by omega)]at hn
   have H2:=Lib.hid hn
   clear hn
   go_wp2
   go_ret
   exact⟨by rw[decide_eq_false H2.out];rfl,below_drewN' HR.out.2 _⟩
theorem value_first {vars:List ByteArray} {row:List Tm} {x:Sl} {k:Nat} {s:ByteArray} {u:Tm} (hs:vars[k]?=some s) (hn:x.v ∉ vars.take k) (he:x.v.toList.isEmpty=false) (h:s=x.v) (hu:row[k]?=some u):valueP vars row x=u:=by
 subst h
 unfold valueP
 rw[if_pos ⟨he,hasS_iff.2 (List.mem_of_getElem? hs)⟩,idx_is hs hn]
 simp[hu]
theorem value_no {vars:List ByteArray} {row:List Tm} {x:Sl} (h:x.v.toList.isEmpty=true∨x.v ∉ vars):valueP vars row x=x.t:=by
 unfold valueP
 refine if_neg ?_
 rintro⟨h1,h2⟩
 rcases h with h|h
 ·rw[h]at h1;cases h1
 ·exact h (hasS_iff.1 h2)
theorem mlValue (vars:List ByteArray) (row:List Tm) (x:Sl) (A B:Option Addr) (n c m d:Nat) (w:World) (hn:vars.length=n) (hm:row.length=m) (hl:n<=1000000) (hnm:n<=m) (hm':m<=1000000) (hr:Rd w A (vars.map Value.string)) (hrr:RdTs w B row) :
  Calls Tryz.prog 11 #[.slice A n c,.slice B m d,.agg #[.string x.v,.int .i64 x.t.k,.string x.t.x,.string x.t.l,.string x.t.y]] w λe w'=>e=.returned (tA (valueP vars row x))/\Below w.heap.size w w':=by
 obtain⟨R,hR⟩:∃R,valueP vars row x=R:=⟨_,rfl⟩
 rw[hR]
 obtain⟨W,hW⟩:∃W:World,(w.alloc (.cells #[.string x.v,.int .i64 x.t.k,.string x.t.x,.string x.t.l,.string x.t.y] 41)).alloc (.cells #[.int .i64 0,.string ⟨#[]⟩,.string ⟨#[]⟩,.string ⟨#[]⟩] 26)=W:=⟨_,rfl⟩
 have hB0:Below w.heap.size w W:=by rw[←hW];exact blw
 have k0:W.heap[w.heap.size]?=some (Obj.cells #[.string x.v,.int .i64 x.t.k,.string x.t.x,.string x.t.l,.string x.t.y] 41 (0,0)):=by rw[←hW];exact heap_two_1 _ _ _
 have k1:∀q,(W.drewN q).heap[w.heap.size+1]?=some (Obj.cells #[.int .i64 0,.string ⟨#[]⟩,.string ⟨#[]⟩,.string ⟨#[]⟩] 26 (0,0)):=λq=>by rw[←hW];exact heap_two_2 _ _ _
 obtain⟨x0,x1,x2,x3,x4⟩:=cells5 k0
 have hB1:∀q,Below w.heap.size w (W.drewN q):=λq=>below_drewN' hB0 q
 have hF:∀(V:World) (u:Tm),V.heap[w.heap.size+1]?=some (Obj.cells #[.int .i64 0,.string ⟨#[]⟩,.string ⟨#[]⟩,.string ⟨#[]⟩] 26 (0,0))->Below w.heap.size w V->(V.setRow (w.heap.size+1) #[.int .i64 u.k,.string u.x,.string u.l,.string u.y]).heap[w.heap.size+1]?=some (Obj.cells #[.int .i64 u.k,.string u.x,.string u.l,.string u.y] 26 (0,0))/\Below w.heap.size w (V.setRow (w.heap.size+1) #[.int .i64 u.k,.string u.x,.string u.l,.string u.y]):=λV u h1 h2=>⟨setRow_heap _ _ _ _ _ _ h1,below_setRow h2 (by omega) _⟩
 have HF:=Lib.hid hF
 have HK:=Lib.hid (And.intro k1 hB1)
 have H:=Lib.hid (And.intro hn (And.intro hm (And.intro (hr.later hB0) (And.intro (RdTs.later hrr hB0) hR))))
 clear hn hm hr hrr hR hB0 k0 k1 hB1 hF
 go_enter Tryz.func11,Tryz.ntmps11
 go_wp2
 clear hW
 go_loopw [7] (λi wr=>∃k q:Nat,k<=n/\i=.int .i64 k/\(x.v.toList.isEmpty=true∨x.v ∉ vars.take k)/\wr=W.drewN q) (λi _=>n-(intOf i).toNat)
 case atStart=>exact⟨0,0,by omega,rfl,.inr (by simp),rfl⟩
 case round =>
  obtain⟨k,q,hk,rfl,hno,rfl⟩:=hrel
  obtain⟨hn,hm,hv,hrw,hR⟩:=H.out
  by_cases hlt:k<n
  ·obtain⟨s,hs⟩:∃s,vars[k]?=some s:=⟨_,List.getElem?_eq_getElem (by omega)⟩
   obtain⟨u,hu⟩:∃u,row[k]?=some u:=⟨_,List.getElem?_eq_getElem (by omega)⟩
   obtain⟨g,o,rfl,hcs⟩:=hv.at_ (j:=k) (u:=.string s) (by rw[List.getElem?_map,hs];rfl)
   cases he:x.v.toList.isEmpty
   ·have hno2:x.v ∉ vars.take k:=by rcases hno with h|h;rw[he]at h;cases h;exact h
    by_cases hsx:s=x.v
    ·have hq:(s.toList == x.v.toList)=true:=by rw[hsx];simp
     have e2:R=u:=by rw[←hR];exact value_first hs hno2 he hsx hu
     subst e2
     obtain⟨g2,o2,rfl,a0,a1,a2,a3⟩:=hrw.at4 hu
     clear hn hm hv hrw hR hs hu hno hno2 hsx
     go_wp2
     go_quiet (fail)
     have hF:=HF.out (W.drewN (q+nq)) R (HK.out.1 _) (HK.out.2 _)
     go_wp2_with (first
      | (refine wpList_store_row rfl 26 _ _ rfl rfl rfl mtmInfo (HK.out.1 q) rfl rfl ?_)
      | fail)
     exact bodyPost_ret (results_cell_row rfl _ _ _ _ _ _ _ rfl hF.1 Tryz.underlying26 rfl mtmInfo) rfl ⟨rfl,hF.2⟩
    ·have hq:(s.toList == x.v.toList)=false:=by
      rw[beq_eq_false_iff_ne]
      intro h
      exact hsx ((Lib.bytes_beq_iff s x.v).1 (beq_iff_eq.2 h))
     have H2:Hid (x.v.toList.isEmpty=true∨x.v ∉ vars.take (k+1)):=by
      refine .inr ?_
      rw[take_snoc_of hs,List.mem_append]
      rintro(h|h)
      ·exact hno2 h
      ·simp only[List.mem_cons,List.not_mem_nil,or_false]at h
       exact hsx h.symm
     clear hn hm hv hrw hR hs hu hno hno2 hsx
     go_wp2
     go_quiet (fail)
     go_wp2
     exact⟨⟨k+1,q+nq,by omega,by go_num,(by have:=H2.out;rw[he]at this;exact this),rfl⟩,by simp[intOf];omega⟩
   ·clear hn hm hv hrw hR hs hu hno
    go_wp2
    go_quiet (fail)
    go_wp2
    exact⟨⟨k+1,q+nq,by omega,by go_num,(by first|exact .inl trivial|exact .inl he),rfl⟩,by simp[intOf];omega⟩
  ·have e2:R=x.t:=by
    rw[←hR]
    refine value_no ?_
    rw[List.take_of_length_le (by omega)]at hno
    exact hno
   subst e2
   clear hn hm hv hrw hR hno
   have hF:=HF.out (W.drewN q) x.t (HK.out.1 q) (HK.out.2 q)
   go_wp2_with (first
    | (refine wpList_store_row rfl 26 _ _ rfl rfl rfl mtmInfo (HK.out.1 q) rfl rfl ?_)
    | fail)
   exact bodyPost_ret (results_cell_row rfl _ _ _ _ _ _ _ rfl hF.1 Tryz.underlying26 rfl mtmInfo) rfl ⟨rfl,hF.2⟩
theorem mlCompare (a b:List Tm) (n c d:Nat) (A B:Option Addr) (w:World) (hn:a.length=n) (hm:b.length=n) (hC:CtxT w) (ha:RdTs w A a) (hb:RdTs w B b) (za:smallRow a) (zb:smallRow b) :
  Calls Tryz.prog 9 #[.slice A n c,.slice B n d] w λe w'=>e=.returned (.int .i64 (cmpRow a b))/\Below w.heap.size w w':=by
 have hln:n<=1000000:=by rw[←hn];exact za.1
 obtain⟨R,hR⟩:∃R,cmpRow a b=R:=⟨_,rfl⟩
 rw[hR]
 have H:=Lib.hid (And.intro hn (And.intro hm (And.intro ha (And.intro hb (And.intro za (And.intro zb (And.intro hC hR)))))))
 clear hn hm ha hb za zb hC hR
 go_enter Tryz.func9,Tryz.ntmps9
 go_wp2
 go_loopw [5,6] (λi _ wr=>∃k:Nat,k<=n/\i=.int .i64 k/\Hid (cmpRow (a.drop k) (b.drop k)=R)/\Hid (Below w.heap.size w wr)) (λi _ _=>n-(intOf i).toNat)
 case atStart=>exact⟨0,by omega,rfl,H.out.2.2.2.2.2.2.2,Below.refl _ _⟩
 case round =>
  obtain⟨k,hk,rfl,H1,HB⟩:=hrel
  obtain⟨hn,hm,ha,hb,za,zb,hC,hR⟩:=H.out
  by_cases hlt:k<n
  ·obtain⟨x,hx1⟩:∃x,a[k]?=some x:=⟨_,List.getElem?_eq_getElem (by omega)⟩
   obtain⟨z,hz1⟩:∃z,b[k]?=some z:=⟨_,List.getElem?_eq_getElem (by omega)⟩
   obtain⟨g1,o1,rfl,b0,b1,b2,b3⟩:=(RdTs.later ha HB.out).at4 hx1
   obtain⟨g2,o2,rfl,d0,d1,d2,d3⟩:=(RdTs.later hb HB.out).at4 hz1
   have hst:Hid (orZ (cmpTm x z) (cmpRow (a.drop (k+1)) (b.drop (k+1)))=R):=by
    show _=_
    rw[←cmpRow_drop hx1 hz1];exact H1.out
   have hcall:=λW (h:Below w.heap.size w W)=>termCompare x z W (hC.step h) (za.2 x (List.mem_of_getElem? hx1)) (zb.2 z (List.mem_of_getElem? hz1))
   have hcall2:=λd os=>hcall (Sort.grow (redrawn wr d) os) (below_tr HB.out (below_regrown wr d os))
   generalize cmpTm x z=r at *
   have x0:=λd os=>cell_on b0 (below_regrown wr d os)
   have x1:=λd os=>cell_on b1 (below_regrown wr d os)
   have x2:=λd os=>cell_on b2 (below_regrown wr d os)
   have x3:=λd os=>cell_on b3 (below_regrown wr d os)
   have y0:=λd os=>cell_on d0 (below_regrown wr d os)
   have y1:=λd os=>cell_on d1 (below_regrown wr d os)
   have y2:=λd os=>cell_on d2 (below_regrown wr d os)
   have y3:=λd os=>cell_on d3 (below_regrown wr d os)
   clear hx1 hz1 b0 b1 b2 b3 d0 d1 d2 d3 hn hm ha hb za zb hC hR H1 hcall
   go_wp2
   refine wrq ?_;(repeat (any_goals (go_big_quiet_step ((go_at_call 29;exact Calls.regrown_of (hcall2 _ _))))));all_goals (refine wqn ?_;intro d9 os9)
   have kq:=below_regrown wr d9 os9
   have HB3:=Lib.hid (below_tr HB.out kq)
   clear x0 x1 x2 x3 y0 y1 y2 y3 hcall2 kq HB
   generalize Sort.grow (redrawn wr d9) os9=w3 at *
   by_cases hz:r=0
   ·subst hz
    have hst2:Hid (cmpRow (a.drop (k+1)) (b.drop (k+1))=R):=by
     show _=_
     rw[←hst.out];rfl
    clear hst
    go_wp2
    exact⟨⟨k+1,by omega,by go_num,hst2,HB3⟩,by simp[intOf];omega⟩
   ·have hne:(r != 0)=true:=by simpa using hz
    have e2:R=r:=by rw[←hst.out];unfold orZ;rw[if_neg hz]
    subst e2
    clear hst
    go_wp2
    go_ret
    exact⟨rfl,HB3.out⟩
  ·have e2:R=0:=by
    have h:=H1.out
    rw[List.drop_of_length_le (by omega),List.drop_of_length_le (by omega)]at h
    exact h.symm
   subst e2
   clear hn hm ha hb za zb hC hR H1
   go_wp2
   go_ret
   exact⟨rfl,HB.out⟩
def likeL (vars:List ByteArray) (y row:List Tm) (names:List ByteArray):List Bool:=List.zipWith (λs r=>sameTm (valueP vars y ⟨s,zTm⟩) r) names row
def likeR (vars:List ByteArray) (y row:List Tm) (names:List ByteArray):Bool:=(likeL vars y row names).all id
theorem like_at {vars:List ByteArray} {y row:List Tm} {names:List ByteArray} {k:Nat} {s:ByteArray} {r:Tm} (h1:names[k]?=some s) (h2:row[k]?=some r):((likeL vars y row names).take (k+1)).all id=(((likeL vars y row names).take k).all id && sameTm (valueP vars y ⟨s,zTm⟩) r):=by
 have h:(likeL vars y row names)[k]?=some (sameTm (valueP vars y ⟨s,zTm⟩) r):=by
  unfold likeL
  rw[List.getElem?_zipWith,h1,h2]
 rw[take_snoc_of h,List.all_append]
 simp
theorem like_len {vars:List ByteArray} {y row:List Tm} {names:List ByteArray} (h:names.length<=row.length):(likeL vars y row names).length=names.length:=by
 unfold likeL
 rw[List.length_zipWith];omega
theorem mlAt (l:List (List Tm)) (vars:List ByteArray) (row:List Tm) (names:List ByteArray) (A B C D:Option Addr) (n c nv cv m d no co:Nat) (w:World) (hn:l.length=n) (hnv:vars.length=nv) (hm:row.length=m) (hno:names.length=no) (hln:n<=1000000) (hlv:nv<=1000000) (hlm:m<=1000000) (hnm:no<=m) (hall:∀y∈l,y.length=nv)
  (hl:RdRs w A l) (hv:Rd w B (vars.map Value.string)) (hr:RdTs w C row) (ho:Rd w D (names.map Value.string)) :
  Calls Tryz.prog 13 #[.slice A n c,.slice B nv cv,.slice C m d,.slice D no co] w λe w'=>(∃z:Int,e=.returned (.int .i64 z)/\((∃y∈l,likeR vars y row names=true)->0<=z)/\(0<=z->∃y∈l,likeR vars y row names=true))/\Below w.heap.size w w':=by
 have H:=Lib.hid (And.intro hn (And.intro hnv (And.intro hm (And.intro hno (And.intro hall (And.intro hl (And.intro hv (And.intro hr ho))))))))
 clear hn hnv hm hno hall hl hv hr ho
 go_enter Tryz.func13,Tryz.ntmps13
 go_wp2
 go_loopw [9,10,11] (λi _ _ wr=>∃k:Nat,k<=n/\i=.int .i64 k/\Hid (∀y∈l.take k,likeR vars y row names=false)/\Hid (Below w.heap.size w wr)) (λi _ _ _=>n-(intOf i).toNat)
 case atStart=>exact⟨0,by omega,rfl,(by show ∀y∈_,_;simp),Below.refl _ _⟩
 case round =>
  obtain⟨k,hk,rfl,H1,HB⟩:=hrel
  by_cases hlt:k<n
  ·obtain⟨y,hy⟩:∃y,l[k]?=some y:=⟨_,List.getElem?_eq_getElem (by have:=H.out.1;omega)⟩
   have HY:=Lib.hid hy
   clear hy
   go_wp2
   go_loopw [10,11] (λb i wr=>∃j:Nat,j<=no/\i=.int .i64 j/\b=.bool (((likeL vars y row names).take j).all id)/\Hid (Below w.heap.size w wr)) (λ_ i _=>no-(intOf i).toNat)
   case atStart=>exact⟨0,by omega,rfl,by simp,HB⟩
   case round =>
    obtain⟨j,hj,rfl,rfl,HB2⟩:=hrel
    obtain⟨hn,hnv,hm,hno,hall,hl,hv,hr,ho⟩:=H.out
    by_cases hlt2:j<no
    ·obtain⟨s,hs⟩:∃s,names[j]?=some s:=⟨_,List.getElem?_eq_getElem (by omega)⟩
     obtain⟨r,hrj⟩:∃r,row[j]?=some r:=⟨_,List.getElem?_eq_getElem (by omega)⟩
     have Hst:=Lib.hid (like_at (vars:=vars) (y:=y) hs hrj)
     obtain⟨g1,o1,A1,c1,rfl,hcy,_,hry⟩:=(RdRs.later hl HB2.out).at1 HY.out
     obtain⟨g2,o2,rfl,hcn⟩:=(ho.later HB2.out).at_ (j:=j) (u:=.string s) (by rw[List.getElem?_map,hs];rfl)
     obtain⟨g3,o3,rfl,b0,b1,b2,b3⟩:=(RdTs.later hr HB2.out).at4 hrj
     have hyl:y.length=nv:=hall y (List.mem_of_getElem? HY.out)
     rw[hyl]at hcy
     have hfree:=λd os=>mlFree s (Sort.grow (redrawn wr d) os)
     have hval:∀V,Below wr.heap.size wr V->Calls Tryz.prog 11 #[.slice B nv cv,.slice A1 nv c1,.agg #[.string s,.int .i64 0,.string ⟨#[]⟩,.string ⟨#[]⟩,.string ⟨#[]⟩]] V λe w'=>e=.returned (tA (valueP vars y ⟨s,zTm⟩))/\Below V.heap.size V w':=λV h =>
      mlValue vars y ⟨s,zTm⟩ B A1 nv cv nv c1 V hnv hyl hlv (Nat.le_refl _) (by omega) ((hv.later HB2.out).later h) (hry.later h)
     have heq:=λV=>run_eqTmT (valueP vars y ⟨s,zTm⟩) r V
     generalize valueP vars y ⟨s,zTm⟩=u at *
     generalize sameTm u r=z at *
     have e0:=λd os=>cell_on hcy (below_regrown wr d os)
     have e1:=λd os=>cell_on hcn (below_regrown wr d os)
     have x0:=λd os=>cell_on b0 (below_regrown wr d os)
     have x1:=λd os=>cell_on b1 (below_regrown wr d os)
     have x2:=λd os=>cell_on b2 (below_regrown wr d os)
     have x3:=λd os=>cell_on b3 (below_regrown wr d os)
     have hvd:=λd os=>hval (Sort.grow (redrawn wr d) os) (below_regrown wr d os)
     clear hn hnv hm hno hall hl hv hr ho hs hrj hyl hry hcy hcn b0 b1 b2 b3 hval
     cases hq:((likeL vars y row names).take j).all id
     ·rw[hq,Bool.false_and]at Hst
      go_wp2
      refine wrq ?_;(repeat (any_goals (go_big_quiet_step ((fail)))));all_goals (refine wqn ?_;intro d9 os9)
      have kq:=below_regrown wr d9 os9
      have HB3:=Lib.hid (below_tr HB2.out kq)
      clear e0 e1 x0 x1 x2 x3 hvd hfree kq
      generalize Sort.grow (redrawn wr d9) os9=w3 at *
      go_wp2
      exact⟨⟨j+1,by omega,by go_num,by rw[Hst.out],HB3⟩,by simp[intOf];omega⟩
     ·rw[hq,Bool.true_and]at Hst
      go_wp2
      refine wrq ?_;(repeat (any_goals (go_big_quiet_step ((first|(go_at_call 19;exact Calls.regrown_of (hfree _ _))|(go_at_call 11;exact Calls.regrown_of (hvd _ _)))))));all_goals (refine wqn ?_;intro d9 os9)
      have kq:=below_regrown wr d9 os9
      have HB3:=Lib.hid (below_tr HB2.out kq)
      clear e0 e1 x0 x1 x2 x3 hvd hfree kq
      generalize Sort.grow (redrawn wr d9) os9=w3 at *
      go_wp2
      exact⟨⟨j+1,by omega,by go_num,by rw[Hst.out],HB3⟩,by simp[intOf];omega⟩
    ·obtain rfl:j=no:=by omega
     rw[List.take_of_length_le (by rw[like_len (by omega)];omega)]
     have hk1:∀b,likeR vars y row names=b->b=false->∀z∈l.take (k+1),likeR vars z row names=false:=by
      intro b h1 h2 z hz
      rw[take_snoc_of HY.out,List.mem_append]at hz
      rcases hz with hz|hz
      ·exact H1.out z hz
      ·simp only[List.mem_cons,List.not_mem_nil,or_false]at hz
       rw[hz,h1,h2]
     have hmem:y∈l:=List.mem_of_getElem? HY.out
     cases hq:(likeL vars y row names).all id
     ·have H3:Hid (∀z∈l.take (k+1),likeR vars z row names=false):=hk1 _ hq rfl
      clear hn hnv hm hno hall hl hv hr ho hk1 hmem
      go_wp2
      exact⟨⟨k+1,by omega,by go_num,H3,HB2⟩,by simp[intOf];omega⟩
     ·have H3:=Lib.hid (show ∃z∈l,likeR vars z row names=true from ⟨y,hmem,hq⟩)
      clear hn hnv hm hno hall hl hv hr ho hk1 hmem
      go_wp2
      go_ret
      exact⟨⟨(k:Int),rfl,λ_=>by omega,λ_=>H3.out⟩,HB2.out⟩
  ·have hno:∀y∈l,likeR vars y row names=false:=by
    have:=H1.out
    rwa [List.take_of_length_le (by have:=H.out.1;omega)]at this
   have HN:=Lib.hid hno
   clear hno
   go_wp2
   go_ret
   refine⟨⟨-1,rfl,λ⟨y,h1,h2⟩=>?_,λh=>absurd h (by decide)⟩,HB.out⟩
   rw[HN.out y h1]at h2;cases h2
def bX:ByteArray:=⟨#[120]⟩
def bY:ByteArray:=⟨#[121]⟩
def bZ:ByteArray:=⟨#[122]⟩
def bQ:ByteArray:=⟨#[113]⟩
def frS (s:ByteArray):Sl:=⟨s,zTm⟩
def onS (t:Tm):Sl:=⟨⟨#[]⟩,t⟩
def mpP:Pat:=⟨frS bX,onS (iriT6 ⟨#[112]⟩),frS bY⟩
def mpP2:Pat:=⟨frS bY,onS (iriT6 ⟨#[112]⟩),frS bZ⟩
def mpP3:Pat:=⟨frS bY,frS bQ,frS bZ⟩
theorem mp_vars:varsN [mpP,mpP2]=[bX,bY,bZ]:=by kernel_rfl
theorem mp_solD:solD (setTp exaT) [mpP,mpP2]=[[iriT6 ⟨#[97]⟩,iriT6 ⟨#[98]⟩,iriT6 ⟨#[99]⟩]]:=by kernel_rfl
theorem mp_sol:solP exaT [mpP,mpP2]=[[iriT6 ⟨#[97]⟩,iriT6 ⟨#[98]⟩,iriT6 ⟨#[99]⟩]]:=List.perm_singleton.1 ((solP_perm _ _).trans (by rw[mp_solD]))
theorem mp_vars3:varsN [mpP,mpP3]=[bX,bY,bQ,bZ]:=by kernel_rfl
theorem mp_solD3:solD (setTp exaT) [mpP,mpP3]=[[iriT6 ⟨#[97]⟩,iriT6 ⟨#[98]⟩,iriT6 ⟨#[112]⟩,iriT6 ⟨#[99]⟩]]:=by kernel_rfl
theorem mp_sol3:solP exaT [mpP,mpP3]=[[iriT6 ⟨#[97]⟩,iriT6 ⟨#[98]⟩,iriT6 ⟨#[112]⟩,iriT6 ⟨#[99]⟩]]:=List.perm_singleton.1 ((solP_perm _ _).trans (by rw[mp_solD3]))
def mpQ:Qy 1:={ask:=false,dist:=false,vars:=[bZ],pats:=[mpP,mpP3],fils:=[],ord:=[],lim:=-1,off:=0}
theorem mp_err:errOf mpQ=0:=by kernel_rfl
theorem mp_ans4:ans4 [bX,bY,bQ,bZ] [bZ] 1 [] [] false [[iriT6 ⟨#[97]⟩,iriT6 ⟨#[98]⟩,iriT6 ⟨#[112]⟩,iriT6 ⟨#[99]⟩]]=[[iriT6 ⟨#[99]⟩]]:=by
 have hk:keepL [bX,bY,bQ,bZ] 1 [] [[iriT6 ⟨#[97]⟩,iriT6 ⟨#[98]⟩,iriT6 ⟨#[112]⟩,iriT6 ⟨#[99]⟩]]=[[iriT6 ⟨#[97]⟩,iriT6 ⟨#[98]⟩,iriT6 ⟨#[112]⟩,iriT6 ⟨#[99]⟩]]:=by kernel_rfl
 have hs:sortL [bX,bY,bQ,bZ] [] [[iriT6 ⟨#[97]⟩,iriT6 ⟨#[98]⟩,iriT6 ⟨#[112]⟩,iriT6 ⟨#[99]⟩]]=[[iriT6 ⟨#[97]⟩,iriT6 ⟨#[98]⟩,iriT6 ⟨#[112]⟩,iriT6 ⟨#[99]⟩]]:=List.perm_singleton.1 (sortL_perm _ _ _)
 have hp:projN [bX,bY,bQ,bZ] [bZ]=0:=by kernel_rfl
 unfold ans4 ans3
 rw[if_neg (by decide),hk,hs,if_pos hp]
 rfl
theorem mp_ans:meanAns exaT mpQ=(true,[[iriT6 ⟨#[99]⟩]]):=by
 have h:cutL mpQ.off mpQ.lim (ans4 (varsN mpQ.pats) mpQ.vars 1 mpQ.fils mpQ.ord mpQ.dist (solP exaT mpQ.pats))=[[iriT6 ⟨#[99]⟩]]:=by
  show cutL 0 (-1) (ans4 (varsN [mpP,mpP3]) [bZ] 1 [] [] false (solP exaT [mpP,mpP3]))=_
  rw[mp_sol3,mp_vars3,mp_ans4]
  kernel_rfl
 unfold meanAns
 rw[if_neg (by rw[mp_err];decide),if_neg (by decide),h]
 rfl
theorem mp_prod:prodP exaT [mpP,mpP2]<=1500:=by
 have:prodP exaT [mpP,mpP2]=4:=by kernel_rfl
 omega
theorem mp_prod3:prodP exaT [mpP,mpP3]<=1500:=by
 have:prodP exaT [mpP,mpP3]=6:=by kernel_rfl
 omega
theorem sortK_pair (ks:List (Nat × Bool)) (l:List (List Tm)):(sortK ks l).Pairwise λx y=>lessK ks y x=false:=by
 have h:=List.pairwise_mergeSort (le:=λx y => !lessK ks y x) (λa b c h1 h2=>by
  simp only[Bool.not_eq_true',lessK_not]at h1 h2 ⊢
  exact(ordF_keys ks).le h1 h2) (λa b=>by
  simp only[Bool.or_eq_true,Bool.not_eq_true',lessK_not]
  have:=(ordF_keys ks).neg a b
  omega) l
 exact h.imp λh=>by simpa using h
theorem solP_rise {set:List Tp} {ps:List Pat} {i:Nat} {a b:List Tm} (ha:(solP set ps)[i]?=some a) (hb:(solP set ps)[i+1]?=some b):cmpRow a b<0:=by
 obtain⟨h1,e1⟩:=List.getElem?_eq_some_iff.1 ha
 obtain⟨h2,e2⟩:=List.getElem?_eq_some_iff.1 hb
 have hp:=List.pairwise_iff_getElem.1 (sortK_pair [] (solD (setTp set) ps)) i (i+1) h1 h2 (by omega)
 have hn:=List.pairwise_iff_getElem.1 (solP_nodup set ps) i (i+1) h1 h2 (by omega)
 have e3:(sortK [] (solD (setTp set) ps))[i]'h1=a:=e1
 have e4:(sortK [] (solD (setTp set) ps))[i+1]'h2=b:=e2
 rw[e3,e4,lessK_not]at hp
 rw[e1,e2]at hn
 have h3:cmpRow a b<=0:=hp
 have h4:cmpRow a b≠0:=λh=>hn (cmpRow_zero a b h)
 omega
theorem like_of {vars:List ByteArray} {y row:List Tm} {names:List ByteArray} (h:∀(k:Nat) (s:ByteArray),names[k]?=some s->some (valueP vars y ⟨s,zTm⟩)=row[k]?):likeR vars y row names=true:=by
 unfold likeR
 rw[List.all_eq_true]
 intro b hb
 obtain⟨k,hk⟩:=List.getElem?_of_mem hb
 unfold likeL at hk
 rw[List.getElem?_zipWith]at hk
 cases hn:names[k]? with
 | none=>rw[hn]at hk;simp at hk
 | some s =>
  have h1:=h k s hn
  rw[hn,←h1]at hk
  simp only[Option.some.injEq]at hk
  rw[←hk,sameTm_iffT.2 rfl];rfl
theorem cnt_perm {a b:List Tp} (h:a.Perm b) (p:Pat):cntP a p=cntP b p:=h.countP_eq _
theorem prodP_perm {a b:List Tp} (h:a.Perm b) (ps:List Pat):prodP a ps=prodP b ps:=
 Nat.le_antisymm (prodP_le (λp=>Nat.le_of_eq (cnt_perm h p)) ps) (prodP_le (λp=>Nat.le_of_eq (cnt_perm h.symm p)) ps)
theorem prodP_more (a b:List Tp) (ps:List Pat):prodP a ps<=prodP (a++b) ps:=prodP_le (λp=>by unfold cntP;rw[List.countP_append];omega) ps
theorem prodP_turn (set:List Tp) (ps:List Pat) (m:Nat):prodP set (ps.drop m++ps.take m)=prodP set ps:=by
 rw[prodP_app,Nat.mul_comm,←prodP_app,List.take_append_drop]
theorem turn_perm {α:Type} (l:List α) (k:Nat):(l.drop k++l.take k).Perm l:=by
 have:=(List.perm_append_comm (l₁:=l.drop k) (l₂:=l.take k))
 rwa [List.take_append_drop]at this
theorem sound_bounds {set:List Tp} {ps:List Pat} {more:Tp} (h:heavyP (set++[more]) ps 1=false) (k m:Nat) :
  prodP set ps<=1500/\prodP (set.drop k++set.take k) (ps.drop m++ps.take m)<=1500/\prodP (more::(set.drop k++set.take k)) ps<=1500:=by
 have h1:=heavy_no h
 have h2:=prodP_more set [more] ps
 refine⟨by omega,?_,?_⟩
 ·rw[prodP_turn,prodP_perm (turn_perm set k)];omega
 ·rw[prodP_perm (((turn_perm set k).cons more).trans (List.perm_append_singleton more set).symm)];exact h1
theorem sound_back {set:List Tp} {ps:List Pat} (k m:Nat):(solP (set.drop k++set.take k) (ps.drop m++ps.take m)).length=(solP set ps).length /\
  ∀r∈solP set ps,∃y∈solP (set.drop k++set.take k) (ps.drop m++ps.take m),likeR (varsN (ps.drop m++ps.take m)) y r (varsN ps)=true:=
 ⟨turn_len (λt=>(turn_perm set k).mem_iff.symm) (λp=>(turn_perm ps m).mem_iff),λr hr=>by
  obtain⟨y,hy,h⟩:=like_in (a:=set) (b:=set.drop k++set.take k) (ps:=ps) (qs:=ps.drop m++ps.take m) (λt ht=>(turn_perm set k).mem_iff.2 ht) (λp=>(turn_perm ps m).mem_iff) hr
  exact⟨y,hy,like_of h⟩⟩
theorem sound_more {set:List Tp} {ps:List Pat} (more:Tp) (k:Nat):(solP set ps).length<=(solP (more::(set.drop k++set.take k)) ps).length /\
  ∀r∈solP set ps,∃y∈solP (more::(set.drop k++set.take k)) ps,likeR (varsN ps) y r (varsN ps)=true:=
 ⟨turn_le (λt ht=>List.mem_cons_of_mem _ ((turn_perm set k).mem_iff.2 ht)) (λ_=>Iff.rfl),λr hr=>by
  obtain⟨y,hy,h⟩:=like_in (a:=set) (b:=more::(set.drop k++set.take k)) (ps:=ps) (qs:=ps) (λt ht=>List.mem_cons_of_mem _ ((turn_perm set k).mem_iff.2 ht)) (λ_=>Iff.rfl) hr
  exact⟨y,hy,like_of h⟩⟩
end Go.Proofs.YtoaemihcbmlkgaaGreatDoor
