/- The program's package filter, walked: a judge's not, many. T -/
import Derived.Test.YtjldjeenfnahoaaGreatDoorJFilTwo
set_option maxHeartbeats 1000000
set_option maxRecDepth 10000
namespace Go.Proofs.YtjldjeenfnahoaaGreatDoor
open Go Go.RowKit Go.Maps Go.ChangeMaps Fm
def zJ (vars:List ByteArray) (row:List Tm) (b:Nat) (w:World) (n:Nat) (x:ExT n):Prop:=
 ∀(cs:List Value) (W:World),Below w.heap.size w W->RdE n W cs x->Calls Tryz.prog 96 #[.pointer (some ⟨b,0,none⟩),.agg cs.toArray] W
  λe w'=>e=.returned (.int .i64 (ofI vars row n x))/\Below W.heap.size W w'
theorem Bs (vars:List ByteArray) (row:List Tm) (b:Nat) (k:Int) (s:ByteArray) (t:Tm) (A:Option Addr) (c n:Nat) (kids:List (ExT n)) (w:World) (hk:aF n w A kids) (hkl:kids.length<=1353245080300)
  (ih:∀x∈kids,zJ vars row b w n x) :
  Calls Tryz.prog 121 #[.pointer (some ⟨b,0,none⟩),.agg #[.int .i64 k,.string s,.int .i64 t.k,.string t.x,.string t.l,.string t.y,.slice A kids.length c]] w
   λe w'=>e=.returned (.int .i64 (noI (kids.map (ofI vars row n))))/\Below w.heap.size w w':=by
 have hl':(kids.length:Int)<=1353245080300:=by omega
 by_cases h1:(kids.length:Int)=1
 ·obtain⟨x,rfl⟩:∃x,kids=[x]:=List.length_eq_one_iff.1 (by omega)
  have hB0:Below w.heap.size w (w.alloc (.cells #[.int .i64 k,.string s,.int .i64 t.k,.string t.x,.string t.l,.string t.y,.slice A 1 c] 67)):=blw
  obtain⟨g,o,u0,u1,u2,u3,u4,u5,u6,rfl,hR,c0,c1,c2,c3,c4,c5,c6⟩:=(aF.later hk hB0).at7 (j:=0) rfl
  have hS:=ih x (by simp) _ _ hB0 hR
  clear ih hk hR h1
  have HB0:=Lib.hid hB0
  clear hB0
  simp only[List.map_cons,List.map_nil,noI,List.length_cons,List.length_nil,Nat.zero_add]at hl' ⊢
  simp only[Nat.zero_mul,Nat.add_zero]at c0 c1 c2 c3 c4 c5 c6
  go_enter Tryz.func121,Tryz.ntmps121
  go_wp2_with fail
  refine hS.mono ?_
  rintro e w2 ⟨rfl,hb2⟩
  go_wp2_with fail
  refine(jy _ _).mono ?_
  rintro e w3 ⟨rfl,rfl⟩
  go_wp2
  go_ret
  exact⟨rfl,aa HB0.out hb2⟩
 ·have hv:noI (kids.map (ofI vars row n))=3:=by
   rcases kids with _|⟨x,_|⟨y,r⟩⟩
   ·rfl
   ·exact(h1 rfl).elim
   ·rfl
  rw[hv]
  clear ih hk hv
  go_enter Tryz.func121,Tryz.ntmps121
  go_wp2
  go_ret
  exact⟨rfl,blw⟩
theorem zh (vars:List ByteArray) (row:List Tm) (b:Nat) (k:Int) (s:ByteArray) (t:Tm) (A:Option Addr) (c n:Nat) (kids:List (ExT n)) (w:World) (hk:aF n w A kids) (hkl:kids.length<=1353245080300)
  (ih:∀x∈kids,zJ vars row b w n x) :
  Calls Tryz.prog 122 #[.pointer (some ⟨b,0,none⟩),.agg #[.int .i64 k,.string s,.int .i64 t.k,.string t.x,.string t.l,.string t.y,.slice A kids.length c]] w
   λe w'=>e=.returned (.int .i64 (if k == 4 then mo (kids.map (ofI vars row n)) else orI (kids.map (ofI vars row n))))/\Below w.heap.size w w':=by
 have hl':(kids.length:Int)<=1353245080300:=by omega
 obtain⟨v,hv⟩:∃v:Int,(if k == 4 then mo (kids.map (ofI vars row n)) else orI (kids.map (ofI vars row n)))=v:=⟨_,rfl⟩
 rw[hv]
 have Hv:=Lib.hid hv
 clear hv
 go_enter Tryz.func122,Tryz.ntmps122
 go_wp2
 obtain⟨W,hW⟩:∃W:World,w.alloc (.cells #[.int .i64 k,.string s,.int .i64 t.k,.string t.x,.string t.l,.string t.y,.slice A kids.length c] 67)=W:=⟨_,rfl⟩
 have hB0:Below w.heap.size w W:=by rw[←hW];exact blw
 have hz:W.heap.size=w.heap.size+1:=by rw[←hW];simp
 have hc0:W.cell? ⟨w.heap.size,0,none⟩=some (.int .i64 k):=by rw[←hW,World.cell?,heap_alloc_new];rfl
 simp only[hW]
 have Hz:=Lib.hid hz
 have HW:=Lib.hid hW
 clear hW hz
 go_loopw [5,11] (λvv i wr=>∃j:Nat,j<=kids.length/\i=.int .i64 j/\zL wr W.heap.size 129 vv ((kids.take j).map (ofI vars row n))/\Below W.heap.size W wr) (λ_ i _=>kids.length-(intOf i).toNat)
 case atStart=>exact⟨0,by omega,rfl,by simpa[zL] using World.ownsRow_nil _ _ _ _,Below.refl _ _⟩
 case round =>
  obtain⟨j,hj,rfl,hown,hB⟩:=hrel
  by_cases hlt:j<kids.length
  ·obtain⟨x,hx⟩:∃x,kids[j]?=some x:=⟨_,List.getElem?_eq_getElem hlt⟩
   obtain⟨g,o,k',s',t',A',m',d',rfl,hR,c0,c1,c2,c3,c4,c5,c6⟩:=(aF.later (aF.later hk hB0) hB).atv hx
   have hts:=ah hx
   have hS:=ih x (List.mem_of_getElem? hx) [.int .i64 k',.string s',.int .i64 t'.k,.string t'.x,.string t'.l,.string t'.y,.slice A' m' d'] (wr.alloc (.cells #[.int .i64 k',.string s',.int .i64 t'.k,.string t'.x,.string t'.l,.string t'.y,.slice A' m' d'] 67)) (gq (aa hB0 hB)) (hR.later blw)
   have hlk:((kids.take j).map (ofI vars row n)).length=j:=by simp;omega
   have Hts:=Lib.hid hts
   have HB0:=Lib.hid hB0
   have HR:=Lib.hid hR
   unfold zL at hown
   rw[hlk]at hown
   have Hc0:=Lib.hid hc0
   have hle:W.heap.size<=wr.heap.size:=hB.size
   clear hx hts hlk hR ih hc0 hB0
   go_wp2_with fail
   refine hS.mono ?_
   rintro e w2 ⟨rfl,hb2⟩
   have hb3:Below wr.heap.size wr w2:=((Below.refl _ _).alloc (Nat.le_refl _) _).trans (hb2.mono (by simp))
   have hbW:Below W.heap.size W w2:=hB.trans (hb3.mono hle)
   have hown2:=own_below hown hb3 (Nat.le_refl _)
   have hle2:W.heap.size<=w2.heap.size:=hbW.size
   clear hown hS hb3
   go_wp2_with (at_builtin;refine bB rfl rfl Tryz.underlying183 uE rfl (by omega) rfl (hown2.alloc _) rfl (Rd.of_block (heap_alloc_new w2 _) rfl) rfl (Ds [_]) (by omega) (by omega) (by simp;omega) ?_;intro v' w3 hown3 hb4)
   have hB2:=(hbW.alloc hbW.size (.cells #[.int .i64 (ofI vars row n x)] 129)).trans hb4
   go_roundw
   case rel =>
    refine⟨j+1,by omega,by go_num,?_,hB2⟩
    rw[Hts.out]
    unfold zL
    rw[List.map_append,List.length_append,List.length_map,List.length_take,Nat.min_eq_left (by omega),List.map_append]
    exact hown3
   case measure=>simp[intOf];omega
  ·have hk2:kids.take j=kids:=List.take_of_length_le (by omega)
   rw[hk2]at hown
   obtain⟨A1,c1,rfl,hcc,hrt⟩:=xX hown
   have hc:=hB.cell (p:=⟨w.heap.size,0,none⟩) (by have:=Hz.out;simp;omega)
   rw[hc0]at hc
   have hlen:(kids.map (ofI vars row n)).length=kids.length:=List.length_map _
   have HB:=Lib.hid (aa hB0 hB)
   clear hown hk2 ih hk hB0 hB hc0
   have hAnd:=CP (kids.map (ofI vars row n)) A1 c1 wr (by omega) hrt
   have hOr:=Dt (kids.map (ofI vars row n)) A1 c1 wr (by omega) hrt
   rw[hlen]at hAnd hOr
   clear hlen hrt
   by_cases h4:k=4
   ·subst h4
    go_wp2_with fail
    refine hAnd.mono ?_
    rintro e w2 ⟨rfl,hb2⟩
    go_wp2
    go_ret
    exact⟨by rw[←Hv.out];rfl,aa HB.out hb2⟩
   ·go_wp2_with fail
    refine hOr.mono ?_
    rintro e w2 ⟨rfl,hb2⟩
    go_wp2
    go_ret
    refine⟨?_,aa HB.out hb2⟩
    have h4':(k == 4)=false:=by simpa using h4
    rw[←Hv.out,h4'];rfl
theorem g8 {α:Type} (l:List α):l.isEmpty=(l.length == 0):=by cases l<;>rfl
theorem rc (vars:List ByteArray) (row:List Tm) (b:Nat) (hv:vars.length<=281474976710656) (hrl:row.length<=281474976710656) (hzr:∀u∈row,u.x.size<=281474976710656) (n:Nat) :
  ∀(x:ExT n) (cs:List Value) (w:World),cZ w b vars row->RdE n w cs x->szE n x ->
  Calls Tryz.prog 96 #[.pointer (some ⟨b,0,none⟩),.agg cs.toArray] w λe w'=>e=.returned (.int .i64 (ofI vars row n x))/\Below w.heap.size w w':=by
 induction n with
 | zero=>intro x cs w _ h;exact h.elim
 | succ n ih =>
  rintro⟨k,s,t,kids⟩ cs w hj ⟨A,c,rfl,hcap,hk⟩ ⟨hs1,hs2,hkl,hkz⟩
  have hS:∀W,Below w.heap.size w W->∀x∈kids,zJ vars row b W n x:=λW hW x hx cs W' hW' hr=>ih x cs W' ((hj.later hW).later hW') hr (hkz x hx)
  have hkl2:kids.length<=281474976710656:=by omega
  by_cases h12:(k == 1 || k == 2)=true
  ·have hz:=ep vars row k s t (kids.length == 0) hs2 hzr
   have hd:cM (.pointer (some ⟨b,0,none⟩)) k=.func (.func 120) #[.pointer (some ⟨b,0,none⟩)] #[]:=by unfold cM;rw[if_pos h12]
   have ho:ofI vars row (n+1) (k,s,t,kids)=tW (cE vars row k s t (kids.length == 0)):=by rw[ofI,if_pos h12,g8]
   rw[ho]
   exact gh vars row b k s t A kids.length c w hj _ hd (enters_of Tryz.func120 (by kernel_rfl) rfl) _ λW hW=>wl vars row b k s t A kids.length c W (hj.later hW) hv hrl hkl2 hz
  have h12':(k == 1 || k == 2)=false:=by simpa using h12
  by_cases h3:(k == 3)=true
  ·have hd:cM (.pointer (some ⟨b,0,none⟩)) k=.func (.func 121) #[.pointer (some ⟨b,0,none⟩)] #[]:=by unfold cM;rw[if_neg h12,if_pos h3]
   have ho:ofI vars row (n+1) (k,s,t,kids)=noI (kids.map (ofI vars row n)):=by rw[ofI,if_neg h12,if_pos h3]
   rw[ho]
   exact gh vars row b k s t A kids.length c w hj _ hd (enters_of Tryz.func121 (by kernel_rfl) rfl) _ λW hW=>Bs vars row b k s t A c n kids W (aF.later hk hW) hkl (hS W hW)
  by_cases h45:(k == 4 || k == 5)=true
  ·have hd:cM (.pointer (some ⟨b,0,none⟩)) k=.func (.func 122) #[.pointer (some ⟨b,0,none⟩)] #[]:=by unfold cM;rw[if_neg h12,if_neg h3,if_pos h45]
   have ho:ofI vars row (n+1) (k,s,t,kids)=if k == 4 then mo (kids.map (ofI vars row n)) else orI (kids.map (ofI vars row n)):=by
    rw[ofI,if_neg h12,if_neg h3]
    by_cases h4:(k == 4)=true
    ·rw[if_pos h4,if_pos h4]
    ·have h5:(k == 5)=true:=by simpa[h4] using h45
     rw[if_neg h4,if_pos h5,if_neg h4]
   rw[ho]
   exact gh vars row b k s t A kids.length c w hj _ hd (enters_of Tryz.func122 (by kernel_rfl) rfl) _ λW hW=>zh vars row b k s t A c n kids W (aF.later hk hW) hkl (hS W hW)
  have h45':(k == 4 || k == 5)=false:=by simpa using h45
  have h4:¬ (k == 4)=true:=by intro h;rw[h]at h45';cases h45'
  have h5:¬ (k == 5)=true:=by intro h;rw[h,Bool.or_true]at h45';cases h45'
  by_cases hc:oe k=true
  ·have hd:cM (.pointer (some ⟨b,0,none⟩)) k=.func (.func 123) #[.pointer (some ⟨b,0,none⟩)] #[]:=by unfold cM;rw[if_neg h12,if_neg h3,if_neg h45,if_pos hc]
   have ho:ofI vars row (n+1) (k,s,t,kids)=kN k (kids.map (bf vars row n)):=by rw[ofI,if_neg h12,if_neg h3,if_neg h4,if_neg h5,if_pos hc]
   rw[ho]
   exact gh vars row b k s t A kids.length c w hj _ hd (enters_of Tryz.func123 (by kernel_rfl) rfl) _ λW hW=>Br vars row b k s t A c n kids W (aF.later hk hW) hkl (hj.later hW) hv hrl hzr hkz
  by_cases hq:isKind k=true
  ·have hd:cM (.pointer (some ⟨b,0,none⟩)) k=.func (.func 124) #[.pointer (some ⟨b,0,none⟩)] #[]:=by unfold cM;rw[if_neg h12,if_neg h3,if_neg h45,if_neg hc,if_pos hq]
   have ho:ofI vars row (n+1) (k,s,t,kids)=lI k (kids.map (bf vars row n)):=by rw[ofI,if_neg h12,if_neg h3,if_neg h4,if_neg h5,if_neg hc,if_pos hq]
   rw[ho]
   exact gh vars row b k s t A kids.length c w hj _ hd (enters_of Tryz.func124 (by kernel_rfl) rfl) _ λW hW=>zi vars row b k s t A c n kids W (aF.later hk hW) hkl (hj.later hW) hv hrl hzr hkz
  ·have hd:cM (.pointer (some ⟨b,0,none⟩)) k=.nilFunc:=by unfold cM;rw[if_neg h12,if_neg h3,if_neg h45,if_neg hc,if_neg hq]
   have ho:ofI vars row (n+1) (k,s,t,kids)=3:=by rw[ofI,if_neg h12,if_neg h3,if_neg h4,if_neg h5,if_neg hc,if_neg hq]
   rw[ho]
   exact sO vars row b k s t A kids.length c w hj hd
theorem bZ {w w':World} {r:Nat} {q:IntKind} {kvs:List (Int × Value)} (hm:ed w q r kvs) (hg:w.grownBy w' (some r)) {p:Addr} {u:Value} (h:w.cell? p=some u):w'.cell? p=some u:=by
 obtain⟨es,cl,hr,_⟩:=hm
 have hne:p.block≠r:=by
  intro e
  rw[World.cell?,e,hr]at h
  cases h
 have hb:=hg.block p.block (ae h) (λe=>hne (by injection e))
 rw[World.cell?,hb]
 exact h
theorem oK {w w':World} {r:Nat} {q:IntKind} {kvs:List (Int × Value)} (hm:ed w q r kvs) (hg:w.grownBy w' (some r)) {A:Option Addr} {xs:List Value} (h:Rd w A xs):Rd w' A xs:=by
 rcases h with h|⟨g,o,hA,hc⟩
 ·exact .inl h
 ·exact .inr ⟨g,o,hA,λj u hu=>bZ hm hg (hc j u hu)⟩
theorem qZ {a b c:World} {r:Nat} (h:a.grownBy b (some r)) (k:b.grownBy c (some r)):a.grownBy c (some r):=
 ⟨k.os.trans h.os,k.tape.trans h.tape,k.output.trans h.output,Nat.le_trans h.size k.size,λi hi hne=>(k.block i (Nat.lt_of_lt_of_le hi h.size) hne).trans (h.block i hi hne)⟩
theorem CO (b r:Nat) (v:Value) (kvs:List (Int × Value)) (ks:List Int) (A:Option Addr) (c:Nat) (w:World) (hl:ks.length<=1000) (hr:Rd w A (ks.map (Value.int .i64))) (hm:ed w .i64 r kvs)
  (hj:w.cell? ⟨b,2,none⟩=some (.map (some r))) (hn:∀(j:Nat) x,ks[j]?=some x->(kvs++(ks.take j).map λk=>(k,v)).find? (λp=>p.1 == x)=none) :
  Calls Tryz.prog 119 #[.pointer (some ⟨b,0,none⟩),v,.slice A ks.length c] w λe w'=>(∃u,e=.returned u)/\ed w' .i64 r (kvs++ks.map λk=>(k,v))/\w.grownBy w' (some r):=by
 go_enter Tryz.func119,Tryz.ntmps119
 go_wp2
 go_loopw [10] (λi wr=>∃j:Nat,j<=ks.length/\i=.int .i64 j/\ed wr .i64 r (kvs++(ks.take j).map λk=>(k,v))/\w.grownBy wr (some r)) (λi _=>ks.length-(intOf i).toNat)
 case atStart=>exact⟨0,by omega,rfl,by simpa using hm,rfl,rfl,rfl,Nat.le_refl _,λ_ _ _=>rfl⟩
 case round =>
  obtain⟨j,hj1,rfl,hM,hg⟩:=hrel
  by_cases hlt:j<ks.length
  ·obtain⟨x,hx⟩:∃x,ks[j]?=some x:=⟨_,List.getElem?_eq_getElem hlt⟩
   obtain⟨g,o,rfl,hcx⟩:=(oK hm hg hr).at_ (j:=j) (u:=.int .i64 x) (by simp[hx])
   have hj2:=bZ hm hg hj
   have hnn:=hn j x hx
   have Hts:=Lib.hid (ah hx)
   have Hg:=Lib.hid hg
   have Hn:=Lib.hid hn
   have Hm:=Lib.hid hm
   clear hx hn hg hm hr hj
   go_wp2_with (at_mapUpdate;refine gG _ rfl _ _ _ _ rfl Tryz.underlying157 Tryz.underlying62 rfl hM x v rfl rfl hnn ?_;intro w2 hM2 hg2)
   go_roundw
   case rel=>exact⟨j+1,by omega,by go_num,by rw[Hts.out];simpa using hM2,qZ Hg.out hg2⟩
   case measure=>simp[intOf];omega
  ·have hk2:ks.take j=ks:=List.take_of_length_le (by omega)
   rw[hk2]at hM
   clear hk2 hn hm hr
   go_wp2
   go_end0
   exact⟨⟨_,rfl⟩,hM,hg⟩
theorem sN {kvs:List (Int × Value)} {ks:List Int} {v:Value} (h:(kvs.map (·.1)++ks).Nodup) (j:Nat) (x:Int) (hx:ks[j]?=some x):(kvs++(ks.take j).map λk=>(k,v)).find? (λp=>p.1 == x)=none:=by
 rw[List.nodup_append]at h
 obtain⟨_,h2,h3⟩:=h
 rw[List.find?_eq_none]
 intro p hp
 simp only[beq_iff_eq]
 intro e
 rcases List.mem_append.1 hp with hp|hp
 ·exact h3 _ (List.mem_map_of_mem hp) _ (List.mem_of_getElem? hx) e
 ·obtain⟨k,hk,rfl⟩:=List.mem_map.1 hp
  simp only at e
  subst e
  rw[←List.take_append_drop j ks,List.nodup_append]at h2
  exact h2.2.2 k hk k (by rw[an hx];simp) rfl
structure uu (w0 w:World) (b r:Nat) (x0 x1:Value) (kvs:List (Int × Value)):Prop where
 below:Below w0.heap.size w0 w
 lo:w0.heap.size<=r
 c0:w.cell? ⟨b,0,none⟩=some x0
 c1:w.cell? ⟨b,1,none⟩=some x1
 c2:w.cell? ⟨b,2,none⟩=some (.map (some r))
 m:ed w .i64 r kvs
theorem uu.set {w0 w:World} {b r:Nat} {x0 x1:Value} {kvs:List (Int × Value)} (h:uu w0 w b r x0 x1 kvs) (v:Value) (ks:List Int) (n:Nat) (hn:ks.length=n) (hl:n<=1000) (ty:TypeId) (B:Nat) (hB:w.heap.size=B) (cs:Array Value) (hcs:cs.toList=ks.map (Value.int .i64)) (hd:(kvs.map (·.1)++ks).Nodup) :
  Calls Tryz.prog 119 #[.pointer (some ⟨b,0,none⟩),v,.slice (some ⟨B,0,none⟩) n n] (w.alloc (.cells cs ty))
   λe w'=>(∃u,e=.returned u)/\uu w0 w' b r x0 x1 (kvs++ks.map λk=>(k,v)):=by
 subst hn hB
 have hb:Below w.heap.size w (w.alloc (.cells cs ty)):=blw
 have on:∀{p:Addr} {u:Value},w.cell? p=some u->(w.alloc (.cells cs ty)).cell? p=some u:=λh=>ab h hb
 refine(CO b r v kvs ks (some ⟨w.heap.size,0,none⟩) ks.length _ hl (Rd.of_block (heap_alloc_new _ _) hcs) (h.m.later hb) (on h.c2) (λj x hx=>sN hd j x hx)).mono ?_
 rintro e w' ⟨hu,hm,hg⟩
 exact⟨hu,(aa h.below hb).grown hg (aa h.below hb).size λk e=>by injection e with e;subst e;exact h.lo,h.lo,bZ (h.m.later hb) hg (on h.c0),bZ (h.m.later hb) hg (on h.c1),bZ (h.m.later hb) hg (on h.c2),hm⟩
theorem Bq (vars:List ByteArray) (row:List Tm) (A1 A2:Option Addr) (c1 c2:Nat) (w:World) (hr1:Rd w A1 (vars.map Value.string)) (hr2:RdTs w A2 row) :
  Calls Tryz.prog 93 #[.slice A1 vars.length c1,.slice A2 row.length c2] w λe w'=>∃b,e=.returned (.pointer (some ⟨b,0,none⟩))/\cZ w' b vars row/\Below w.heap.size w w':=by
 have hmm:=@run_makeMap Tryz.prog
 go_enter Tryz.func93,Tryz.ntmps93
 have hM0:uu w ((w.alloc (Obj.map #[] 0)).alloc (Obj.cells #[.slice A1 vars.length c1,.slice A2 row.length c2,.map (some w.heap.size)] 159)) (w.heap.size+1) w.heap.size (.slice A1 vars.length c1) (.slice A2 row.length c2) []:=by
  refine⟨blw,Nat.le_refl _,?_,?_,?_,⟨#[],0,?_,rfl⟩⟩
  ·rw[World.cell?,ai];rfl
  ·rw[World.cell?,ai];rfl
  ·rw[World.cell?,ai];rfl
  ·rw[am]
 go_wp2_with fail
 have hs0:=λv=>hM0.set v [1,2] 2 rfl (by decide) 62 _ rfl #[.int .i64 1,.int .i64 2] rfl (show (([]:List Int)++[1,2]).Nodup by decide)
 try simp only[World.size_alloc]at hs0
 refine((hs0 _).mono ?_)
 rintro e w1 ⟨⟨u0,rfl⟩,hM1⟩
 go_wp2_with fail
 have hs1:=λv=>hM1.set v [3] 1 rfl (by decide) 62 _ rfl #[.int .i64 3] rfl (show (([1,2]:List Int)++[3]).Nodup by decide)
 try simp only[World.size_alloc]at hs1
 refine((hs1 _).mono ?_)
 rintro e w2 ⟨⟨u1,rfl⟩,hM2⟩
 go_wp2_with fail
 have hs2:=λv=>hM2.set v [4,5] 2 rfl (by decide) 62 _ rfl #[.int .i64 4,.int .i64 5] rfl (show (([1,2,3]:List Int)++[4,5]).Nodup by decide)
 try simp only[World.size_alloc]at hs2
 refine((hs2 _).mono ?_)
 rintro e w3 ⟨⟨u2,rfl⟩,hM3⟩
 go_wp2_with fail
 have hs3:=λv=>hM3.set v [6,7,8,9,10,11] 6 rfl (by decide) 62 _ rfl #[.int .i64 6,.int .i64 7,.int .i64 8,.int .i64 9,.int .i64 10,.int .i64 11] rfl (show (([1,2,3,4,5]:List Int)++[6,7,8,9,10,11]).Nodup by decide)
 try simp only[World.size_alloc]at hs3
 refine((hs3 _).mono ?_)
 rintro e w4 ⟨⟨u3,rfl⟩,hM4⟩
 go_wp2_with fail
 have hs4:=λv=>hM4.set v [12,13,14] 3 rfl (by decide) 62 _ rfl #[.int .i64 12,.int .i64 13,.int .i64 14] rfl (show (([1,2,3,4,5,6,7,8,9,10,11]:List Int)++[12,13,14]).Nodup by decide)
 try simp only[World.size_alloc]at hs4
 refine((hs4 _).mono ?_)
 rintro e w5 ⟨⟨u4,rfl⟩,hM5⟩
 go_wp2
 go_ret
 exact⟨_,rfl,⟨A1,A2,c1,c2,_,hM5.c0,hM5.c1,hM5.c2,hM5.m,hr1.later hM5.below,RdTs.later hr2 hM5.below⟩,hM5.below⟩
def bb (vars:List ByteArray) (row:List Tm) (n:Nat) (l:List (ExT n)):Bool:=l.any λx => !(ofI vars row n x == 1)
theorem wk (vars:List ByteArray) (row:List Tm) (n:Nat) (x:ExT n) (cs:List Value) (b:Nat) (p:Addr) (w:World) (hp:w.cell? p=some (.pointer (some ⟨b,0,none⟩))) (hx:RdE n w cs x) (hS:zJ vars row b w n x) :
  Calls Tryz.prog 95 #[.agg cs.toArray,.pointer (some p)] w λe w'=>e=.returned (.bool (!(ofI vars row n x == 1)))/\Below w.heap.size w w':=by
 have hcs:∃(k:Int) (s:ByteArray) (t:Tm) (A:Option Addr) (m c:Nat),cs=[.int .i64 k,.string s,.int .i64 t.k,.string t.x,.string t.l,.string t.y,.slice A m c]:=by
  match n,x,hx with
  | n+1,(k,s,t,kids),⟨A,c,h,_⟩=>exact⟨k,s,t,A,_,c,h⟩
 obtain⟨k,s,t,A,m,c,rfl⟩:=hcs
 have hB0:Below w.heap.size w (w.alloc (.cells #[.int .i64 k,.string s,.int .i64 t.k,.string t.x,.string t.l,.string t.y,.slice A m c] 67)):=blw
 have hS':=hS _ _ hB0 (hx.later hB0)
 have hp':=ab hp hB0
 generalize ofI vars row n x=v at *
 have HB0:=Lib.hid hB0
 clear hS hx hB0
 go_enter Tryz.func95,Tryz.ntmps95
 go_wp2_with fail
 refine hS'.mono ?_
 rintro e w2 ⟨rfl,hb2⟩
 have HB:=Lib.hid (aa HB0.out hb2)
 clear hb2 hS'
 go_wp2
 go_ret
 exact⟨rfl,HB.out⟩
theorem rm (vars:List ByteArray) (row:List Tm) (n:Nat) (l:List (ExT n)) (A:Option Addr) (c:Nat) (b:Nat) (p:Addr) (w:World) (hl:l.length<=1353245080300) (hr:aF n w A l) (hp:w.cell? p=some (.pointer (some ⟨b,0,none⟩)))
  (hS:∀x∈l,∀W,Below w.heap.size w W->zJ vars row b W n x) :
  Calls Tryz.prog 125 #[.slice A l.length c,.func (.func 95) #[] #[.pointer (some p)]] w λe w'=>∃i:Int,e=.returned (.int .i64 i)/\ov i (bb vars row n l)/\Below w.heap.size w w':=by
 have hl':(l.length:Int)<=1353245080300:=by omega
 go_enter Tryz.func125,Tryz.ntmps125
 go_wp2
 go_loopw [8] (λi wr=>∃k:Nat,k<=l.length/\i=.int .i64 k/\Hid (bb vars row n l=bb vars row n (l.drop k))/\Below w.heap.size w wr) (λi _=>l.length-(intOf i).toNat)
 case atStart=>exact⟨0,by omega,rfl,rfl,Below.refl _ _⟩
 case round =>
  obtain⟨k,hk,rfl,H,hB⟩:=hrel
  by_cases hlt:k<l.length
  ·obtain⟨y,hx⟩:∃x,l[k]?=some x:=⟨_,List.getElem?_eq_getElem hlt⟩
   obtain⟨g,o,k',s',t',A',m',d',rfl,hR,c0,c1,c2,c3,c4,c5,c6⟩:=(aF.later hr hB).atv hx
   have hd:=an hx
   have hc:=wk vars row n y _ b p wr (ab hp hB) hR (hS y (List.mem_of_getElem? hx) wr hB)
   have H2:Hid (bb vars row n l=(!(ofI vars row n y == 1) || bb vars row n (l.drop (k+1)))):=by
    show _=_
    rw[H.out,hd,bb,List.any_cons];rfl
   have HBB:=Lib.hid hB
   clear hx hd H hr hR hS hp hB
   generalize hn:(!(ofI vars row n y == 1))=q at *
   clear hn
   cases q
   ·go_wp2_with (go_at_call 95;refine hc.mono ?_;rintro e w1 ⟨rfl,hb1⟩)
    go_roundw
    case rel=>exact⟨k+1,by omega,by go_num,by show _=_;rw[H2.out];rfl,aa HBB.out hb1⟩
    case measure=>simp[intOf];omega
   ·go_wp2_with (go_at_call 95;refine hc.mono ?_;rintro e w1 ⟨rfl,hb1⟩)
    go_ret
    exact⟨k,rfl,by show decide _=_;rw[H2.out];simp,aa HBB.out hb1⟩
  ·have H2:Hid (bb vars row n l=false):=by
    show _=_
    rw[H.out,List.drop_eq_nil_of_le (by omega)];rfl
   clear H hS hr hp
   go_wp2
   go_ret
   exact⟨-1,rfl,by show decide _=_;rw[H2.out];rfl,hB⟩
theorem zg (vars:List ByteArray) (row:List Tm) (hv:vars.length<=281474976710656) (hrl:row.length<=281474976710656) (hzr:∀u∈row,u.x.size<=281474976710656) (n:Nat) (l:List (ExT n)) (A A1 A2:Option Addr) (c c1 c2:Nat) (w:World)
  (hr1:Rd w A1 (vars.map Value.string)) (hr2:RdTs w A2 row) (hr:aF n w A l) (hl:l.length<=1353245080300) (hz:∀x∈l,szE n x) :
  Calls Tryz.prog 70 #[.slice A l.length c,.slice A1 vars.length c1,.slice A2 row.length c2] w λe w'=>e=.returned (.bool (!bb vars row n l))/\Below w.heap.size w w':=by
 have hC:∀(b:Nat) (p:Addr) (W:World),aF n W A l->W.cell? p=some (.pointer (some ⟨b,0,none⟩))->cZ W b vars row ->
   Calls Tryz.prog 94 #[.slice A l.length c,.func (.func 95) #[] #[.pointer (some p)]] W λe w'=>e=.returned (.bool (bb vars row n l))/\Below W.heap.size W w':=by
  intro b p W h1 h2 h3
  have hi:=rm vars row n l A c b p W hl h1 h2 λx hx W1 hW1 cs W2 hW2 hr=>rc vars row b hv hrl hzr n x cs W2 ((h3.later hW1).later hW2) hr (hz x hx)
  clear h1 h2 h3 hr hr1 hr2 hz hzr hl hv hrl
  go_enter Tryz.func94,Tryz.ntmps94
  go_wp2_with (go_at_call 125;refine hi.mono ?_;rintro e w1 ⟨i,rfl,hd,hb1⟩;have Hd:=Lib.hid hd;clear hd)
  go_ret
  exact⟨by have:=Hd.out;unfold ov at this;rw[←this];rfl,hb1⟩
 have hO:=Bq vars row A1 A2 c1 c2 w hr1 hr2
 generalize bb vars row n l=q at hC ⊢
 go_enter Tryz.func70,Tryz.ntmps70
 go_wp2_with fail
 refine hO.mono ?_
 rintro e w1 ⟨b,rfl,hj,hb1⟩
 have hb2:Below w1.heap.size w1 (w1.alloc (.cells #[.pointer (some ⟨b,0,none⟩)] 126)):=blw
 have hC2:=hC b ⟨w1.heap.size,0,none⟩ _ (aF.later (aF.later hr hb1) hb2) (by rw[World.cell?,heap_alloc_new];rfl) (hj.later hb2)
 clear hC hO hr hr1 hr2 hj hz hzr
 go_wp2_with fail
 refine hC2.mono ?_
 rintro e w2 ⟨rfl,hb3⟩
 cases q<;>(go_wp2;go_ret;exact⟨rfl,aa (aa hb1 hb2) hb3⟩)
end Go.Proofs.YtjldjeenfnahoaaGreatDoor
