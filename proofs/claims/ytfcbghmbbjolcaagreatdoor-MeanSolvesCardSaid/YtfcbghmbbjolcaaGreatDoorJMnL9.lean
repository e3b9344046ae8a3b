/- The program's package mean, walked: Counts. The document's a -/
import Derived.Test.YtfcbghmbbjolcaaGreatDoorJMn10
import Derived.Test.YtfcbghmbbjolcaaGreatDoorJMR10
set_option maxHeartbeats 16000000
set_option maxRecDepth 100000
namespace Go.Proofs.YtfcbghmbbjolcaaGreatDoor
open Go Go.RowKit Go.Maps Go.ChangeMaps Go.Shelf Um Fm Mt Tx Om Mv Mn Mp
def gS (set:List Tp) (pats:List Pat) (k:Nat):List Value:=(List.range k).map λi=>Value.int .i64 ((bi set (pats.take (i+1))).length:Nat)
theorem oo (set:List Tp) (pats:List Pat) (k:Nat):gS set pats (k+1)=gS set pats k++[.int .i64 ((bi set (pats.take (k+1))).length:Nat)]:=by
 unfold gS
 rw[List.range_succ,List.map_append];rfl
theorem Ft (set:List Tp) (pats:List Pat) (As Ap:Option Addr) (cs cp:Nat) (w:World) (hC:cD w) (hls:set.length<=1000) (hlp:pats.length<=300) (hcp:pats.length<=cp) (_hcm:cp<=maxLen) (hz:∀t∈set,cQ t) (hs:Rd w As (set.flatMap tpL)) (hp:bI w Ap pats) (hN:aP set pats<=1500) :
  Calls Tryz.prog 21 #[.slice As set.length cs,.slice Ap pats.length cp] w λe w'=>∃v,e=.returned v/\w'.ownsRow w.heap.size 3 1 v pats.length (gS set pats pats.length)/\Below w.heap.size w w':=by
 have H:=Lib.hid (And.intro hC (And.intro hz (And.intro hs (And.intro hp hN))))
 clear hC hz hs hp hN
 go_enter Tryz.func21,Tryz.ntmps21
 go_wp2
 go_loopw [4,5,6,7,10] (λv _ _ _ i wr=>∃k:Nat,k<=pats.length/\i=.int .i64 k/\Hid (wr.ownsRow w.heap.size 3 1 v k (gS set pats k))/\Hid (Below w.heap.size w wr)) (λ_ _ _ _ i _=>pats.length-(intOf i).toNat)
 case atStart=>exact⟨0,by omega,rfl,World.ownsRow_nil _ _ _ _,Below.refl _ _⟩
 case round =>
  obtain⟨k,hk,rfl,HO,HB⟩:=hrel
  by_cases hlt:k<pats.length
  ·have hsol:=fS set (pats.take (k+1)) As Ap cs cp wr (H.out.1.step HB.out) hls (by rw[List.length_take];omega) H.out.2.1 (H.out.2.2.1.later HB.out) (RdL.mono (RdL.take H.out.2.2.2.1 (k+1)) HB.out λ_ _ _ h=>h) (Nat.le_trans (fR set pats (k+1)) H.out.2.2.2.2)
   rw[show (pats.take (k+1)).length=k+1 by rw[List.length_take];omega]at hsol
   have own:=HO.out
   obtain⟨Ar,cr,rfl,hcr,_⟩:=own_slice own
   have hsn:=Lib.hid (oo set pats k)
   have hs6:=HB.out.size
   go_wp2_with (first
    | (go_at_call 17;refine hsol.mono ?_;rintro e w5 ⟨vv,vr,rfl,ho5,⟨xs5,own5,_⟩,hb5⟩;obtain⟨A5,c5,rfl,hc5,_⟩:=own_slice own5;have hal:Below w5.heap.size w5 (w5.alloc (.cells #[.int .i64 ((bi set (pats.take (k+1))).length:Nat)] 3)):=blw;have own6:=own_below own (aa hb5 hal) (Nat.le_refl _);have HB6:=Lib.hid (aa HB.out (aa hb5 hal));have hs7:=Nat.le_trans hs6 hb5.size;clear ho5 own5 hb5 hal own hsol)
    | (at_builtin;refine ak rfl rfl Tryz.underlying54 xE rfl (by omega) rfl own6 rfl (Rd.of_block (heap_alloc_new w5 _) rfl) rfl (by intro u hu;simp only[List.mem_cons,List.not_mem_nil,or_false]at hu;rcases hu with rfl;rfl) (by omega) (by omega) (by simp;omega) ?_;intro v' w7 own7 hb7 hg7;have HF:Hid (w7.ownsRow w.heap.size 3 1 v' (k+1) (gS set pats (k+1))/\Below w.heap.size w w7):=⟨by rw[hsn.out];exact own7,HB6.out.trans hb7⟩;clear own7 hb7 hg7 own6))
   exact⟨⟨k+1,by omega,by go_num,HF.out.1,HF.out.2⟩,by simp[intOf];omega⟩
  ·obtain rfl:k=pats.length:=by omega
   go_wp2
   go_ret
   exact⟨_,rfl,HO.out,HB.out⟩
theorem Cr (set:List Tp) (pats:List Pat) (As Ap:Option Addr) (N cs M cp:Nat) (w:World) (hN:set.length=N) (hM:pats.length=M) (hls:N<=1000) (hlp:M<=300) (hcp:M<=cp) (hz:∀t∈set,cQ t) (hs:Rd w As (set.flatMap tpL)) (hp:bI w Ap pats) (hP:aP set pats<=1500) :
  Calls Tryz.prog 22 #[.slice As N cs,.slice Ap M cp] w λe w'=>∃v,e=.returned v/\w'.ownsRow w.heap.size 3 1 v M (gS set pats M)/\Below w.heap.size w w':=by
 have H:=Lib.hid (And.intro hN (And.intro hM (And.intro hz (And.intro hs (And.intro hp hP)))))
 clear hN hM hz hs hp hP
 go_enter Tryz.func22,Tryz.ntmps22
 go_wp2
 go_loopw [5,6,7,8] (λv i _ _ wr=>∃k:Nat,k<=M/\i=.int .i64 ((k:Int)+1)/\Hid (wr.ownsRow w.heap.size 3 1 v k (gS set pats k))/\Hid (Below w.heap.size w wr)) (λ_ i _ _ _=>M+1-(intOf i).toNat)
 case atStart=>exact⟨0,by omega,rfl,World.ownsRow_nil _ _ _ _,Below.refl _ _⟩
 case round =>
  obtain⟨k,hk,rfl,HO,HB⟩:=hrel
  by_cases hlt:k<M
  ·obtain⟨hN,hM,hz,hs,hp,hP⟩:=H.out
   have hsol:=lB set (pats.take (k+1)) As Ap N cs (k+1) cp wr hN (by rw[List.length_take];omega) hls (by omega) hz (hs.later HB.out) (RdL.mono (RdL.take hp (k+1)) HB.out λ_ _ _ h=>h) (Nat.le_trans (fR set pats (k+1)) hP)
   have own:=HO.out
   obtain⟨Ar,cr,rfl,hcr,_⟩:=own_slice own
   have hsn:=Lib.hid (oo set pats k)
   have hs6:=HB.out.size
   clear hN hM hz hs hp hP
   go_wp2_with (first
    | (go_at_call 18;refine hsol.mono ?_;rintro e w5 ⟨vv,A5,c5,rfl,ho5,hc5,hr5,hb5⟩;have hal:Below w5.heap.size w5 (w5.alloc (.cells #[.int .i64 ((bi set (pats.take (k+1))).length:Nat)] 3)):=blw;have own6:=own_below own (aa hb5 hal) (Nat.le_refl _);have HB6:=Lib.hid (aa HB.out (aa hb5 hal));have hs7:=Nat.le_trans hs6 hb5.size;clear ho5 hr5 hb5 hal own hsol)
    | (at_builtin;refine ak rfl rfl Tryz.underlying54 xE rfl (by omega) rfl own6 rfl (Rd.of_block (heap_alloc_new w5 _) rfl) rfl (by intro u hu;simp only[List.mem_cons,List.not_mem_nil,or_false]at hu;rcases hu with rfl;rfl) (by omega) (by omega) (by simp;omega) ?_;intro v' w7 own7 hb7 hg7;have HF:Hid (w7.ownsRow w.heap.size 3 1 v' (k+1) (gS set pats (k+1))/\Below w.heap.size w w7):=⟨by rw[hsn.out];exact own7,HB6.out.trans hb7⟩;clear own7 hb7 hg7 own6))
   exact⟨⟨k+1,by omega,by go_num,HF.out.1,HF.out.2⟩,by simp[intOf];omega⟩
  ·obtain rfl:k=M:=by omega
   go_wp2
   go_ret
   exact⟨_,rfl,HO.out,HB.out⟩
open Lx
theorem yB:(Tryz.prog.info? 62).map (·.size)=some 4:=by kernel_rfl
theorem CI (i:Int) (w:World) (h0:0<=i) (h1:i<=1000000) :
  Calls Tryz.prog 57 #[.int .i64 2,.int .i64 i] w λe w'=>(∃s:Int,e=.returned (.agg #[.int .i64 s,.string ⟨#[]⟩,.string ⟨#[]⟩,.string ⟨#[]⟩]))/\Below w.heap.size w w':=by
 have hm:=λW=>CY i W h0 h1
 go_enter Tryz.func57,Tryz.ntmps57
 go_wp2_with (refine(hm _).mono ?_;rintro e w3 ⟨⟨v,rfl⟩,rfl⟩)
 exact bodyPost_ret (v:=.agg #[.int .i64 v,.string ⟨#[]⟩,.string ⟨#[]⟩,.string ⟨#[]⟩]) (by simp[results,Tryz.results57,go_sem]) rfl ⟨⟨_,rfl⟩,blw⟩
def be (w:World) (g m:Nat):Prop:=∃cur:Array Value,w.heap[g]?=some (.cells cur 62 (0,0))/\m<=cur.size
theorem be.lt {w:World} {g m:Nat} (h:be w g m):g<w.heap.size:=by
 obtain⟨cur,h1,_⟩:=h
 exact(Array.getElem?_eq_some_iff.1 h1).1
theorem be.below {w w':World} {g m:Nat} (h:be w g m) (hb:Below w.heap.size w w'):be w' g m:=by
 have hlt:=h.lt
 obtain⟨cur,h1,h2⟩:=h
 exact⟨cur,by rw[hb.block g hlt];exact h1,h2⟩
theorem be.set {w:World} {g k m o:Nat} {vs:List Value} (h:be w g m):be (w.setCells k o vs) g m:=by
 obtain⟨cur,h1,h2⟩:=h
 by_cases hk:k=g
 ·subst hk
  exact⟨_,cO _ _ _ _ _ _ _ h1,by rw[fP];exact h2⟩
 ·exact⟨cur,by rw[cA hk];exact h1,h2⟩
theorem be.there {w:World} {g m o n:Nat} (h:be w g m) (hn:o+n<=m):w.there g o n:=λj hj=>by
 obtain⟨cur,h1,h2⟩:=h
 exact⟨by rw[Lib.cell_of_heap h1,Array.getElem?_eq_getElem (by omega)];rfl,Lib.frozen_of_heap h1 _⟩
theorem be.of_own {w:World} {base g n cap:Nat} {xs:List Value} (h:w.ownsRow base 62 4 (.slice (some ⟨g,0,none⟩) n cap) n xs):be w g (cap*4)/\base<=g:=by
 rcases h.2 with ⟨hv,_⟩|⟨g2,cap2,cur,hv,hb,hh,_,_,hcs,ht⟩
 ·cases hv
 ·injection hv with hA _ hcap
  injection hA with hA
  injection hA with hA
  subst hA
  subst hcap
  exact⟨⟨cur,hh,by omega⟩,hb⟩
def br (base:Nat) (w w':World):Prop:=Below base w w'/\KeepT 58 w w'/\(KeepT 58 w w'/\KeepT 58 w w')/\∀g m,be w g m->be w' g m
theorem br.refl (base:Nat) (w:World):br base w w:=⟨Below.refl _ _,KeepT.refl _ _,⟨KeepT.refl _ _,KeepT.refl _ _⟩,λ_ _ h=>h⟩
theorem br.trans {base:Nat} {a b c:World} (h:br base a b) (k:br base b c):br base a c:=⟨h.1.trans k.1,h.2.1.trans k.2.1,⟨h.2.2.1.1.trans k.2.2.1.1,h.2.2.1.2.trans k.2.2.1.2⟩,λg m x=>k.2.2.2 g m (h.2.2.2 g m x)⟩
theorem br.below {base:Nat} {w w':World} (hb:base<=w.heap.size) (h:Below w.heap.size w w'):br base w w':=⟨h.mono hb,KeepT.below h,⟨KeepT.below h,KeepT.below h⟩,λ_ _ x=>x.below h⟩
theorem br.set {base:Nat} {w:World} {g m o:Nat} {vs:List Value} (hb:base<=g) (h:be w g m):br base w (w.setCells g o vs):=by
 obtain⟨cur,h1,_⟩:=h
 have hk:∀e,62≠e->KeepT e w (w.setCells g o vs):=λe he k c fr x=>by
  rw[cA (λhh=>by
   subst hh
   rw[h1]at x
   injection x with x
   injection x with _ e2 _
   exact he e2)]
  exact x
 exact⟨below_setCells hb _ _ _,hk _ (by decide),⟨hk _ (by decide),hk _ (by decide)⟩,λ_ _ x=>x.set⟩
theorem kj {w:World} {ops:Array Oper} {rest:List Oper} {op:Oper} {a:Act} {Q:Exit->Act->World->Prop} (hgd:op.guard=none) (x y:Operand) (ho:op.op=.store 62 x y)
  (g k:Nat) (t:Tm) (hx:a.eval x=.pointer (some ⟨g,k*4,none⟩)) (hy:a.eval y=.agg #[.int .i64 t.k,.string t.x,.string t.l,.string t.y]) (ht:w.there g (k*4) 4)
  (h:wpList Tryz.prog ops Q rest (a.put op.dst undef) (w.setCells g (k*4) [.int .i64 t.k,.string t.x,.string t.l,.string t.y])):wpList Tryz.prog ops Q (op::rest) a w:=
 wpList_store_mid hgd 62 x y ho g (k*4) #[.int .i64 t.k,.string t.x,.string t.l,.string t.y] hx hy ht yB (by simp[Value.oneCell']) h
def Eg (p:Prop):Prop:=p
theorem GK {p:Prop} (h:Eg p):p:=h
theorem vP (base g n cap:Nat) (w:World) (hH:be w g (cap*4)) (hb:base<=g) (hn:n<=900000) (hc:n<=cap) (hc2:cap<=9223372036854775807) :
  Calls Tryz.prog 23 #[.slice (some ⟨g,0,none⟩) n cap] w λe w'=>(∃v,e=.returned v)/\br base w w':=by
 have hlt0:=hH.lt
 go_enter Tryz.func23,Tryz.ntmps23
 go_wp2
 obtain⟨m,hm⟩:∃m:Nat,m=min cap (n+12):=⟨_,rfl⟩
 have hmin:min (cap:Int) ((n:Int)+12)=(m:Int):=by omega
 simp only[hmin,Int.toNat_natCast]
 have hm1:m<=cap:=by omega
 have hm2:m<=n+12:=by omega
 clear hm hmin
 go_loopw [3] (λi wr=>∃k:Nat,k<=m/\i=.int .i64 k/\Hid (br base w wr)/\be wr g (cap*4)) (λi _=>m-(intOf i).toNat)
 case atStart=>exact⟨0,by omega,rfl,br.refl _ _,hH⟩
 case round =>
  obtain⟨k,hk,rfl,HS,hH⟩:=hrel
  have hsz:=HS.out.1.size
  by_cases hlt:k<m
  ·have hmk:=λW=>CI (k:Int) W (by omega) (by omega)
   go_wp2_with fail
   refine(hmk _).mono ?_
   rintro e w3 ⟨⟨s,rfl⟩,hb3⟩
   have hH3:=hH.below hb3
   have hth:=hH3.there (o:=k*4) (n:=4) (by omega)
   have HH:=Lib.hid hH3
   have HS3:=Lib.hid (HS.out.trans (br.below (by omega) hb3))
   clear hH hH3 hb3
   go_wp2_with (with_reducible refine(?_:wpList _ _ _ (_::[]) _ _);with_reducible refine GK ?_)
   unfold Eg
   with_reducible refine kj ?gd ?px ?py ?ho g k ⟨s,⟨#[]⟩,⟨#[]⟩,⟨#[]⟩⟩ ?hx ?hy ?ht ?hh
   case ho=>rfl
   case gd=>rfl
   case hx=>rfl
   case hy=>rfl
   case ht=>exact hth
   go_wp2
   go_roundw
   case rel=>exact⟨k+1,by omega,by go_num,HS3.out.trans (br.set hb HH.out),HH.out.set⟩
   case measure=>simp[intOf];omega
  ·go_wp2
   ((try simp only[Exit.inBlock,Exit.then]);refine Go.Great.bodyPost_end0 rfl rfl ?_)
   exact⟨⟨_,rfl⟩,HS.out⟩
theorem vQ (base:Nat) (w:World):Calls Tryz.prog 23 #[.slice none 0 0] w λe w'=>(∃v,e=.returned v)/\br base w w':=by
 go_enter Tryz.func23,Tryz.ntmps23
 go_wp2
 simp only[show min (0:Int) 12=0 by decide,show (0:Int).toNat=0 from rfl]
 go_loopw [3] (λi wr=>i=.int .i64 0/\wr=w) (λ_ _=>0)
 case atStart=>exact⟨rfl,rfl⟩
 case round =>
  obtain⟨rfl,rfl⟩:=hrel
  go_wp2
  ((try simp only[Exit.inBlock,Exit.then]);refine Go.Great.bodyPost_end0 rfl rfl ?_)
  exact⟨⟨_,rfl⟩,br.refl _ _⟩
def jq (base:Nat) (w:World) (cs:List Value) (n:Nat):Prop:=cs=[.slice none 0 0]∨∃g cap,cs=[.slice (some ⟨g,0,none⟩) n cap]/\base<=g/\n<=cap/\cap<=9223372036854775807/\be w g (cap*4)
theorem jq.on {base:Nat} {w w':World} {cs:List Value} {n:Nat} (h:jq base w cs n) (hs:br base w w'):jq base w' cs n:=by
 rcases h with h|⟨g,cap,h1,h2,h3,h4,h5⟩
 ·exact .inl h
 ·exact .inr ⟨g,cap,h1,h2,h3,h4,hs.2.2.2 _ _ h5⟩
theorem OwnRow.shV {base:Nat} {w:World} {cs:List Value} {r:List Tm} (h:OwnRow base w cs r):jq base w cs r.length:=by
 obtain⟨v,rfl,h1⟩:=h
 have h0:=h1
 rcases h0.2 with ⟨rfl,hx⟩|⟨g,cap,cur,rfl,hg,hh,hle,hcap,hcs,ht⟩
 ·exact .inl rfl
 ·obtain⟨hH,hb⟩:=be.of_own h1
  exact .inr ⟨g,cap,rfl,hb,hle,by simpa[maxLen] using hcap,hH⟩
theorem EV {w:World} {base n:Nat} {v:Value} (h:jq base w [v] n) (hn:n<=900000) :
  Calls Tryz.prog 23 #[v] w λe w'=>(∃v,e=.returned v)/\br base w w':=by
 rcases h with h|⟨g,cap,h,h2,h3,h4,h5⟩
 ·injection h with h
  subst h
  exact vQ base w
 ·injection h with h
  subst h
  exact vP base g n cap w h5 h2 hn h3 h4
def ir (base:Nat) (w:World) (A:Option Addr) (rows:List (List Tm)):Prop:=∃xs,(xs=[]∨∃g o cur,A=some ⟨g,o,none⟩/\w.heap[g]?=some (Obj.cells cur 58 (0,0))/\∀j u,xs[j]?=some u->cur[o+j]?=some u)/\All 1 (λcs r=>jq base w cs r.length) xs rows
theorem ir.on {base:Nat} {w w':World} {A:Option Addr} {rows:List (List Tm)} (h:ir base w A rows) (hs:br base w w'):ir base w' A rows:=by
 obtain⟨xs,h1,h2⟩:=h
 refine⟨xs,h1.imp id ?_,h2.mono λ_ _ _ x=>x.on hs⟩
 rintro⟨g,o,cur,e1,e2,e3⟩
 exact⟨g,o,cur,e1,hs.2.1 _ _ _ e2,e3⟩
theorem ir.at_ {base:Nat} {w:World} {A:Option Addr} {rows:List (List Tm)} (h:ir base w A rows) {k:Nat} {row:List Tm} (hr:rows[k]?=some row):∃g o v,A=some ⟨g,o,none⟩/\w.cell? ⟨g,o+k,none⟩=some v/\jq base w [v] row.length:=by
 obtain⟨xs,h1,h2⟩:=h
 obtain⟨cs,hl,hS,hx⟩:=h2.at_ hr
 match cs,hl with
 | [v],_ =>
  have h3:=hx 0 v rfl
  rw[Nat.mul_one,Nat.add_zero]at h3
  rcases h1 with h1|⟨g,o,cur,e1,e2,e3⟩
  ·rw[h1]at h3;cases h3
  ·exact⟨g,o,v,e1,by rw[World.cell?,e2];exact e3 _ _ h3,hS⟩
theorem OwnRs.shp {base:Nat} {w:World} {v:Value} {rows:List (List Tm)} (h:OwnRs base w v rows):∃A c,v=.slice A rows.length c/\rows.length<=c/\ir base w A rows/\RdRs w A rows:=by
 obtain⟨A,c,e,hc,hr⟩:=h.rd
 subst e
 obtain⟨xs,h1,h2⟩:=h
 refine⟨A,c,rfl,hc,⟨xs,?_,h2.mono λ_ _ _ x=>x.shV⟩,hr⟩
 rcases h1.2 with ⟨e1,h0⟩|⟨g,cap,cur,e1,_,hh,_,_,_,ht⟩
 ·refine .inl (List.eq_nil_of_length_eq_zero ?_)
  have:=h1.1
  omega
 ·injection e1 with e1
  refine .inr ⟨g,0,cur,e1,hh,λj u hu=>?_⟩
  rw[←ht]at hu
  have h3:=(List.getElem?_eq_some_iff.1 hu).1
  rw[List.length_take]at h3
  rw[List.getElem?_take_of_lt (by omega)]at hu
  rw[Nat.zero_add]
  simpa using hu
def au (s:ByteArray):Tm:=⟨1,s,⟨#[]⟩,⟨#[]⟩⟩
def Jk (s:ByteArray):Tm:=⟨3,s,⟨#[]⟩,⟨#[]⟩⟩
theorem nh (s:ByteArray) (w:World):Calls Tryz.prog 28 #[.string s] w λe w'=>e=.returned (.agg #[.int .i64 1,.string s,.string ⟨#[]⟩,.string ⟨#[]⟩])/\Below w.heap.size w w':=by
 go_enter Tryz.func28,Tryz.ntmps28
 go_wp2
 exact bodyPost_ret (v:=.agg #[.int .i64 1,.string s,.string ⟨#[]⟩,.string ⟨#[]⟩]) (by simp[results,Tryz.results28,go_sem]) rfl ⟨rfl,blw⟩
theorem Fp (s:ByteArray) (w:World):Calls Tryz.prog 58 #[.string s] w λe w'=>e=.returned (.agg #[.int .i64 3,.string s,.string ⟨#[]⟩,.string ⟨#[]⟩])/\Below w.heap.size w w':=by
 go_enter Tryz.func58,Tryz.ntmps58
 go_wp2
 exact bodyPost_ret (v:=.agg #[.int .i64 3,.string s,.string ⟨#[]⟩,.string ⟨#[]⟩]) (by simp[results,Tryz.results58,go_sem]) rfl ⟨rfl,blw⟩
theorem kB (s:ByteArray) (w:World):Calls Tryz.prog 26 #[.string s] w λe w'=>e=.returned (.agg #[.string s,.int .i64 0,.string ⟨#[]⟩,.string ⟨#[]⟩,.string ⟨#[]⟩])/\Below w.heap.size w w':=by
 go_enter Tryz.func26,Tryz.ntmps26
 go_wp2
 exact bodyPost_ret (v:=.agg #[.string s,.int .i64 0,.string ⟨#[]⟩,.string ⟨#[]⟩,.string ⟨#[]⟩]) (by simp[results,Tryz.results26,go_sem]) rfl ⟨rfl,blw⟩
theorem Jh (t:Tm) (w:World):Calls Tryz.prog 27 #[.agg #[.int .i64 t.k,.string t.x,.string t.l,.string t.y]] w λe w'=>e=.returned (.agg #[.string ⟨#[]⟩,.int .i64 t.k,.string t.x,.string t.l,.string t.y])/\Below w.heap.size w w':=by
 go_enter Tryz.func27,Tryz.ntmps27
 go_wp2
 exact bodyPost_ret (v:=.agg #[.string ⟨#[]⟩,.int .i64 t.k,.string t.x,.string t.l,.string t.y]) (by simp[results,Tryz.results27,go_sem]) rfl ⟨rfl,blw⟩
def iB:List Tp:=[⟨au ⟨#[97]⟩,au ⟨#[112]⟩,au ⟨#[98]⟩⟩,⟨au ⟨#[98]⟩,au ⟨#[112]⟩,au ⟨#[99]⟩⟩,⟨au ⟨#[97]⟩,au ⟨#[113]⟩,Jk ⟨#[120]⟩⟩]
theorem qi (w:World):Calls Tryz.prog 29 #[] w λe w'=>∃A c,e=.returned (.slice A 3 c)/\Below w.heap.size w w'/\Rd w' A (iB.flatMap tpL):=by
 have HB:Below w.heap.size w w:=Below.refl _ _
 go_enter Tryz.func29,Tryz.ntmps29
 go_wp2_with (first
  | (go_at_call 28;refine(nh _ _).mono ?_;rintro e W2 ⟨rfl,B2⟩;replace HB:=aa HB B2;clear B2)
  | (go_at_call 58;refine(Fp _ _).mono ?_;rintro e W2 ⟨rfl,B2⟩;replace HB:=aa HB B2;clear B2))
 go_ret
 exact⟨_,_,rfl,blw,Rd.of_block (heap_alloc_new _ _) rfl⟩
def sz3 (t:Tp):Nat:=qJ t.s+qJ t.p+qJ t.o
def fD:List Tp->Nat->Nat
 | [],n=>n
 | t::r,n=>if n<=3000 then fD r (n+sz3 t) else n
theorem sS:∀(l:List Tp) (n:Nat),fD l n<=3000->fD l n=n+(l.map sz3).sum
 | [],n,_=>by simp[fD]
 | t::r,n,h=>by
  rw[fD]at h ⊢
  split at h
  ·next h1=>rw[if_pos h1,sS r _ h,List.map_cons,List.sum_cons];omega
  ·next h1=>exact absurd h h1
theorem vq {l:List Tp} {t:Tp} (h:t∈l):sz3 t<=(l.map sz3).sum:=by
 induction l with
 | nil=>cases h
 | cons x r ih =>
  rw[List.map_cons,List.sum_cons]
  rcases List.mem_cons.1 h with rfl|h
  ·omega
  ·have:=ih h;omega
theorem iX {l:List Tp} {n:Nat} (h:fD l n<=3000):∀t∈l,cQ t:=by
 have e:=sS l n h
 intro t ht
 have h1:sz3 t<=3000:=by have:=vq ht;omega
 unfold sz3 qJ at h1
 exact⟨⟨by omega,by omega,by omega⟩,⟨by omega,by omega,by omega⟩,⟨by omega,by omega,by omega⟩⟩
def Gs (t:Tp):Prop:=iP t.s/\iP t.p/\iP t.o
theorem I3 (l:List Tp) (A:Option Addr) (c:Nat) (w:World) (hl:l.length<=281474976710656) (hz:∀t∈l,Gs t) (hr:Rd w A (l.flatMap tpL)) :
  Calls Tryz.prog 5 #[.slice A l.length c] w λe w'=>e=.returned (.int .i64 (fD l l.length:Nat))/\Below w.heap.size w w':=by
 have HR:=Lib.hid (And.intro hr hz)
 clear hr hz
 obtain⟨N,hN⟩:∃N,fD l l.length=N:=⟨_,rfl⟩
 rw[hN]
 go_enter Tryz.func5,Tryz.ntmps5
 go_wp2
 go_loopw [3,4,5,6] (λs i _ _ wr=>∃k n:Nat,k<=l.length/\i=.int .i64 k/\s=.int .i64 n/\n<=2814749767106560/\fD (l.drop k) n=N/\Below w.heap.size w wr) (λ_ i _ _ _=>l.length-(intOf i).toNat)
 case atStart=>exact⟨0,l.length,by omega,rfl,rfl,by omega,by simpa using hN,Below.refl _ _⟩
 case round =>
  obtain⟨k,n,hk,rfl,rfl,hn,hs,hB⟩:=hrel
  by_cases hlt:k<l.length
  ·by_cases hn3:n<=3000
   ·obtain⟨t,ht⟩:∃t,l[k]?=some t:=⟨_,List.getElem?_eq_getElem hlt⟩
    rw[ai ht,fD,if_pos hn3]at hs
    have hzt:=HR.out.2 t (List.mem_of_getElem? ht)
    obtain⟨⟨z1,z2,z3⟩,⟨z4,z5,z6⟩,z7,z8,z9⟩:=hzt
    obtain⟨g,o,rfl,c0,c1,c2,c3,c4,c5,c6,c7,c8,c9,c10,c11⟩:=f7 (HR.out.1.later hB) ht
    have HX:=Lib.hid (And.intro hs hB)
    clear hs hB ht hN
    go_wp2
    refine Rf.p0 wr.heap.size _ (.quiet [0,1,2,3,4,5,6,7,8,9,10,11,12,13,14] (.one 15 (.quiet [16] (.done)))) ?_ (λa w h=>h)
    intro wd hbd hwz
    have y0:=cellL c0 hbd
    have y1:=cellL c1 hbd
    have y2:=cellL c2 hbd
    have y3:=cellL c3 hbd
    have y4:=cellL c4 hbd
    have y5:=cellL c5 hbd
    have y6:=cellL c6 hbd
    have y7:=cellL c7 hbd
    have y8:=cellL c8 hbd
    have y9:=cellL c9 hbd
    have y10:=cellL c10 hbd
    have y11:=cellL c11 hbd
    clear c0 c1 c2 c3 c4 c5 c6 c7 c8 c9 c10 c11
    have hs3:=hbd.size
    clear hwz
    refine Rf.pl_quiet ?_
    iterate 15 go_big_quiet_step (fail)
    refine wpQuiet_nil (Rf.pl_one ?_)
    go_wp2
    refine⟨(Below.refl _ _).alloc (by omega) _,Rf.pl_quiet ?_⟩
    iterate 1 go_big_quiet_step (fail)
    refine wpQuiet_nil (Rf.pl_done ?_)
    obtain⟨V,hV⟩:∃V:World,wd.alloc (.cells (tpC t) 62)=V:=⟨_,rfl⟩
    have hbV:Below w.heap.size w V:=by rw[←hV];exact dS (aa HX.out.2 hbd)
    have hcell:∀(j i:Nat) (u:Tm) (v:Value),[t.s,t.p,t.o][j]?=some u->i<4->(tC u)[i]?=some v->V.cell? ⟨wd.heap.size,j*4+i,none⟩=some v:=by
     intro j i u v hj hi hv
     rw[←hV,World.cell?,heap_alloc_new]
     have:=Dl [t.s,t.p,t.o] j i u hj hi
     rw[hv]at this
     show (tpC t)[j*4+i]?=some v
     rw[←Array.getElem?_toList]
     exact this
    have Hc:=Lib.hid hcell
    have HV:=Lib.hid (And.intro hbV HX.out.1)
    have hz3:∀u∈[t.s,t.p,t.o],iP u:=by
     intro u hu
     simp only[List.mem_cons,List.not_mem_nil,or_false]at hu
     rcases hu with rfl|rfl|rfl
     ·exact⟨z1,z2,z3⟩
     ·exact⟨z4,z5,z6⟩
     ·exact⟨z7,z8,z9⟩
    clear hcell hbV HX y0 y1 y2 y3 y4 y5 y6 y7 y8 y9 y10 y11 z1 z2 z3 z4 z5 z6 z7 z8 z9 hbd hs3
    change Exit.then _ _ Exit.normal _ (wd.alloc (.cells (tpC t) 62))
    rw[hV]
    go_wp2
    obtain⟨T,hT⟩:∃T:List Tm,T=[t.s,t.p,t.o]:=⟨_,rfl⟩
    have hT3:T.length=3:=by rw[hT];rfl
    rw[←hT]at Hc hz3
    have hTs:oT T=sz3 t:=by rw[hT];simp[oT,sz3,qJ];omega
    clear hT
    go_loopw [3,6] (λs i wr2=>∃(j:Nat),j<=3/\i=.int .i64 j/\s=.int .i64 (n+oT (T.take j):Nat)/\∃q,wr2=V.drewN q) (λ_ i _=>3-(intOf i).toNat)
    case atStart=>exact⟨0,by omega,rfl,by simp[oT],0,rfl⟩
    case round =>
     obtain⟨j,hj,rfl,rfl,q,rfl⟩:=hrel
     have hle:=Bb T hz3 j (by omega)
     by_cases hlt3:j<3
     ·obtain⟨u,hu⟩:∃u,T[j]?=some u:=⟨_,List.getElem?_eq_getElem (by omega)⟩
      have e1:=Hc.out j 1 u _ hu (by omega) rfl
      have e2:=Hc.out j 2 u _ hu (by omega) rfl
      have e3:=Hc.out j 3 u _ hu (by omega) rfl
      have hsn:=Lib.hid (pK T j u hu)
      have hzu:=hz3 _ (List.mem_of_getElem? hu)
      obtain⟨y1,y2,y3⟩:=hzu
      clear hu hz3
      generalize oT (T.take j)=m at *
      have hm:m<=3*844424930131968:=Nat.le_trans hle (Nat.mul_le_mul_right _ hj)
      clear hle
      go_wp2
      go_quiet (fail)
      go_wp2
      exact⟨⟨j+1,by omega,by go_num,by rw[hsn.out,qJ];go_num,q+nq,rfl⟩,by simp[intOf];omega⟩
     ·have e:T.take j=T:=List.take_of_length_le (by omega)
      rw[e,hTs]at hle
      rw[e,hTs]
      have hle2:sz3 t<=3*844424930131968:=Nat.le_trans hle (Nat.mul_le_mul_right _ hj)
      go_wp2
      exact⟨⟨k+1,n+sz3 t,by omega,by go_num,rfl,by omega,HV.out.2,below_drewN' HV.out.1 q⟩,by simp[intOf];omega⟩
   ·rw[ai (List.getElem?_eq_getElem hlt),fD,if_neg hn3]at hs
    subst hs
    go_wp2
    go_ret
    exact⟨rfl,hB⟩
  ·rw[List.drop_of_length_le (by omega),fD]at hs
   subst hs
   go_wp2
   go_ret
   exact⟨rfl,hB⟩
theorem wn (x:Sl) (t:Tm):(x.v.toList.isEmpty=false/\lZ x t=true)∨(x.v.toList.isEmpty=true/\az x.t t=true/\lZ x t=true)∨(x.v.toList.isEmpty=true/\az x.t t=false/\lZ x t=false):=by
 unfold lZ
 cases he:x.v.toList.isEmpty
 ·exact .inl ⟨rfl,rfl⟩
 ·by_cases h:x.t=t
  ·exact .inr (.inl ⟨rfl,aw.2 h,by simp[h]⟩)
  ·exact .inr (.inr ⟨rfl,by rw[←Bool.not_eq_true,aw];exact h,by simp[h]⟩)
theorem DW {set:List Tp} {p:Pat} {k:Nat} {t:Tp} (h:set[k]?=some t):ck (set.take (k+1)) p=ck (set.take k) p+if wm p t=true then 1 else 0:=by
 unfold ck
 rw[ah h,List.countP_append,List.countP_cons,List.countP_nil,Nat.zero_add]
theorem rN (set:List Tp) (p:Pat) (k:Nat):ck (set.take k) p<=k:=by
 unfold ck
 exact Nat.le_trans List.countP_le_length (List.length_take_le _ _)
theorem Fq (set:List Tp) (pats:List Pat) (A B:Option Addr) (c d:Nat) (w:World) (hl:set.length<=1000) (hp:pats.length<=1000) (hr:Rd w A (set.flatMap tpL)) (hrp:bI w B pats) :
  Calls Tryz.prog 7 #[.slice A set.length c,.slice B pats.length d] w λe w'=>e=.returned (.bool (fm set pats 1))/\Below w.heap.size w w':=by
 have HR:=Lib.hid (And.intro hr hrp)
 clear hr hrp
 obtain⟨N,hN⟩:∃N,fm set pats 1=N:=⟨_,rfl⟩
 rw[hN]
 go_enter Tryz.func7,Tryz.ntmps7
 go_wp2
 go_loopw [5,6,7,8,9] (λs i _ _ _ wr=>∃k m:Nat,k<=pats.length/\i=.int .i64 k/\s=.int .i64 m/\m<=1500/\fm set (pats.drop k) m=N/\Below w.heap.size w wr) (λ_ i _ _ _ _=>pats.length-(intOf i).toNat)
 case atStart=>exact⟨0,1,by omega,rfl,rfl,by omega,by simpa using hN,Below.refl _ _⟩
 case round =>
  obtain⟨k,m,hk,rfl,rfl,hm,hs,hB⟩:=hrel
  by_cases hlt:k<pats.length
  ·obtain⟨p,hpk⟩:∃p,pats[k]?=some p:=⟨_,List.getElem?_eq_getElem hlt⟩
   rw[ai hpk,fm]at hs
   obtain⟨g2,o2,cs2,rfl,_,rfl,hx⟩:=(RdL.mono HR.out.2 hB λ_ _ _ h=>h).at_ (by omega) hpk
   have q0:wr.cell? ⟨g2,o2+k*15,none⟩=some (.string p.s.v):=hx 0 _ rfl
   have q1:=hx 1 _ rfl
   have q2:=hx 2 _ rfl
   have q3:=hx 3 _ rfl
   have q4:=hx 4 _ rfl
   have q5:=hx 5 _ rfl
   have q6:=hx 6 _ rfl
   have q7:=hx 7 _ rfl
   have q8:=hx 8 _ rfl
   have q9:=hx 9 _ rfl
   have q10:=hx 10 _ rfl
   have q11:=hx 11 _ rfl
   have q12:=hx 12 _ rfl
   have q13:=hx 13 _ rfl
   have q14:=hx 14 _ rfl
   obtain⟨W4,hW4⟩:∃V:World,wr.alloc (.cells #[.string p.s.v,.int .i64 p.s.t.k,.string p.s.t.x,.string p.s.t.l,.string p.s.t.y,.string p.p.v,.int .i64 p.p.t.k,.string p.p.t.x,.string p.p.t.l,.string p.p.t.y,.string p.o.v,.int .i64 p.o.t.k,.string p.o.t.x,.string p.o.t.l,.string p.o.t.y] 72)=V:=⟨_,rfl⟩
   have hb4:Below w.heap.size w W4:=by rw[←hW4];exact dS hB
   have hk4:∀(j:Nat) (v:Value),(#[.string p.s.v,.int .i64 p.s.t.k,.string p.s.t.x,.string p.s.t.l,.string p.s.t.y,.string p.p.v,.int .i64 p.p.t.k,.string p.p.t.x,.string p.p.t.l,.string p.p.t.y,.string p.o.v,.int .i64 p.o.t.k,.string p.o.t.x,.string p.o.t.l,.string p.o.t.y]:Array Value)[j]?=some v->W4.cell? ⟨wr.heap.size,j,none⟩=some v:=λj v h=>by rw[←hW4,World.cell?,heap_alloc_new];simpa using h
   have hz4:W4.heap.size=wr.heap.size+1:=by rw[←hW4];simp
   have hs4:=hB.size
   have HX:=Lib.hid (And.intro hs (And.intro hB (And.intro hb4 hk4)))
   clear hs hB hpk hN hx hb4 hk4
   go_wp2
   clear q0 q1 q2 q3 q4 q5 q6 q7 q8 q9 q10 q11 q12 q13 q14
   clear hW4
   go_loopw [7,9] (λn i wr2=>∃(j:Nat),j<=set.length/\i=.int .i64 j/\n=.int .i64 (ck (set.take j) p:Nat)/\Below W4.heap.size W4 wr2) (λ_ i _=>set.length-(intOf i).toNat)
   case atStart=>exact⟨0,by omega,rfl,by simp[ck],Below.refl _ _⟩
   case round =>
    obtain⟨j,hj,rfl,rfl,hBj⟩:=hrel
    have hcl:=rN set p j
    by_cases hlt2:j<set.length
    ·obtain⟨t,ht⟩:∃t,set[j]?=some t:=⟨_,List.getElem?_eq_getElem hlt2⟩
     have hsn:=Lib.hid (DW (p:=p) ht)
     obtain⟨g,o,rfl,c0,c1,c2,c3,c4,c5,c6,c7,c8,c9,c10,c11⟩:=f7 (HR.out.1.later (aa HX.out.2.2.1 hBj)) ht
     have hk4:=λ(i:Nat) (v:Value) h=>ac (HX.out.2.2.2 i v h) hBj
     have HBJ:=Lib.hid hBj
     obtain⟨x0,x1,x2,x3,x4,x5,x6,x7,x8,x9,x10,x11,x12,x13,x14⟩:_/\_/\_/\_/\_/\_/\_/\_/\_/\_/\_/\_/\_/\_/\_:=⟨hk4 0 _ rfl,hk4 1 _ rfl,hk4 2 _ rfl,hk4 3 _ rfl,hk4 4 _ rfl,hk4 5 _ rfl,hk4 6 _ rfl,hk4 7 _ rfl,hk4 8 _ rfl,hk4 9 _ rfl,hk4 10 _ rfl,hk4 11 _ rfl,hk4 12 _ rfl,hk4 13 _ rfl,hk4 14 _ rfl⟩
     have e1:=λW=>dH p.s.t t.s W
     have e2:=λW=>dH p.p.t t.p W
     have e3:=λW=>dH p.o.t t.o W
     have hf:wm p t=(lZ p.s t.s && lZ p.p t.p && lZ p.o t.o):=rfl
     rw[hf]at hsn
     clear hBj hk4 ht hf
     generalize ck (set.take j) p=q at *
     obtain⟨V,hV⟩:∃V:World,V=wr:=⟨_,rfl⟩
     subst hV
     have p0:=λd os=>ac x0 (below_regrown V d os)
     have p1:=λd os=>ac x1 (below_regrown V d os)
     have p2:=λd os=>ac x2 (below_regrown V d os)
     have p3:=λd os=>ac x3 (below_regrown V d os)
     have p4:=λd os=>ac x4 (below_regrown V d os)
     have p5:=λd os=>ac x5 (below_regrown V d os)
     have p6:=λd os=>ac x6 (below_regrown V d os)
     have p7:=λd os=>ac x7 (below_regrown V d os)
     have p8:=λd os=>ac x8 (below_regrown V d os)
     have p9:=λd os=>ac x9 (below_regrown V d os)
     have p10:=λd os=>ac x10 (below_regrown V d os)
     have p11:=λd os=>ac x11 (below_regrown V d os)
     have p12:=λd os=>ac x12 (below_regrown V d os)
     have p13:=λd os=>ac x13 (below_regrown V d os)
     have p14:=λd os=>ac x14 (below_regrown V d os)
     have t0:=λd os=>ac c0 (below_regrown V d os)
     have t1:=λd os=>ac c1 (below_regrown V d os)
     have t2:=λd os=>ac c2 (below_regrown V d os)
     have t3:=λd os=>ac c3 (below_regrown V d os)
     have t4:=λd os=>ac c4 (below_regrown V d os)
     have t5:=λd os=>ac c5 (below_regrown V d os)
     have t6:=λd os=>ac c6 (below_regrown V d os)
     have t7:=λd os=>ac c7 (below_regrown V d os)
     have t8:=λd os=>ac c8 (below_regrown V d os)
     have t9:=λd os=>ac c9 (below_regrown V d os)
     have t10:=λd os=>ac c10 (below_regrown V d os)
     have t11:=λd os=>ac c11 (below_regrown V d os)
     clear x0 x1 x2 x3 x4 x5 x6 x7 x8 x9 x10 x11 x12 x13 x14 c0 c1 c2 c3 c4 c5 c6 c7 c8 c9 c10 c11
     obtain⟨a1,f1⟩|⟨a1,g1,f1⟩|⟨a1,g1,f1⟩:=wn p.s t.s
     ·obtain⟨a2,f2⟩|⟨a2,g2,f2⟩|⟨a2,g2,f2⟩:=wn p.p t.p
      ·obtain⟨a3,f3⟩|⟨a3,g3,f3⟩|⟨a3,g3,f3⟩:=wn p.o t.o
       ·simp only[f1,f2,f3,Bool.and_true,if_true]at hsn
        have HSN:=Lib.hid hsn.out
        clear hsn
        go_wp2
        refine wrq ?_;(repeat (any_goals (go_big_quiet_step ((fail)))));all_goals (refine wqn ?_;intro d9 os9)
        have kq:=below_regrown V d9 os9
        clear p0 p1 p2 p3 p4 p5 p6 p7 p8 p9 p10 p11 p12 p13 p14 t0 t1 t2 t3 t4 t5 t6 t7 t8 t9 t10 t11
        generalize Sort.grow (redrawn V d9) os9=w3 at *
        go_wp2
        exact⟨⟨j+1,by omega,by go_num,by rw[HSN.out]<;>go_num,aa HBJ.out kq⟩,by simp[intOf];omega⟩
       ·simp only[f1,f2,f3,Bool.and_true,if_true]at hsn
        have HSN:=Lib.hid hsn.out
        clear hsn
        go_wp2
        refine wrq ?_;(repeat (any_goals (go_big_quiet_step ((fail)))));all_goals (refine wqn ?_;intro d9 os9)
        have kq:=below_regrown V d9 os9
        clear p0 p1 p2 p3 p4 p5 p6 p7 p8 p9 p10 p11 p12 p13 p14 t0 t1 t2 t3 t4 t5 t6 t7 t8 t9 t10 t11
        generalize Sort.grow (redrawn V d9) os9=w3 at *
        go_wp2
        exact⟨⟨j+1,by omega,by go_num,by rw[HSN.out]<;>go_num,aa HBJ.out kq⟩,by simp[intOf];omega⟩
       ·simp only[f1,f2,f3,Bool.and_true,Bool.and_false,Bool.false_eq_true,if_false,Nat.add_zero]at hsn
        have HSN:=Lib.hid hsn.out
        clear hsn
        go_wp2
        refine wrq ?_;(repeat (any_goals (go_big_quiet_step ((fail)))));all_goals (refine wqn ?_;intro d9 os9)
        have kq:=below_regrown V d9 os9
        clear p0 p1 p2 p3 p4 p5 p6 p7 p8 p9 p10 p11 p12 p13 p14 t0 t1 t2 t3 t4 t5 t6 t7 t8 t9 t10 t11
        generalize Sort.grow (redrawn V d9) os9=w3 at *
        go_wp2
        exact⟨⟨j+1,by omega,by go_num,by rw[HSN.out]<;>go_num,aa HBJ.out kq⟩,by simp[intOf];omega⟩
      ·obtain⟨a3,f3⟩|⟨a3,g3,f3⟩|⟨a3,g3,f3⟩:=wn p.o t.o
       ·simp only[f1,f2,f3,Bool.and_true,if_true]at hsn
        have HSN:=Lib.hid hsn.out
        clear hsn
        go_wp2
        refine wrq ?_;(repeat (any_goals (go_big_quiet_step ((fail)))));all_goals (refine wqn ?_;intro d9 os9)
        have kq:=below_regrown V d9 os9
        clear p0 p1 p2 p3 p4 p5 p6 p7 p8 p9 p10 p11 p12 p13 p14 t0 t1 t2 t3 t4 t5 t6 t7 t8 t9 t10 t11
        generalize Sort.grow (redrawn V d9) os9=w3 at *
        go_wp2
        exact⟨⟨j+1,by omega,by go_num,by rw[HSN.out]<;>go_num,aa HBJ.out kq⟩,by simp[intOf];omega⟩
       ·simp only[f1,f2,f3,Bool.and_true,if_true]at hsn
        have HSN:=Lib.hid hsn.out
        clear hsn
        go_wp2
        refine wrq ?_;(repeat (any_goals (go_big_quiet_step ((fail)))));all_goals (refine wqn ?_;intro d9 os9)
        have kq:=below_regrown V d9 os9
        clear p0 p1 p2 p3 p4 p5 p6 p7 p8 p9 p10 p11 p12 p13 p14 t0 t1 t2 t3 t4 t5 t6 t7 t8 t9 t10 t11
        generalize Sort.grow (redrawn V d9) os9=w3 at *
        go_wp2
        exact⟨⟨j+1,by omega,by go_num,by rw[HSN.out]<;>go_num,aa HBJ.out kq⟩,by simp[intOf];omega⟩
       ·simp only[f1,f2,f3,Bool.and_true,Bool.and_false,Bool.false_eq_true,if_false,Nat.add_zero]at hsn
        have HSN:=Lib.hid hsn.out
        clear hsn
        go_wp2
        refine wrq ?_;(repeat (any_goals (go_big_quiet_step ((fail)))));all_goals (refine wqn ?_;intro d9 os9)
        have kq:=below_regrown V d9 os9
        clear p0 p1 p2 p3 p4 p5 p6 p7 p8 p9 p10 p11 p12 p13 p14 t0 t1 t2 t3 t4 t5 t6 t7 t8 t9 t10 t11
        generalize Sort.grow (redrawn V d9) os9=w3 at *
        go_wp2
        exact⟨⟨j+1,by omega,by go_num,by rw[HSN.out]<;>go_num,aa HBJ.out kq⟩,by simp[intOf];omega⟩
      ·simp only[f1,f2,Bool.and_false,Bool.false_and,Bool.false_eq_true,if_false,Nat.add_zero]at hsn
       have HSN:=Lib.hid hsn.out
       clear hsn
       go_wp2
       refine wrq ?_;(repeat (any_goals (go_big_quiet_step ((fail)))));all_goals (refine wqn ?_;intro d9 os9)
       have kq:=below_regrown V d9 os9
       clear p0 p1 p2 p3 p4 p5 p6 p7 p8 p9 p10 p11 p12 p13 p14 t0 t1 t2 t3 t4 t5 t6 t7 t8 t9 t10 t11
       generalize Sort.grow (redrawn V d9) os9=w3 at *
       go_wp2
       exact⟨⟨j+1,by omega,by go_num,by rw[HSN.out]<;>go_num,aa HBJ.out kq⟩,by simp[intOf];omega⟩
     ·obtain⟨a2,f2⟩|⟨a2,g2,f2⟩|⟨a2,g2,f2⟩:=wn p.p t.p
      ·obtain⟨a3,f3⟩|⟨a3,g3,f3⟩|⟨a3,g3,f3⟩:=wn p.o t.o
       ·simp only[f1,f2,f3,Bool.and_true,if_true]at hsn
        have HSN:=Lib.hid hsn.out
        clear hsn
        go_wp2
        refine wrq ?_;(repeat (any_goals (go_big_quiet_step ((fail)))));all_goals (refine wqn ?_;intro d9 os9)
        have kq:=below_regrown V d9 os9
        clear p0 p1 p2 p3 p4 p5 p6 p7 p8 p9 p10 p11 p12 p13 p14 t0 t1 t2 t3 t4 t5 t6 t7 t8 t9 t10 t11
        generalize Sort.grow (redrawn V d9) os9=w3 at *
        go_wp2
        exact⟨⟨j+1,by omega,by go_num,by rw[HSN.out]<;>go_num,aa HBJ.out kq⟩,by simp[intOf];omega⟩
       ·simp only[f1,f2,f3,Bool.and_true,if_true]at hsn
        have HSN:=Lib.hid hsn.out
        clear hsn
        go_wp2
        refine wrq ?_;(repeat (any_goals (go_big_quiet_step ((fail)))));all_goals (refine wqn ?_;intro d9 os9)
        have kq:=below_regrown V d9 os9
        clear p0 p1 p2 p3 p4 p5 p6 p7 p8 p9 p10 p11 p12 p13 p14 t0 t1 t2 t3 t4 t5 t6 t7 t8 t9 t10 t11
        generalize Sort.grow (redrawn V d9) os9=w3 at *
        go_wp2
        exact⟨⟨j+1,by omega,by go_num,by rw[HSN.out]<;>go_num,aa HBJ.out kq⟩,by simp[intOf];omega⟩
       ·simp only[f1,f2,f3,Bool.and_true,Bool.and_false,Bool.false_eq_true,if_false,Nat.add_zero]at hsn
        have HSN:=Lib.hid hsn.out
        clear hsn
        go_wp2
        refine wrq ?_;(repeat (any_goals (go_big_quiet_step ((fail)))));all_goals (refine wqn ?_;intro d9 os9)
        have kq:=below_regrown V d9 os9
        clear p0 p1 p2 p3 p4 p5 p6 p7 p8 p9 p10 p11 p12 p13 p14 t0 t1 t2 t3 t4 t5 t6 t7 t8 t9 t10 t11
        generalize Sort.grow (redrawn V d9) os9=w3 at *
        go_wp2
        exact⟨⟨j+1,by omega,by go_num,by rw[HSN.out]<;>go_num,aa HBJ.out kq⟩,by simp[intOf];omega⟩
      ·obtain⟨a3,f3⟩|⟨a3,g3,f3⟩|⟨a3,g3,f3⟩:=wn p.o t.o
       ·simp only[f1,f2,f3,Bool.and_true,if_true]at hsn
        have HSN:=Lib.hid hsn.out
        clear hsn
        go_wp2
        refine wrq ?_;(repeat (any_goals (go_big_quiet_step ((fail)))));all_goals (refine wqn ?_;intro d9 os9)
        have kq:=below_regrown V d9 os9
        clear p0 p1 p2 p3 p4 p5 p6 p7 p8 p9 p10 p11 p12 p13 p14 t0 t1 t2 t3 t4 t5 t6 t7 t8 t9 t10 t11
        generalize Sort.grow (redrawn V d9) os9=w3 at *
        go_wp2
        exact⟨⟨j+1,by omega,by go_num,by rw[HSN.out]<;>go_num,aa HBJ.out kq⟩,by simp[intOf];omega⟩
       ·simp only[f1,f2,f3,Bool.and_true,if_true]at hsn
        have HSN:=Lib.hid hsn.out
        clear hsn
        go_wp2
        refine wrq ?_;(repeat (any_goals (go_big_quiet_step ((fail)))));all_goals (refine wqn ?_;intro d9 os9)
        have kq:=below_regrown V d9 os9
        clear p0 p1 p2 p3 p4 p5 p6 p7 p8 p9 p10 p11 p12 p13 p14 t0 t1 t2 t3 t4 t5 t6 t7 t8 t9 t10 t11
        generalize Sort.grow (redrawn V d9) os9=w3 at *
        go_wp2
        exact⟨⟨j+1,by omega,by go_num,by rw[HSN.out]<;>go_num,aa HBJ.out kq⟩,by simp[intOf];omega⟩
       ·simp only[f1,f2,f3,Bool.and_true,Bool.and_false,Bool.false_eq_true,if_false,Nat.add_zero]at hsn
        have HSN:=Lib.hid hsn.out
        clear hsn
        go_wp2
        refine wrq ?_;(repeat (any_goals (go_big_quiet_step ((fail)))));all_goals (refine wqn ?_;intro d9 os9)
        have kq:=below_regrown V d9 os9
        clear p0 p1 p2 p3 p4 p5 p6 p7 p8 p9 p10 p11 p12 p13 p14 t0 t1 t2 t3 t4 t5 t6 t7 t8 t9 t10 t11
        generalize Sort.grow (redrawn V d9) os9=w3 at *
        go_wp2
        exact⟨⟨j+1,by omega,by go_num,by rw[HSN.out]<;>go_num,aa HBJ.out kq⟩,by simp[intOf];omega⟩
      ·simp only[f1,f2,Bool.and_false,Bool.false_and,Bool.false_eq_true,if_false,Nat.add_zero]at hsn
       have HSN:=Lib.hid hsn.out
       clear hsn
       go_wp2
       refine wrq ?_;(repeat (any_goals (go_big_quiet_step ((fail)))));all_goals (refine wqn ?_;intro d9 os9)
       have kq:=below_regrown V d9 os9
       clear p0 p1 p2 p3 p4 p5 p6 p7 p8 p9 p10 p11 p12 p13 p14 t0 t1 t2 t3 t4 t5 t6 t7 t8 t9 t10 t11
       generalize Sort.grow (redrawn V d9) os9=w3 at *
       go_wp2
       exact⟨⟨j+1,by omega,by go_num,by rw[HSN.out]<;>go_num,aa HBJ.out kq⟩,by simp[intOf];omega⟩
     ·simp only[f1,Bool.false_and,Bool.false_eq_true,if_false,Nat.add_zero]at hsn
      have HSN:=Lib.hid hsn.out
      clear hsn
      go_wp2
      refine wrq ?_;(repeat (any_goals (go_big_quiet_step ((fail)))));all_goals (refine wqn ?_;intro d9 os9)
      have kq:=below_regrown V d9 os9
      clear p0 p1 p2 p3 p4 p5 p6 p7 p8 p9 p10 p11 p12 p13 p14 t0 t1 t2 t3 t4 t5 t6 t7 t8 t9 t10 t11
      generalize Sort.grow (redrawn V d9) os9=w3 at *
      go_wp2
      exact⟨⟨j+1,by omega,by go_num,by rw[HSN.out]<;>go_num,aa HBJ.out kq⟩,by simp[intOf];omega⟩
    ·rw[List.take_of_length_le (by omega)]at hcl ⊢
     have hq:=HX.out.1
     have hw:wrap64 ((m:Int)*max (ck set p:Int) 1)=((m*max (ck set p) 1:Nat):Int):=by
      have hM:m*max (ck set p) 1<=1500*1000:=Nat.mul_le_mul hm (by omega)
      rw[show (m:Int)*max (ck set p:Int) 1=((m*max (ck set p) 1:Nat):Int) by rw[Int.natCast_mul];congr 1;omega]
      generalize m*max (ck set p) 1=M at *
      exact IntWalk.wrap64_in _ ⟨by omega,by omega⟩
     generalize m*max (ck set p) 1=M at *
     generalize ck set p=q at *
     have HBj:=Lib.hid hBj
     clear hBj hcl
     by_cases hbig:1500<M
     ·rw[if_pos hbig]at hq
      subst hq
      go_wp2
      go_ret
      exact⟨rfl,aa HX.out.2.2.1 HBj.out⟩
     ·rw[if_neg hbig]at hq
      go_wp2
      exact⟨⟨k+1,M,by omega,by go_num,by rw[hw],by omega,hq,by have:=aa HX.out.2.2.1 HBj.out;exact this⟩,by simp[intOf];omega⟩
  ·rw[List.drop_of_length_le (by omega),fm]at hs
   subst hs
   go_wp2
   go_ret
   exact⟨rfl,hB⟩
def bX:ByteArray:=⟨#[120]⟩
def bY:ByteArray:=⟨#[121]⟩
def bZ:ByteArray:=⟨#[122]⟩
def bQ:ByteArray:=⟨#[113]⟩
def frS (s:ByteArray):Sl:=⟨s,zTm⟩
def onS (t:Tm):Sl:=⟨⟨#[]⟩,t⟩
def mpP:Pat:=⟨frS bX,onS (au ⟨#[112]⟩),frS bY⟩
def vT:Pat:=⟨frS bY,onS (au ⟨#[112]⟩),frS bZ⟩
def tG:Pat:=⟨frS bY,frS bQ,frS bZ⟩
theorem Fc:ae [mpP,vT]=[bX,bY,bZ]:=by kernel_rfl
theorem Fe:dy (aS iB) [mpP,vT]=[[au ⟨#[97]⟩,au ⟨#[98]⟩,au ⟨#[99]⟩]]:=by kernel_rfl
theorem Hp:bi iB [mpP,vT]=[[au ⟨#[97]⟩,au ⟨#[98]⟩,au ⟨#[99]⟩]]:=List.perm_singleton.1 ((dE _ _).trans (by rw[Fe]))
theorem Cs:ae [mpP,tG]=[bX,bY,bQ,bZ]:=by kernel_rfl
theorem Ct:dy (aS iB) [mpP,tG]=[[au ⟨#[97]⟩,au ⟨#[98]⟩,au ⟨#[112]⟩,au ⟨#[99]⟩]]:=by kernel_rfl
theorem Ff:bi iB [mpP,tG]=[[au ⟨#[97]⟩,au ⟨#[98]⟩,au ⟨#[112]⟩,au ⟨#[99]⟩]]:=List.perm_singleton.1 ((dE _ _).trans (by rw[Ct]))
def mpQ:Qy 1:={ask:=false,dist:=false,vars:=[bZ],pats:=[mpP,tG],fils:=[],ord:=[],lim:=-1,off:=0}
theorem Cv:dq mpQ=0:=by kernel_rfl
theorem Fh:ka [bX,bY,bQ,bZ] [bZ] 1 [] [] false [[au ⟨#[97]⟩,au ⟨#[98]⟩,au ⟨#[112]⟩,au ⟨#[99]⟩]]=[[au ⟨#[99]⟩]]:=by
 have hk:ed [bX,bY,bQ,bZ] 1 [] [[au ⟨#[97]⟩,au ⟨#[98]⟩,au ⟨#[112]⟩,au ⟨#[99]⟩]]=[[au ⟨#[97]⟩,au ⟨#[98]⟩,au ⟨#[112]⟩,au ⟨#[99]⟩]]:=by kernel_rfl
 have hs:jw [bX,bY,bQ,bZ] [] [[au ⟨#[97]⟩,au ⟨#[98]⟩,au ⟨#[112]⟩,au ⟨#[99]⟩]]=[[au ⟨#[97]⟩,au ⟨#[98]⟩,au ⟨#[112]⟩,au ⟨#[99]⟩]]:=List.perm_singleton.1 (iW _ _ _)
 have hp:mV [bX,bY,bQ,bZ] [bZ]=0:=by kernel_rfl
 unfold ka Gg
 rw[if_neg (by decide),hk,hs,if_pos hp]
 rfl
theorem I0:dp iB mpQ=(true,[[au ⟨#[99]⟩]]):=by
 have h:gl mpQ.off mpQ.lim (ka (ae mpQ.pats) mpQ.vars 1 mpQ.fils mpQ.ord mpQ.dist (bi iB mpQ.pats))=[[au ⟨#[99]⟩]]:=by
  show gl 0 (-1) (ka (ae [mpP,tG]) [bZ] 1 [] [] false (bi iB [mpP,tG]))=_
  rw[Ff,Cs,Fh]
  kernel_rfl
 unfold dp
 rw[if_neg (by rw[Cv];decide),if_neg (by decide),h]
 rfl
theorem Fg:aP iB [mpP,vT]<=1500:=by
 have:aP iB [mpP,vT]=4:=by kernel_rfl
 omega
theorem Cu:aP iB [mpP,tG]<=1500:=by
 have:aP iB [mpP,tG]=6:=by kernel_rfl
 omega
end Go.Proofs.YtfcbghmbbjolcaaGreatDoor
