/- Rows of terms in memory: read, owned; blocks of a type that -/
import Derived.Test.YtfcbghmbbjolcaaGreatDoorJRowMath
set_option maxHeartbeats 4000000
set_option maxRecDepth 100000
namespace Go.Proofs.YtfcbghmbbjolcaaGreatDoor
open Go Go.RowKit Fm
theorem tm1 (l:List Tm):∀u∈l.flatMap tmC,u.oneCell'=true:=by
 intro u hu
 obtain⟨t,_,ht⟩:=List.mem_flatMap.1 hu
 simp only[tmC,List.mem_cons,List.not_mem_nil,or_false]at ht
 rcases ht with rfl|rfl|rfl|rfl<;>rfl
theorem tm_len (l:List Tm):(l.flatMap tmC).length=l.length*4:=by
 induction l with
 | nil=>rfl
 | cons a r ih=>simp[List.flatMap_cons,ih,tmC,Nat.add_mul]
theorem RdTs.flat {w:World} {A:Option Addr} {l:List Tm} (h:RdTs w A l):Rd w A (l.flatMap tmC):=by
 obtain⟨xs,h1,h2⟩:=h
 rw[←h2.flat];exact h1
theorem RdTs.of {w:World} {A:Option Addr} {l:List Tm} (h:Rd w A (l.flatMap tmC)):RdTs w A l:=⟨_,h,All.of_flat l λ_ _=>rfl⟩
def RdRow (w:World) (cs:List Value) (row:List Tm):Prop:=∃A c,cs=[.slice A row.length c]/\row.length<=c/\RdTs w A row
abbrev RdRs (w:World) (A:Option Addr) (rows:List (List Tm)):Prop:=RdL 1 (RdRow w) w A rows
theorem RdRow.later {w w':World} {cs:List Value} {row:List Tm} (h:RdRow w cs row) (hb:Below w.heap.size w w'):RdRow w' cs row:=by
 obtain⟨A,c,h1,h2,h3⟩:=h
 exact⟨A,c,h1,h2,h3.later hb⟩
theorem RdRs.later {w w':World} {A:Option Addr} {rows:List (List Tm)} (h:RdRs w A rows) (hb:Below w.heap.size w w'):RdRs w' A rows:=RdL.mono h hb λ_ _ _ h=>h.later hb
theorem RdRs.at1 {w:World} {A:Option Addr} {rows:List (List Tm)} (h:RdRs w A rows) {j:Nat} {row:List Tm} (hj:rows[j]?=some row) :
  ∃g o A' c',A=some ⟨g,o,none⟩/\w.cell? ⟨g,o+j,none⟩=some (.slice A' row.length c')/\row.length<=c'/\RdTs w A' row:=by
 obtain⟨g,o,cs,hA,_,⟨A',c',rfl,h2,h3⟩,hx⟩:=RdL.at_ h (by omega) hj
 have:=hx 0 _ rfl
 rw[Nat.mul_one,Nat.add_zero]at this
 exact⟨g,o,A',c',hA,this,h2,h3⟩
theorem RdL.take {α:Type} {sz:Nat} {R:List Value->α->Prop} {w:World} {A:Option Addr} {l:List α} (h:RdL sz R w A l) (k:Nat):RdL sz R w A (l.take k):=by
 obtain⟨xs,h1,h2⟩:=h
 exact⟨_,h1.take _,h2.take k⟩
def KeepT (e:TypeId) (w w':World):Prop:=∀(g:Nat) (cur:Array Value) (fr:Nat × Nat),w.heap[g]?=some (Obj.cells cur e fr)->w'.heap[g]?=some (Obj.cells cur e fr)
theorem KeepT.refl (e:TypeId) (w:World):KeepT e w w:=λ_ _ _ h=>h
theorem KeepT.trans {e:TypeId} {a b c:World} (h:KeepT e a b) (k:KeepT e b c):KeepT e a c:=λg cur fr x=>k g cur fr (h g cur fr x)
theorem KeepT.below {e:TypeId} {w w':World} (h:Below w.heap.size w w'):KeepT e w w':=λg cur fr x=>by
 rw[h.block g (Array.getElem?_eq_some_iff.1 x).1];exact x
theorem KeepT.setCell {e T:TypeId} {w:World} {b i:Nat} {v:Value} {cur:Array Value} {fr:Nat × Nat} (hb:w.heap[b]?=some (.cells cur T fr)) (hT:T≠e):KeepT e w (w.setCell ⟨b,i,none⟩ v):=λg c f x=>by
 have hne:g≠b:=λh=>by
  subst h
  rw[hb]at x
  injection x with x;injection x with _ x _;exact hT x
 rw[Below.heap_setCell w ⟨b,i,none⟩ v g (λh=>hne h)];exact x
theorem KeepT.grown {e T:TypeId} {w w':World} {row:Option Nat} (h:w.grownBy w' row) (hr:∀b,row=some b->∃cur fr,w.heap[b]?=some (.cells cur T fr)) (hT:T≠e):KeepT e w w':=λg c f x=>by
 have hlt:=(Array.getElem?_eq_some_iff.1 x).1
 rw[h.block g hlt (λh2=>by
  obtain⟨cur,fr,hc⟩:=hr g h2.symm
  rw[hc]at x
  injection x with x;injection x with _ x _;exact hT x)]
 exact x
theorem own_keep {w w':World} {base:Nat} {e:TypeId} {size n:Nat} {v:Value} {xs:List Value} (h:w.ownsRow base e size v n xs) (hk:KeepT e w w'):w'.ownsRow base e size v n xs:=by
 refine⟨h.1,?_⟩
 rcases h.2 with h0|⟨g,cap,cur,hv,hg,hh,r⟩
 ·exact .inl h0
 ·exact .inr ⟨g,cap,cur,hv,hg,hk g cur _ hh,r⟩
theorem own_lower {w:World} {base base':Nat} {e:TypeId} {size n:Nat} {v:Value} {xs:List Value} (h:w.ownsRow base e size v n xs) (hb:base'<=base):w.ownsRow base' e size v n xs:=by
 refine⟨h.1,?_⟩
 rcases h.2 with h0|⟨g,cap,cur,hv,hg,r⟩
 ·exact .inl h0
 ·exact .inr ⟨g,cap,cur,hv,Nat.le_trans hb hg,r⟩
theorem own_blockR {w:World} {base:Nat} {e:TypeId} {size n:Nat} {v:Value} {xs:List Value} (h:w.ownsRow base e size v n xs):∀b,v.ownBlock=some b->∃cur fr,w.heap[b]?=some (.cells cur e fr):=by
 intro b hb
 rcases h.2 with ⟨rfl,_⟩|⟨g,cap,cur,rfl,hg,hh,r⟩
 ·cases hb
 ·have:g=b:=by simpa[Value.ownBlock] using hb
  subst this
  exact⟨cur,_,hh⟩
def OwnRow (base:Nat) (w:World) (cs:List Value) (row:List Tm):Prop:=∃v,cs=[v]/\w.ownsRow base 62 4 v row.length (row.flatMap tmC)
def OwnRs (base:Nat) (w:World) (v:Value) (rows:List (List Tm)):Prop:=∃xs,w.ownsRow base 58 1 v rows.length xs/\All 1 (OwnRow base w) xs rows
theorem OwnRow.rd {base:Nat} {w:World} {cs:List Value} {row:List Tm} (h:OwnRow base w cs row):RdRow w cs row:=by
 obtain⟨v,rfl,h⟩:=h
 obtain⟨A,c,rfl,h1,h2⟩:=own_slice h
 exact⟨A,c,rfl,h1,.of h2⟩
theorem OwnRow.keep {base:Nat} {w w':World} {cs:List Value} {row:List Tm} (h:OwnRow base w cs row) (hk:KeepT 62 w w'):OwnRow base w' cs row:=by
 obtain⟨v,h1,h2⟩:=h
 exact⟨v,h1,own_keep h2 hk⟩
theorem OwnRs.keep {base:Nat} {w w':World} {v:Value} {rows:List (List Tm)} (h:OwnRs base w v rows) (hk:KeepT 62 w w') (hk2:KeepT 58 w w'):OwnRs base w' v rows:=by
 obtain⟨xs,h1,h2⟩:=h
 exact⟨xs,own_keep h1 hk2,h2.mono λ_ _ _ h=>h.keep hk⟩
theorem OwnRs.rd {base:Nat} {w:World} {v:Value} {rows:List (List Tm)} (h:OwnRs base w v rows):∃A c,v=.slice A rows.length c/\rows.length<=c/\RdRs w A rows:=by
 obtain⟨xs,h1,h2⟩:=h
 obtain⟨A,c,rfl,h3,h4⟩:=own_slice h1
 exact⟨A,c,rfl,h3,xs,h4,h2.mono λ_ _ _ h=>h.rd⟩
theorem OwnRs.nil (base:Nat) (w:World):OwnRs base w (.slice none 0 0) []:=⟨[],World.ownsRow_nil _ _ _ _,rfl⟩
open Um Lx Tx Om
theorem bN {α:Type} (l:List α) {k:Nat} (h:l.length=k):l.drop k=[]:=List.drop_eq_nil_of_le (by omega)
def aN (r:List Tm):Prop:=r.length<=1000000/\∀t∈r,bK t
theorem G0 (a b:List Tm) (A B:Option Addr) (c d n m:Nat) (w:World) (hn:a.length=n) (hm:b.length=m) (hC:cD w) (ha:RdTs w A a) (hb:RdTs w B b) (za:aN a) (zb:aN b) :
  Calls Tryz.prog 105 #[.slice A n c,.slice B m d,.func (.func 106) #[] #[]] w λe w'=>e=.returned (.int .i64 (cmpRow a b))/\Below w.heap.size w w':=by
 have hln:n<=1000000:=by rw[←hn];exact za.1
 have hlm:m<=1000000:=by rw[←hm];exact zb.1
 have HN:=Lib.hid hn
 have HM:=Lib.hid hm
 have HA:=Lib.hid (And.intro ha za)
 have HB:=Lib.hid (And.intro hb zb)
 have HC:=Lib.hid hC
 clear hn hm ha hb za zb hC
 go_enter Tryz.func105,Tryz.ntmps105
 go_wp2
 go_loopw [7,8,9,10,13] (λu7 u8 u9 u10 i wr=>∃k:Nat,k<=n/\k<=m/\i=.int .i64 k/\Hid (cmpRow a b=cmpRow (a.drop k) (b.drop k))/\Hid (Below w.heap.size w wr)) (λ_ _ _ _ i _=>n-(intOf i).toNat)
 case atStart=>exact⟨0,by omega,by omega,rfl,rfl,Below.refl _ _⟩
 case round =>
  obtain⟨k,hk,hkm,rfl,H1,HBw⟩:=hrel
  by_cases hlt:k<n
  ·obtain⟨x,hx⟩:∃x,a[k]?=some x:=⟨_,List.getElem?_eq_getElem (by rw[HN.out];exact hlt)⟩
   obtain⟨g,o,rfl,a0,a1,a2,a3⟩:=(RdTs.later HA.out.1 HBw.out).at4 hx
   have hxs:=HA.out.2.2 x (List.mem_of_getElem? hx)
   by_cases hlt2:k<m
   ·obtain⟨y,hy⟩:∃y,b[k]?=some y:=⟨_,List.getElem?_eq_getElem (by rw[HM.out];exact hlt2)⟩
    obtain⟨g2,o2,rfl,b0,b1,b2,b3⟩:=(RdTs.later HB.out.1 HBw.out).at4 hy
    have hys:=HB.out.2.2 y (List.mem_of_getElem? hy)
    have hg:=ag b0
    have hst:Hid (cmpRow a b=orZ (ay x y) (cmpRow (a.drop (k+1)) (b.drop (k+1)))):=by
     show _=_
     rw[H1.out,ai hx,ai hy];rfl
    have hW:Below wr.heap.size wr ((wr.alloc (.cells #[.int .i64 x.k,.string x.x,.string x.l,.string x.y] 62)).alloc (.cells #[.int .i64 y.k,.string y.x,.string y.l,.string y.y] 62)):=blw
    have hcall:=dN x y _ (HC.out.step (aa HBw.out hW)) hxs hys
    have HW:=Lib.hid (aa HBw.out hW)
    have hd1:decide (m<=k)=false:=by simp;omega
    clear hx hy hxs hys hW H1
    by_cases hz:ay x y=0
    ·have hst2:Hid (cmpRow a b=cmpRow (a.drop (k+1)) (b.drop (k+1))):=by show _=_;rw[hst.out,hz];rfl
     rw[hz]at hcall
     clear hst hz
     go_wp2_with (refine hcall.mono ?_;rintro e w1 ⟨rfl,hb1⟩;have HF:=Lib.hid (aa HW.out hb1);clear hb1 hcall)
     go_roundw
     case rel=>exact⟨k+1,by omega,by omega,by go_num,hst2,HF⟩
     case measure=>simp[intOf];omega
    ·have hst2:Hid (cmpRow a b=ay x y):=by show _=_;rw[hst.out];unfold orZ;rw[if_neg hz]
     have hz2:(ay x y != 0)=true:=by rw[bne_iff_ne];exact hz
     generalize ay x y=z at *
     clear hst hz
     go_wp2_with (refine hcall.mono ?_;rintro e w1 ⟨rfl,hb1⟩;have HF:=Lib.hid (aa HW.out hb1);clear hb1 hcall)
     go_ret
     exact⟨by rw[hst2.out];rfl,HF.out⟩
   ·obtain rfl:k=m:=by omega
    have hst2:Hid (cmpRow a b=1):=by
     show _=_
     rw[H1.out,ai hx,bN b HM.out];rfl
    have hd1:decide (k<=k)=true:=by simp
    have HF:=Lib.hid (aa HBw.out ((Below.refl wr.heap.size wr).alloc (Nat.le_refl _) (.cells #[.int .i64 x.k,.string x.x,.string x.l,.string x.y] 62)))
    clear hx hxs H1
    go_wp2
    go_ret
    exact⟨by rw[hst2.out];rfl,HF.out⟩
  ·obtain rfl:k=n:=by omega
   by_cases hlt2:k<m
   ·have hst2:Hid (cmpRow a b = -1):=by
     show _=_
     obtain⟨y,hy⟩:∃y,b[k]?=some y:=⟨_,List.getElem?_eq_getElem (by rw[HM.out];exact hlt2)⟩
     rw[H1.out,ai hy,bN a HN.out];rfl
    have hd1:decide (k<m)=true:=by simp;omega
    clear H1
    go_wp2
    go_ret
    exact⟨by rw[hst2.out];rfl,HBw.out⟩
   ·obtain rfl:k=m:=by omega
    have hst2:Hid (cmpRow a b=0):=by
     show _=_
     rw[H1.out,bN a HN.out,bN b HM.out];rfl
    have hd1:decide (k<k)=false:=by simp
    clear H1
    go_wp2
    go_ret
    exact⟨by rw[hst2.out];rfl,HBw.out⟩
theorem iT:(Tryz.prog.info? 62).map (λi=>(i.zero,i.size,i.bytes))=some (some (.agg #[.int .i64 0,.string ⟨#[]⟩,.string ⟨#[]⟩,.string ⟨#[]⟩]),4,56):=by kernel_rfl
theorem dj:(Tryz.prog.info? 58).map (λi=>(i.zero,i.size,i.bytes))=some (some (.slice none 0 0),1,24):=by kernel_rfl
def mt (b:Nat->Bool) (n:Nat) (S:Nat->World->Prop) (e:Ending) (w':World):Prop:=
 (e=.returned (.int .i64 (-1))/\(∀j,j<n->b j=false)/\S n w')∨∃k:Nat,k<n/\e=.returned (.int .i64 k)/\b k=true/\(∀j,j<k->b j=false)/\S (k+1) w'
theorem Fz (F:Nat) (cb:Array Value) (eg:∀args w,(callFunc F args).run Tryz.prog w=.ok (.enter F args) w) (b:Nat->Bool) (S:Nat->World->Prop) (rows:List (List Tm)) (n:Nat) (A:Option Addr) (c:Nat) (w:World) (hn:rows.length=n) (hl:n<=1000000000)
  (hR:∀k W,S k W->RdRs W A rows)
  (hc:∀k row W A' c',rows[k]?=some row->S k W->row.length<=c'->RdTs W A' row->Calls Tryz.prog F (#[.slice A' row.length c']++cb) W λe W'=>e=.returned (.bool (b k))/\S (k+1) W')
  (h0:S 0 w):Calls Tryz.prog 70 #[.slice A n c,.func (.func F) #[] cb] w (mt b n S):=by
 have HN:=Lib.hid hn
 have HR:=Lib.hid hR
 have HC:=Lib.hid hc
 have H0:Hid ((∀j,j<0->b j=false)/\S 0 w):=⟨λ_ h=>by omega,h0⟩
 clear hR hc hn h0
 go_enter Tryz.func70,Tryz.ntmps70
 go_wp2
 go_loopw [5,8] (λv i wr=>∃k:Nat,k<=n/\i=.int .i64 k/\Hid ((∀j,j<k->b j=false)/\S k wr)) (λ_ i _=>n-(intOf i).toNat)
 case atStart=>exact⟨0,by omega,rfl,H0⟩
 case round =>
  clear H0
  obtain⟨k,hk,rfl,H1⟩:=hrel
  by_cases hlt:k<n
  ·obtain⟨row,hrow⟩:∃row,rows[k]?=some row:=⟨_,List.getElem?_eq_getElem (by rw[HN.out];exact hlt)⟩
   obtain⟨g,o,A',c',rfl,hcell,hle,hrd⟩:=(HR.out k wr H1.out.2).at1 hrow
   have hcall:=HC.out k row wr A' c' hrow H1.out.2 hle hrd
   clear hrow hrd hle
   cases hb:b k
   ·have H2:Hid (∀W',S (k+1) W'->(∀j,j<k+1->b j=false)/\S (k+1) W'):=λW' h=>⟨λj hj=>by
     by_cases e:j=k
     ·rw[e];exact hb
     ·exact H1.out.1 j (by omega),h⟩
    rw[hb]at hcall
    clear hb H1
    go_wp2_with (go_at_fn F;refine hcall.mono ?_;rintro e w1 ⟨rfl,hS⟩;have HS:=Lib.hid hS;clear hS hcall hcell)
    go_roundw
    case rel=>exact⟨k+1,by omega,by go_num,H2.out _ HS.out⟩
    case measure=>simp[intOf];omega
   ·have H2:Hid (∀W',S (k+1) W'->mt b n S (.returned (.int .i64 k)) W'):=λW' h=>.inr ⟨k,hlt,rfl,hb,H1.out.1,h⟩
    rw[hb]at hcall
    clear hb H1
    go_wp2_with (go_at_fn F;refine hcall.mono ?_;rintro e w1 ⟨rfl,hS⟩;have HS:=Lib.hid hS;clear hS hcall hcell)
    go_ret
    exact H2.out _ HS.out
  ·obtain rfl:k=n:=by omega
   have H2:Hid (mt b k S (.returned (.int .i64 (-1))) wr):=.inl ⟨rfl,H1.out.1,H1.out.2⟩
   clear H1
   go_wp2
   go_ret
   exact H2.out
namespace Om
variable {α:Type}
def jJ [DecidableEq α] (acc:List α) (r:α):List α:=if r∈acc then acc else acc++[r]
def bA [DecidableEq α] (l:List α):List α:=l.foldl jJ []
section
variable [DecidableEq α]
theorem kz (l:List α) (r:α):bA (l++[r])=jJ (bA l) r:=by simp[bA,List.foldl_append]
theorem Ck (l:List α) (x:α):x∈bA l↔x∈l:=by
 rw[←List.reverse_reverse l]
 induction l.reverse with
 | nil=>simp[bA]
 | cons r l ih =>
  rw[List.reverse_cons,kz]
  unfold jJ
  split
  ·rename_i h
   rw[ih,List.mem_append]
   refine⟨.inl,λh2=>h2.elim id λe=>?_⟩
   simp only[List.mem_cons,List.not_mem_nil,or_false]at e
   subst e;exact ih.1 (by
    by_cases hx:x∈bA l.reverse
    ·exact hx
    ·exact absurd h hx)
  ·rw[List.mem_append,List.mem_append,ih]
end
end Om
def mR (vars:List ByteArray) (rows:List (List Tm)):Bool:=decide vars.Nodup && !rows.any λr=>r.length != vars.length
end Go.Proofs.YtfcbghmbbjolcaaGreatDoor
namespace Go.Proofs.YtfcbghmbbjolcaaGreatDoor.Rl
open Go Go.Sort Go.RowKit Rg Rh Rf
section
variable {P:Program} {ops:Array Oper}
theorem qu {j:Nat} {o:Oper} (ho:ops[j]?=some o) {G X:Act->World->Prop} {a:Act} {w:World}
  (h:wpList P ops (Exit.then G Bot) [o] a w) (hx:∀a' W',G a' W'->X a' W'):wpOp P ops Bot j X a w:=by
 unfold wpOp
 simp only[ho]
 have next:∀a' W',wpList P ops (Exit.then G Bot) [] a' W'->X a' W':=λa' W' hh=>hx a' W' hh
 simp only[wpList]at h
 split at h
 ·rename_i hw
  rw[if_pos hw]
  rcases h with h|h
  ·left
   exact gZ (λc a w h=>h) (λh=>h) (Oper.wp_mono next h)
  ·obtain⟨_,hl⟩:=h
   obtain⟨_,_,hf⟩:=hl
   exact hf.elim
 ·rename_i hw
  rw[if_neg hw]
  exact next _ _ h
end
end Go.Proofs.YtfcbghmbbjolcaaGreatDoor.Rl
namespace Go.Proofs.YtfcbghmbbjolcaaGreatDoor.Rn
open Go Go.Sort Go.RowKit Rg Rh Rf Rl
section
variable {P:Program} {ops:Array Oper}
def behind (ops:Array Oper) (i:Nat):List Nat:=(List.range ops.size).foldl (λS k=>match ops[k]? with
 | none=>S
 | some o=>if o.after.any λe=>Region.binds .any e && S.contains e.on then k::S else S) [i]
def kf (ops:Array Oper) (i:Nat) (S:List Nat):Prop:=∀k∈S,k=i∨∃(o:Oper) (e:Edge),ops[k]?=some o/\e∈o.after/\Region.binds .any e=true/\e.on∈S
theorem AK (i:Nat):kf ops i (behind ops i):=by
 unfold behind
 suffices h:∀(l:List Nat) (S:List Nat),kf ops i S->kf ops i (l.foldl (λS k=>match ops[k]? with
   | none=>S
   | some o=>if o.after.any λe=>Region.binds .any e && S.contains e.on then k::S else S) S) from
  h _ _ (λk hk=>.inl (by simpa using hk))
 intro l
 induction l with
 | nil=>exact λS h=>h
 | cons k l ih =>
  intro S h
  rw[List.foldl_cons]
  refine ih _ ?_
  split
  ·exact h
  ·rename_i o ho
   split
   ·rename_i hany
    obtain⟨e,he,hb⟩:=Array.any_eq_true'.1 hany
    rw[Bool.and_eq_true]at hb
    have hm:e.on∈S:=by simpa using hb.2
    intro k' hk'
    rcases List.mem_cons.1 hk' with rfl|hk'
    ·exact .inr ⟨o,e,ho,he,hb.1,List.mem_cons_of_mem _ hm⟩
    ·rcases h k' hk' with h1|⟨o',e',h1,h2,h3,h4⟩
     ·exact .inl h1
     ·exact .inr ⟨o',e',h1,h2,h3,List.mem_cons_of_mem _ h4⟩
   ·exact h
def Holds (ops:Array Oper) (L i:Nat) (listed:Array Bool):Prop:=listed.getD L true=true∨∃S,kf ops i S/\L∈S/\L≠i/\∀k∈S,listed.getD k true=false
def wi (ops:Array Oper) (L i:Nat) (listed:Array Bool):Bool:=listed.getD L true || ((behind ops i).contains L && L != i && (behind ops i).all λk => !listed.getD k true)
theorem holds_of {L i:Nat} {listed:Array Bool} (h:wi ops L i listed=true):Holds ops L i listed:=by
 unfold wi at h
 simp only[Bool.or_eq_true,Bool.and_eq_true,bne_iff_ne,ne_eq,List.all_eq_true,Bool.not_eq_true',List.contains_iff_mem]at h
 rcases h with h|⟨⟨h1,h2⟩,h3⟩
 ·exact .inl h
 ·exact .inr ⟨_,AK i,h1,h2,h3⟩
theorem Holds.open_ {L i j:Nat} {listed:Array Bool} (h:Holds ops L i listed) (_hji:j≠i) (hj:j∈Region.ready .any ops listed):j≠L:=by
 obtain⟨hjun,oj,hoj,hall⟩:=mem_ready.1 hj
 rcases h with h|⟨S,hS,hL,hLi,hun⟩
 ·rintro rfl;rw[hjun]at h;cases h
 ·rintro rfl
  rcases hS _ hL with h|⟨o,e,ho,he,hb,hm⟩
  ·exact hLi h
  ·rw[hoj]at ho;injection ho with ho;subst ho
   have:=hun _ hm
   rcases Nat.lt_or_ge e.on listed.size with h'|h'
   ·have h1:=hall e he hb
    simp[h']at h1 this;rw[h1]at this;cases this
   ·simp[Array.getElem?_eq_none h']at this
theorem Holds.set {L i j:Nat} {listed:Array Bool} (h:Holds ops L i listed) (hji:j≠i) (hj:j∈Region.ready .any ops listed):Holds ops L i (listed.setIfInBounds j true):=by
 obtain⟨hjun,oj,hoj,hall⟩:=mem_ready.1 hj
 rcases h with h|⟨S,hS,hL,hLi,hun⟩
 ·refine .inl ?_
  by_cases hjL:j=L
  ·subst hjL;rw[hjun]at h;cases h
  ·rw[getD_set_ne true hjL];exact h
 ·refine .inr ⟨S,hS,hL,hLi,λk hk=>?_⟩
  have hjS:j ∉ S:=λhm=>by
   rcases hS _ hm with h|⟨o,e,ho,he,hb,hm⟩
   ·exact hji h
   ·rw[hoj]at ho;injection ho with ho;subst ho
    have:=hun _ hm
    rcases Nat.lt_or_ge e.on listed.size with h'|h'
    ·have h1:=hall e he hb
     simp[h']at h1 this;rw[h1]at this;cases this
    ·simp[Array.getElem?_eq_none h']at this
  have hne:j≠k:=λe=>hjS (e ▸ hk)
  rw[getD_set_ne true hne];exact hun k hk
def CS:List (Nat × List Nat)->Nat
 | []=>0
 | x::r=>x.2.length+CS r
end
end Go.Proofs.YtfcbghmbbjolcaaGreatDoor.Rn
namespace Go.Proofs.YtfcbghmbbjolcaaGreatDoor.Rs
open Go Go.Sort Go.RowKit Rg Rh Rf Rl Rn
section
variable {P:Program} {ops:Array Oper}
def ef (P:Program) (ops:Array Oper) (B:Nat) (Ls:List Nat) (Q:Act->World->Prop):Nat->Array Bool->Act->World->Prop
 | 0,listed,a,w=>Region.ready .any ops listed=[]/\Q a w
 | fuel+1,listed,a,w=>(Region.ready .any ops listed=[]->Q a w) /\
   ∀i∈Region.ready .any ops listed,wpOp P ops Bot i (λa' W'=>(i∈Ls/\Below 0 w W'∨Below B w W')/\ef P ops B Ls Q fuel (listed.setIfInBounds i true) a' W') a w
theorem ef.sound {B:Nat} {Ls:List Nat} {Q:Act->World->Prop} {Q':Exit->Act->World->Prop} (hQ:∀a w,Q a w->Q' .normal a w):∀(fuel:Nat) (listed:Array Bool) (a:Act) (w:World),
  ef P ops B Ls Q fuel listed a w->wpAny P .any ops Q' fuel listed a w
 | 0,_,_,_,h=>⟨h.1,hQ _ _ h.2⟩
 | fuel+1,_,a,w,h=>by
  obtain⟨h0,h1⟩:=h
  exact⟨λe=>hQ _ _ (h0 e),λi hi=>js (wpOp_mono (λa' W' h2=>ef.sound hQ fuel _ a' W' h2.2) (h1 i hi))⟩
theorem Il {B:Nat} {Ls:List Nat} {Q:Act->World->Prop} {i:Nat} {oi:Oper} {v:Value} (hi:ops[i]?=some oi) (hsel:∀(j:Nat) (o:Oper) cs b,ops[j]?=some o->o.op≠.select cs b) :
  ∀(fuel:Nat) (listed:Array Bool) (a:Act) (w:World),
   (∀j oj,ops[j]?=some oj->j≠i->listed.getD j true=false->(∀e∈oj.after,Region.binds .any e=true->e.on≠i)->oi.apart ops oj=true) ->
   (∀L∈Ls,Holds ops L i listed)->i∈Region.ready .any ops listed->YB P ops B oi v a w ->
   ef P ops B Ls Q fuel (listed.setIfInBounds i true) (a.put oi.dst v) w->ef P ops B Ls Q (fuel+1) listed a w:=by
 intro fuel
 induction fuel with
 | zero =>
  intro listed a w _ _ hr hy H
  refine⟨λh=>(by rw[h]at hr;cases hr),λj hj=>?_⟩
  by_cases hji:j=i
  ·subst hji;exact hy.wpOp hi ⟨.inr (Below.refl _ _),H⟩
  ·have:=ready_mono hj hji
   rw[H.1]at this
   cases this
 | succ fuel ih =>
  intro listed a w hfree hho hr hy H
  refine⟨λh=>(by rw[h]at hr;cases hr),λj hj=>?_⟩
  by_cases hji:j=i
  ·subst hji;exact hy.wpOp hi ⟨.inr (Below.refl _ _),H⟩
  ·have hjL:j ∉ Ls:=λhm=>(hho j hm).open_ hji hj rfl
   have h1:=H.2 j (ready_mono hj hji)
   obtain⟨hjun,oj,hoj,hall⟩:=mem_ready.1 hj
   have hnot:∀e∈oj.after,Region.binds .any e=true->e.on≠i:=λe he hb heq=>by
    have h1:=hall e he hb
    have h0:=(mem_ready.1 hr).1
    rw[heq]at h1
    rcases Nat.lt_or_ge i listed.size with h'|h'
    ·simp[h']at h0 h1;rw[h0]at h1;cases h1
    ·simp[Array.getElem?_eq_none h']at h1
   have h2:=ki hoj (hfree j oj hoj hji hjun hnot) (λcs b=>hsel i oi cs b hi) (λcs b=>hsel j oj cs b hoj) hy h1
   have hfree':∀k ok,ops[k]?=some ok->k≠i->(listed.setIfInBounds j true).getD k true=false ->
     (∀e∈ok.after,Region.binds .any e=true->e.on≠i)->oi.apart ops ok=true:=λk ok hk hki hun hno=>by
    refine hfree k ok hk hki ?_ hno
    by_cases hjk:j=k
    ·subst hjk;exact hjun
    ·rw[getD_set_ne true hjk]at hun;exact hun
   refine wpOp_mono (λa' W' h3=>?_) h2
   obtain⟨hy',hb1,h4⟩:=h3
   have hb1':=hb1.resolve_left (λh=>hjL h.1)
   refine⟨hb1,ih (listed.setIfInBounds j true) a' W' hfree' (λL hL=>(hho L hL).set hji hj) (ready_mono hr (Ne.symm hji)) (hy'.later hb1') ?_⟩
   rw[Array.setIfInBounds_comm _ _ hji]
   exact h4
theorem Im {B:Nat} {Ls:List Nat} {Q:Act->World->Prop} {i:Nat} {oi:Oper} {v:Value} (hi:ops[i]?=some oi) (hsel:∀(j:Nat) (o:Oper) cs b,ops[j]?=some o->o.op≠.select cs b) :
  ∀(fuel:Nat) (listed:Array Bool) (a:Act) (w:World),
   (∀j oj,ops[j]?=some oj->j≠i->listed.getD j true=false->(∀e∈oj.after,Region.binds .any e=true->e.on≠i)->oi.apart ops oj=true) ->
   i∈Region.ready .any ops listed->YB P ops 0 oi v a w ->
   ef P ops B Ls Q fuel (listed.setIfInBounds i true) (a.put oi.dst v) w->ef P ops B Ls Q (fuel+1) listed a w:=by
 intro fuel
 induction fuel with
 | zero =>
  intro listed a w _ hr hy H
  refine⟨λh=>(by rw[h]at hr;cases hr),λj hj=>?_⟩
  by_cases hji:j=i
  ·subst hji;exact hy.wpOp hi ⟨.inr (Below.refl _ _),H⟩
  ·have:=ready_mono hj hji
   rw[H.1]at this
   cases this
 | succ fuel ih =>
  intro listed a w hfree hr hy H
  refine⟨λh=>(by rw[h]at hr;cases hr),λj hj=>?_⟩
  by_cases hji:j=i
  ·subst hji;exact hy.wpOp hi ⟨.inr (Below.refl _ _),H⟩
  ·have h1:=H.2 j (ready_mono hj hji)
   obtain⟨hjun,oj,hoj,hall⟩:=mem_ready.1 hj
   have hnot:∀e∈oj.after,Region.binds .any e=true->e.on≠i:=λe he hb heq=>by
    have h1:=hall e he hb
    have h0:=(mem_ready.1 hr).1
    rw[heq]at h1
    rcases Nat.lt_or_ge i listed.size with h'|h'
    ·simp[h']at h0 h1;rw[h0]at h1;cases h1
    ·simp[Array.getElem?_eq_none h']at h1
   have h2:=ki hoj (hfree j oj hoj hji hjun hnot) (λcs b=>hsel i oi cs b hi) (λcs b=>hsel j oj cs b hoj) hy h1
   have hfree':∀k ok,ops[k]?=some ok->k≠i->(listed.setIfInBounds j true).getD k true=false ->
     (∀e∈ok.after,Region.binds .any e=true->e.on≠i)->oi.apart ops ok=true:=λk ok hk hki hun hno=>by
    refine hfree k ok hk hki ?_ hno
    by_cases hjk:j=k
    ·subst hjk;exact hjun
    ·rw[getD_set_ne true hjk]at hun;exact hun
   refine wpOp_mono (λa' W' h3=>?_) h2
   obtain⟨hy',hb1,h4⟩:=h3
   have hb1':Below 0 w W':=hb1.elim (λh=>h.2) (λh=>h.mono (Nat.zero_le _))
   refine⟨hb1,ih (listed.setIfInBounds j true) a' W' hfree' (ready_mono hr (Ne.symm hji)) (hy'.later hb1') ?_⟩
   rw[Array.setIfInBounds_comm _ _ hji]
   exact h4
def mm (ops:Array Oper) (Ls:List Nat):List Nat->Array Bool->Bool
 | [],_=>true
 | i::is,l=>(Ls.all λL=>wi ops L i l) && mm ops Ls is (l.setIfInBounds i true)
theorem jC {B:Nat} {Ls:List Nat} {Q:Act->World->Prop} (hs:Region.noSelect ops=true) {w:World} {K:Act->Prop} {fuel:Nat} {l':Array Bool} (hK:∀a,K a->ef P ops B Ls Q fuel l' a w) :
  ∀(is:List Nat) (listed:Array Bool) (a:Act),aE ops is listed=some l'->mm ops Ls is listed=true->wpQuiet P ops (jr B w) K (pickOps ops is) a->ef P ops B Ls Q (is.length+fuel) listed a w
 | [],listed,a,hq,_,h=>by
  simp only[aE,Option.some.injEq]at hq
  subst hq
  simp only[List.length_nil,Nat.zero_add]
  exact hK a h
 | i::is,listed,a,hq,hh,h=>by
  simp only[mm,Bool.and_eq_true,List.all_eq_true]at hh
  simp only[aE]at hq
  split at hq
  case isFalse=>cases hq
  rename_i hc
  simp only[Bool.and_eq_true]at hc
  obtain⟨⟨hr,hf⟩,hb⟩:=hc
  cases ho:ops[i]? with
  | none=>simp[ho]at hb
  | some o =>
   simp only[ho,Option.map_some,Option.getD_some]at hb
   simp only[pickOps,List.map_cons,ho,Option.getD_some]at h
   obtain⟨v,hy,hn⟩:=gq (K:=wpQuiet P ops (jr B w) K (pickOps ops is)) hb h
   have:=jC hs hK is _ _ hq hh.2 hn
   rw[List.length_cons,Nat.add_right_comm]
   exact Il ho (Region.noSelect_spec hs) _ listed a w (Region.free_spec ho hf) (λL hL=>holds_of (hh.1 L hL)) (by simpa using hr) hy this
theorem jD {B:Nat} {Ls:List Nat} {Q:Act->World->Prop} (hs:Region.noSelect ops=true) {w:World} {K:Act->Prop} {fuel:Nat} {l':Array Bool} (hK:∀a,K a->ef P ops B Ls Q fuel l' a w) :
  ∀(is:List Nat) (listed:Array Bool) (a:Act),aE ops is listed=some l'->wpQuiet P ops (jr 0 w) K (pickOps ops is) a->ef P ops B Ls Q (is.length+fuel) listed a w
 | [],listed,a,hq,h=>by
  simp only[aE,Option.some.injEq]at hq
  subst hq
  simp only[List.length_nil,Nat.zero_add]
  exact hK a h
 | i::is,listed,a,hq,h=>by
  simp only[aE]at hq
  split at hq
  case isFalse=>cases hq
  rename_i hc
  simp only[Bool.and_eq_true]at hc
  obtain⟨⟨hr,hf⟩,hb⟩:=hc
  cases ho:ops[i]? with
  | none=>simp[ho]at hb
  | some o =>
   simp only[ho,Option.map_some,Option.getD_some]at hb
   simp only[pickOps,List.map_cons,ho,Option.getD_some]at h
   obtain⟨v,hy,hn⟩:=gq (K:=wpQuiet P ops (jr 0 w) K (pickOps ops is)) hb h
   have:=jD hs hK is _ _ hq hn
   rw[List.length_cons,Nat.add_right_comm]
   exact Im ho (Region.noSelect_spec hs) _ listed a w (Region.free_spec ho hf) (by simpa using hr) hy this
def aX (P:Program) (ops:Array Oper) (B:Nat) (Q:Act->World->Prop):List (Nat × List Oper)->Act->World->Prop
 | [],a,w=>Q a w
 | (0,l)::r,a,w=>wpQuiet P ops (jr B w) (λa'=>aX P ops B Q r a' w) l a
 | (1,l)::r,a,w=>wpList P ops (Exit.then (λa' W'=>Below B w W'/\aX P ops B Q r a' W') Bot) l a w
 | (2,l)::r,a,w=>wpList P ops (Exit.then (λa' W'=>Below 0 w W'/\aX P ops B Q r a' W') Bot) l a w
 | (_+3,l)::r,a,w=>wpQuiet P ops (jr 0 w) (λa'=>aX P ops B Q r a' w) l a
theorem st_quiet {B:Nat} {Q:Act->World->Prop} {l:List Oper} {r:List (Nat × List Oper)} {a:Act} {w:World} (h:wpQuiet P ops (jr B w) (λa'=>aX P ops B Q r a' w) l a):aX P ops B Q ((0,l)::r) a w:=h
theorem st_pure {B:Nat} {Q:Act->World->Prop} {l:List Oper} {r:List (Nat × List Oper)} {a:Act} {w:World} (h:wpQuiet P ops (jr 0 w) (λa'=>aX P ops B Q r a' w) l a):aX P ops B Q ((3,l)::r) a w:=h
theorem st_free {B:Nat} {Q:Act->World->Prop} {l:List Oper} {r:List (Nat × List Oper)} {a:Act} {w:World} (h:wpList P ops (Exit.then (λa' W'=>Below 0 w W'/\aX P ops B Q r a' W') Bot) l a w):aX P ops B Q ((2,l)::r) a w:=h
theorem st_done {B:Nat} {Q:Act->World->Prop} {a:Act} {w:World} (h:Q a w):aX P ops B Q [] a w:=h
def st7 (ops:Array Oper) (Ls:List Nat):List (Nat × List Nat)->Array Bool->Bool
 | [],l=>(Region.ready .any ops l).isEmpty
 | (0,is)::r,l=>match aE ops is l with|some l'=>mm ops Ls is l && st7 ops Ls r l'|none=>false
 | (3,is)::r,l=>match aE ops is l with|some l'=>st7 ops Ls r l'|none=>false
 | (1,[i])::r,l=>(Region.ready .any ops l == [i]) && (ops[i]?).isSome && st7 ops Ls r (l.setIfInBounds i true)
 | (2,[i])::r,l=>Ls.contains i && (Region.ready .any ops l == [i]) && (ops[i]?).isSome && st7 ops Ls r (l.setIfInBounds i true)
 | _,_=>false
def ok7 (ops:Array Oper) (Ls:List Nat) (p:List (Nat × List Nat)):Bool:=Region.noSelect ops && st7 ops Ls p (Array.replicate ops.size false) && (CS p == ops.size)
theorem fy {B:Nat} {Ls:List Nat} {Q:Act->World->Prop} (hs:Region.noSelect ops=true):∀(p:List (Nat × List Nat)) (listed:Array Bool) (a:Act) (w:World),
  st7 ops Ls p listed=true->aX P ops B Q (p.map λx=>(x.1,pickOps ops x.2)) a w->ef P ops B Ls Q (CS p) listed a w
 | [],listed,a,w,hB,h=>by
  simp only[st7,List.isEmpty_iff]at hB
  exact⟨hB,h⟩
 | (0,is)::r,listed,a,w,hB,h=>by
  simp only[st7]at hB
  cases hq:aE ops is listed with
  | none=>simp[hq]at hB
  | some l' =>
   simp only[hq,Bool.and_eq_true]at hB
   simp only[List.map_cons,aX]at h
   exact jC hs (λa' ha'=>fy hs r l' a' w hB.2 ha') is listed a hq hB.1 h
 | (3,is)::r,listed,a,w,hB,h=>by
  simp only[st7]at hB
  cases hq:aE ops is listed with
  | none=>simp[hq]at hB
  | some l' =>
   simp only[hq]at hB
   simp only[List.map_cons,aX]at h
   exact jD hs (λa' ha'=>fy hs r l' a' w hB ha') is listed a hq h
 | (1,[i])::r,listed,a,w,hB,h=>by
  simp only[st7,Bool.and_eq_true,beq_iff_eq]at hB
  obtain⟨⟨hr,ho⟩,hB⟩:=hB
  obtain⟨oi,ho⟩:=Option.isSome_iff_exists.1 ho
  simp only[List.map_cons,List.map_nil,aX,pickOps,ho,Option.getD_some]at h
  show ef P ops B Ls Q (1+CS r) listed a w
  rw[Nat.add_comm]
  refine⟨λh0=>(by rw[hr]at h0;cases h0),λj hj=>?_⟩
  rw[hr]at hj
  simp only[List.mem_singleton]at hj
  subst hj
  exact qu ho h λa' W' hg=>⟨.inr hg.1,fy hs r _ a' W' hB hg.2⟩
 | (2,[i])::r,listed,a,w,hB,h=>by
  simp only[st7,Bool.and_eq_true,beq_iff_eq,List.contains_iff_mem]at hB
  obtain⟨⟨⟨hL,hr⟩,ho⟩,hB⟩:=hB
  obtain⟨oi,ho⟩:=Option.isSome_iff_exists.1 ho
  simp only[List.map_cons,List.map_nil,aX,pickOps,ho,Option.getD_some]at h
  show ef P ops B Ls Q (1+CS r) listed a w
  rw[Nat.add_comm]
  refine⟨λh0=>(by rw[hr]at h0;cases h0),λj hj=>?_⟩
  rw[hr]at hj
  simp only[List.mem_singleton]at hj
  subst hj
  exact qu ho h λa' W' hg=>⟨.inl ⟨hL,hg.1⟩,fy hs r _ a' W' hB hg.2⟩
 | (1,[])::r,listed,a,w,hB,h=>by simp[st7]at hB
 | (1,_::_::_)::r,listed,a,w,hB,h=>by simp[st7]at hB
 | (2,[])::r,listed,a,w,hB,h=>by simp[st7]at hB
 | (2,_::_::_)::r,listed,a,w,hB,h=>by simp[st7]at hB
 | (n+4,_)::r,listed,a,w,hB,h=>by simp[st7]at hB
theorem oM (B:Nat) (Ls:List Nat) (R:Act->World->Prop) {id:Nat} {Q:Exit->Act->World->Prop} {a:Act} {w:World} {l:List Oper} (p:List (Nat × List Nat)) (p':List (Nat × List Oper)) (hm:P.follows .mixedOrders=true) (hB:ok7 l.toArray Ls p=true)
  (hp:(p.map λx=>(x.1,pickOps l.toArray x.2))=p') (h0:∀wd,Below w.heap.size w wd->wd.heap.size=w.heap.size->aX P l.toArray B R p' a wd) (hR:∀a w,R a w->Q .normal a w):(Code.region id l.toArray true).wp P Q a w:=by
 subst hp
 unfold ok7 at hB
 simp only[Bool.and_eq_true,beq_iff_eq]at hB
 obtain⟨⟨h1,h3⟩,h4⟩:=hB
 refine wp_region_any hm ?_
 have:=fy (P:=P) (Q:=R) (B:=B) (Ls:=Ls) h1 p _ a w.drew h3 (h0 _ (Below.refl _ _).drew rfl)
 rw[h4]at this
 exact ef.sound hR _ _ a w.drew this
theorem p0 (B:Nat) (Ls:List Nat) (R:Act->World->Prop) {id:Nat} {Q:Exit->Act->World->Prop} {a:Act} {w:World} {l:List Oper} (p:List (Nat × List Nat)) {p':List (Nat × List Oper)} (h0:∀wd,Below w.heap.size w wd->wd.heap.size=w.heap.size->aX P l.toArray B R p' a wd) (hR:∀a w,R a w->Q .normal a w) (hm:P.follows .mixedOrders=true:=by kernel_rfl) (hB:ok7 l.toArray Ls p=true:=by kernel_rfl) (hp:(p.map λx=>(x.1,pickOps l.toArray x.2))=p':=by simp only[List.map_cons,List.map_nil,Rg.pickOps,List.getElem?_toArray,List.getElem?_cons_zero,List.getElem?_cons_succ,Option.getD_some];rfl):(Code.region id l.toArray true).wp P Q a w:=oM B Ls R p p' hm hB hp h0 hR
end
end Go.Proofs.YtfcbghmbbjolcaaGreatDoor.Rs
