/- Rows of terms in memory: read, owned; blocks of a type that -/
import Derived.Test.YtoaemihcbmlkgaaGreatDoorJMn1
namespace Go.Proofs.YtoaemihcbmlkgaaGreatDoor
open Go Go.RowKit Fm
theorem tm1 (l:List Tm):∀u∈l.flatMap tmC,u.oneCell'=true:=by
 intro u hu
 obtain⟨t,_,ht⟩:=List.mem_flatMap.1 hu
 simp only[tmC,List.mem_cons,List.not_mem_nil,or_false]at ht
 rcases ht with rfl|rfl|rfl|rfl<;>rfl
theorem tm_len (l:List Tm):(l.flatMap tmC).length=l.length*4:=by
 induction l with
 | nil=>rfl
 | cons a r ih=>simp[List.flatMap_cons,ih,tmC,Nat.add_mul]
theorem RdTs.flat {w:World} {A:Option Addr} {l:List Tm} (h:RdTs w A l):Rd w A (l.flatMap tmC):=by
 obtain⟨xs,h1,h2⟩:=h
 rw[←h2.flat];exact h1
theorem RdTs.of {w:World} {A:Option Addr} {l:List Tm} (h:Rd w A (l.flatMap tmC)):RdTs w A l:=⟨_,h,All.of_flat l λ_ _=>rfl⟩
def RdRow (w:World) (cs:List Value) (row:List Tm):Prop:=∃A c,cs=[.slice A row.length c]/\row.length<=c/\RdTs w A row
abbrev RdRs (w:World) (A:Option Addr) (rows:List (List Tm)):Prop:=RdL 1 (RdRow w) w A rows
theorem RdRow.later {w w':World} {cs:List Value} {row:List Tm} (h:RdRow w cs row) (hb:Below w.heap.size w w'):RdRow w' cs row:=by
 obtain⟨A,c,h1,h2,h3⟩:=h
 exact⟨A,c,h1,h2,h3.later hb⟩
theorem RdRs.later {w w':World} {A:Option Addr} {rows:List (List Tm)} (h:RdRs w A rows) (hb:Below w.heap.size w w'):RdRs w' A rows:=RdL.mono h hb λ_ _ _ h=>h.later hb
theorem RdRs.at1 {w:World} {A:Option Addr} {rows:List (List Tm)} (h:RdRs w A rows) {j:Nat} {row:List Tm} (hj:rows[j]?=some row) :
  ∃g o A' c',A=some ⟨g,o,none⟩/\w.cell? ⟨g,o+j,none⟩=some (.slice A' row.length c')/\row.length<=c'/\RdTs w A' row:=by
 obtain⟨g,o,cs,hA,_,⟨A',c',rfl,h2,h3⟩,hx⟩:=RdL.at_ h (by omega) hj
 have:=hx 0 _ rfl
 rw[Nat.mul_one,Nat.add_zero]at this
 exact⟨g,o,A',c',hA,this,h2,h3⟩
theorem RdL.take {α:Type} {sz:Nat} {R:List Value->α->Prop} {w:World} {A:Option Addr} {l:List α} (h:RdL sz R w A l) (k:Nat):RdL sz R w A (l.take k):=by
 obtain⟨xs,h1,h2⟩:=h
 exact⟨_,h1.take _,h2.take k⟩
def KeepT (e:TypeId) (w w':World):Prop:=∀(g:Nat) (cur:Array Value) (fr:Nat × Nat),w.heap[g]?=some (Obj.cells cur e fr)->w'.heap[g]?=some (Obj.cells cur e fr)
theorem KeepT.refl (e:TypeId) (w:World):KeepT e w w:=λ_ _ _ h=>h
theorem KeepT.trans {e:TypeId} {a b c:World} (h:KeepT e a b) (k:KeepT e b c):KeepT e a c:=λg cur fr x=>k g cur fr (h g cur fr x)
theorem KeepT.below {e:TypeId} {w w':World} (h:Below w.heap.size w w'):KeepT e w w':=λg cur fr x=>by
 rw[h.block g (Array.getElem?_eq_some_iff.1 x).1];exact x
theorem KeepT.setCell {e T:TypeId} {w:World} {b i:Nat} {v:Value} {cur:Array Value} {fr:Nat × Nat} (hb:w.heap[b]?=some (.cells cur T fr)) (hT:T≠e):KeepT e w (w.setCell ⟨b,i,none⟩ v):=λg c f x=>by
 have hne:g≠b:=λh=>by
  subst h
  rw[hb]at x
  injection x with x;injection x with _ x _;exact hT x
 rw[Below.heap_setCell w ⟨b,i,none⟩ v g (λh=>hne h)];exact x
theorem KeepT.grown {e T:TypeId} {w w':World} {row:Option Nat} (h:w.grownBy w' row) (hr:∀b,row=some b->∃cur fr,w.heap[b]?=some (.cells cur T fr)) (hT:T≠e):KeepT e w w':=λg c f x=>by
 have hlt:=(Array.getElem?_eq_some_iff.1 x).1
 rw[h.block g hlt (λh2=>by
  obtain⟨cur,fr,hc⟩:=hr g h2.symm
  rw[hc]at x
  injection x with x;injection x with _ x _;exact hT x)]
 exact x
theorem own_keep {w w':World} {base:Nat} {e:TypeId} {size n:Nat} {v:Value} {xs:List Value} (h:w.ownsRow base e size v n xs) (hk:KeepT e w w'):w'.ownsRow base e size v n xs:=by
 refine⟨h.1,?_⟩
 rcases h.2 with h0|⟨g,cap,cur,hv,hg,hh,r⟩
 ·exact .inl h0
 ·exact .inr ⟨g,cap,cur,hv,hg,hk g cur _ hh,r⟩
theorem own_lower {w:World} {base base':Nat} {e:TypeId} {size n:Nat} {v:Value} {xs:List Value} (h:w.ownsRow base e size v n xs) (hb:base'<=base):w.ownsRow base' e size v n xs:=by
 refine⟨h.1,?_⟩
 rcases h.2 with h0|⟨g,cap,cur,hv,hg,r⟩
 ·exact .inl h0
 ·exact .inr ⟨g,cap,cur,hv,Nat.le_trans hb hg,r⟩
theorem own_blockR {w:World} {base:Nat} {e:TypeId} {size n:Nat} {v:Value} {xs:List Value} (h:w.ownsRow base e size v n xs):∀b,v.ownBlock=some b->∃cur fr,w.heap[b]?=some (.cells cur e fr):=by
 intro b hb
 rcases h.2 with ⟨rfl,_⟩|⟨g,cap,cur,rfl,hg,hh,r⟩
 ·cases hb
 ·have:g=b:=by simpa[Value.ownBlock] using hb
  subst this
  exact⟨cur,_,hh⟩
def OwnRow (base:Nat) (w:World) (cs:List Value) (row:List Tm):Prop:=∃v,cs=[v]/\w.ownsRow base 26 4 v row.length (row.flatMap tmC)
def OwnRs (base:Nat) (w:World) (v:Value) (rows:List (List Tm)):Prop:=∃xs,w.ownsRow base 36 1 v rows.length xs/\All 1 (OwnRow base w) xs rows
theorem OwnRow.rd {base:Nat} {w:World} {cs:List Value} {row:List Tm} (h:OwnRow base w cs row):RdRow w cs row:=by
 obtain⟨v,rfl,h⟩:=h
 obtain⟨A,c,rfl,h1,h2⟩:=own_slice h
 exact⟨A,c,rfl,h1,.of h2⟩
theorem OwnRow.keep {base:Nat} {w w':World} {cs:List Value} {row:List Tm} (h:OwnRow base w cs row) (hk:KeepT 26 w w'):OwnRow base w' cs row:=by
 obtain⟨v,h1,h2⟩:=h
 exact⟨v,h1,own_keep h2 hk⟩
theorem OwnRs.keep {base:Nat} {w w':World} {v:Value} {rows:List (List Tm)} (h:OwnRs base w v rows) (hk:KeepT 26 w w') (hk2:KeepT 36 w w'):OwnRs base w' v rows:=by
 obtain⟨xs,h1,h2⟩:=h
 exact⟨xs,own_keep h1 hk2,h2.mono λ_ _ _ h=>h.keep hk⟩
theorem OwnRs.rd {base:Nat} {w:World} {v:Value} {rows:List (List Tm)} (h:OwnRs base w v rows):∃A c,v=.slice A rows.length c/\rows.length<=c/\RdRs w A rows:=by
 obtain⟨xs,h1,h2⟩:=h
 obtain⟨A,c,rfl,h3,h4⟩:=own_slice h1
 exact⟨A,c,rfl,h3,xs,h4,h2.mono λ_ _ _ h=>h.rd⟩
theorem OwnRs.nil (base:Nat) (w:World):OwnRs base w (.slice none 0 0) []:=⟨[],World.ownsRow_nil _ _ _ _,rfl⟩
open Go.Maps Go.ChangeMaps Um Mt Tx Om Mv Mn
def dels (β:Bd) (l:List ByteArray):Bd:=l.foldl delB β
theorem dels_in:∀{l:List ByteArray} {β:Bd} {s:ByteArray},s∈l->dels β l s=none
 | [],_,_,h=>by simp at h
 | a::l,β,s,h=>by
  show dels (delB β a) l s=none
  by_cases hm:s∈l
  ·exact dels_in hm
  ·have e:s=a:=by
    rw[List.mem_cons]at h
    exact h.elim id λk=>absurd k hm
   have:∀(l:List ByteArray) (γ:Bd),γ s=none->dels γ l s=none:=by
    intro l
    induction l with
    | nil=>intro γ h;exact h
    | cons b l ih=>intro γ h;exact ih (delB γ b) (by unfold delB;split<;>first|rfl|exact h)
   exact this l _ (by unfold delB;rw[if_pos e])
theorem dels_out:∀{l:List ByteArray} {β:Bd} {s:ByteArray},s ∉ l->dels β l s=β s
 | [],_,_,_=>rfl
 | a::l,β,s,h=>by
  rw[List.mem_cons,_root_.not_or]at h
  show dels (delB β a) l s=β s
  rw[dels_out h.2]
  unfold delB;rw[if_neg h.1]
theorem dels_snoc (β:Bd) (l:List ByteArray) (s:ByteArray):dels β (l++[s])=delB (dels β l) s:=by unfold dels;rw[List.foldl_append];rfl
theorem fd_cell {w:World} {r:Nat} {f:Fmv} (h:FdOf w r f) (p:Addr) (hp:p.block=r):w.cell? p=none:=by
 obtain⟨es,c,h,_⟩:=h
 rw[World.cell?,hp,h]
theorem Rd.grownM {w w':World} {r:Nat} {f:Fmv} (hM:FdOf w r f) {A:Option Addr} {xs:List Value} (hr:Rd w A xs) (hg:w.grownBy w' (some r)):Rd w' A xs:=by
 rcases hr with h|⟨g,o,hA,hx⟩
 ·exact .inl h
 ·refine .inr ⟨g,o,hA,λj u hu=>?_⟩
  have hc:=hx j u hu
  have hne:g≠r:=λe=>by
   have:=fd_cell hM ⟨g,o+j,none⟩ e
   rw[hc]at this;cases this
  rw[World.cell?,hg.block g (cell_lt hc) (λe=>hne (by injection e))];exact hc
theorem cell_grownM {w w':World} {r:Nat} {f:Fmv} (hM:FdOf w r f) {p:Addr} {u:Value} (hc:w.cell? p=some u) (hg:w.grownBy w' (some r)):w'.cell? p=some u:=by
 have hne:p.block≠r:=λe=>by
  have:=fd_cell hM p e
  rw[hc]at this;cases this
 rw[World.cell?,hg.block p.block (cell_lt hc) (λe=>hne (by injection e))];exact hc
def LooseR (r:Nat) (β:Bd) (l:List ByteArray) (w:World) (e:Ending) (w':World):Prop:=(∃v,e=.returned v)/\FdOf w' r (encB (dels β l))/\w.grownBy w' (some r)
def LooseL (r:Nat) (β:Bd) (l:List ByteArray) (w:World) (i:Value) (wr:World):Prop:=∃k:Nat,k<=l.length/\i=.int .i64 k/\FdOf wr r (encB (dels β (l.take k)))/\w.grownBy wr (some r)/\wr.cell? ⟨w.heap.size,0,none⟩=some (.map (some r))
set_option maxHeartbeats 4000000 in
set_option maxRecDepth 100000 in
theorem mLoose (r:Nat) (β:Bd) (l:List ByteArray) (A:Option Addr) (c n:Nat) (w:World) (hn:l.length=n) (hl:n<=1000000) (hM:FdOf w r (encB β)) (hr:Rd w A (l.map Value.string)) :
  Calls Tryz.prog 85 #[.agg #[.map (some r)],.slice A n c] w (LooseR r β l w):=by
 have hB0:Below w.heap.size w (w.alloc (.cells #[.map (some r)] 70)):=blw
 have c0:(w.alloc (.cells #[.map (some r)] 70)).cell? ⟨w.heap.size,0,none⟩=some (.map (some r)):=by rw[World.cell?,heap_alloc_new];rfl
 have hn':(n:Int)<=1000000:=by omega
 go_enter Tryz.func85,Tryz.ntmps85
 go_wp2
 go_loopw [5,8] (λs i wr=>LooseL r β l w i wr) (λ_ i _=>n-(intOf i).toNat)
 case atStart=>exact⟨0,by omega,rfl,hM.on hB0,grown_below hB0,c0⟩
 case round =>
  obtain⟨k,hk,rfl,hMk,hg,hc⟩:=hrel
  have HM:=Lib.hid hM
  clear hB0 c0 hM
  by_cases hlt:k<n
  ·obtain⟨s,hs⟩:∃s,l[k]?=some s:=⟨_,List.getElem?_eq_getElem (by omega)⟩
   obtain⟨g,o,rfl,hx⟩:=(Rd.grownM HM.out hr hg).at_ (j:=k) (u:=.string s) (by rw[List.getElem?_map,hs];rfl)
   have Hs:Hid (dels β (l.take (k+1))=delB (dels β (l.take k)) s):=by show _=_;rw[take_snoc_of hs,dels_snoc]
   have HMk:=Lib.hid hMk
   have HG:=Lib.hid hg
   have HC:=Lib.hid hc
   have HN:=Lib.hid (And.intro hn hs)
   clear hs hr hn hg hMk
   go_wp2_with (first
    | (at_delete;refine wpList_del_fd rfl _ _ _ _ rfl bMapT bMapK rfl HMk.out _ rfl ?_;intro w4 hM4 hg4)
    | fail)
   go_roundw
   case rel=>exact⟨k+1,by have:=HN.out.1;omega,by go_num,by rw[Hs.out,←enc_del];exact hM4,grown_tr HG.out hg4,cell_grownM HMk.out HC.out hg4⟩
   case measure=>simp[intOf];omega
  ·have hk2:l.take k=l:=List.take_of_length_le (by omega)
   rw[hk2]at hMk
   go_wp2
   go_end0
   exact⟨⟨_,rfl⟩,hMk,hg⟩
def bL (β:Bd):List (Sl × Tm)->Option Bd
 | []=>some β
 | a::l=>(b1 β a.1 a.2).bind λβ=>bL β l
theorem bL_snoc:∀(l:List (Sl × Tm)) (β:Bd) (a:Sl × Tm),bL β (l++[a])=(bL β l).bind λβ=>b1 β a.1 a.2
 | [],β,a=>by show (b1 β a.1 a.2).bind (λβ=>bL β [])=b1 β a.1 a.2;cases b1 β a.1 a.2<;>rfl
 | b::l,β,a=>by
  rw[List.cons_append,bL,bL]
  cases b1 β b.1 b.2 with
  | none=>rfl
  | some γ=>exact bL_snoc l γ a
def placesP (p:Pat) (t:Tp):List (Sl × Tm):=[(p.s,t.s),(p.p,t.p),(p.o,t.o)]
theorem bL_b3 (β:Bd) (p:Pat) (t:Tp):bL β (placesP p t)=b3 β p t:=by
 unfold placesP b3
 simp only[bL]
 cases b1 β p.s t.s with
 | none=>rfl
 | some a =>
  simp only[Option.bind_some]
  cases b1 a p.p t.p with
  | none=>rfl
  | some b=>simp only[Option.bind_some];cases b1 b p.o t.o<;>rfl
theorem bL_none {β:Bd} {l:List (Sl × Tm)} {k:Nat} (h:bL β (l.take k)=none):bL β l=none:=by
 rw[←List.take_append_drop k l]
 have key:∀(m a:List (Sl × Tm)) (γ:Bd),bL γ a=none->bL γ (a++m)=none:=by
  intro m a
  induction a with
  | nil=>intro γ h;cases h
  | cons x a ih =>
   intro γ h
   rw[List.cons_append,bL]
   rw[bL]at h
   cases hb:b1 γ x.1 x.2 with
   | none=>rfl
   | some δ=>rw[hb]at h;exact ih δ h
 exact key _ _ _ h
def Undo (β γ:Bd) (fr:List ByteArray):Prop:=dels γ fr=β
theorem undo_set {β γ:Bd} {fr:List ByteArray} {x:Sl} {t:Tm} (h:Undo β γ fr) (hf:freshB γ x=true):∀γ',b1 γ x t=some γ'->Undo β γ' (fr++[x.v]):=by
 intro γ' hb
 unfold freshB at hf
 rw[Bool.and_eq_true]at hf
 have he:x.v.toList.isEmpty=false:=by simpa using hf.1
 have hn:γ x.v=none:=by simpa using hf.2
 unfold b1 at hb
 rw[he,hn]at hb
 simp only[Bool.false_eq_true,if_false]at hb
 injection hb with hb
 unfold Undo at h ⊢
 rw[dels_snoc,←h]
 funext s
 unfold delB
 by_cases e:s=x.v
 ·rw[if_pos e,e]
  by_cases hm:x.v∈fr
  ·rw[dels_in hm]
  ·rw[dels_out hm,hn]
 ·rw[if_neg e]
  by_cases hm:s∈fr
  ·rw[dels_in hm,dels_in hm]
  ·rw[dels_out hm,dels_out hm,←hb];unfold setB;rw[if_neg e]
theorem b1_old {γ γ':Bd} {x:Sl} {t:Tm} (hf:freshB γ x=false) (hb:b1 γ x t=some γ'):γ'=γ:=by
 unfold freshB at hf
 unfold b1 at hb
 by_cases he:x.v.toList.isEmpty=true
 ·rw[if_pos he]at hb
  split at hb
  ·injection hb with hb;exact hb.symm
  ·cases hb
 ·rw[if_neg he]at hb
  have he2:x.v.toList.isEmpty=false:=by simpa using he
  rw[he2]at hf
  cases hn:γ x.v with
  | none=>rw[hn]at hf;simp at hf
  | some o =>
   rw[hn]at hb
   simp only at hb
   split at hb
   ·injection hb with hb;exact hb.symm
   ·cases hb
end Go.Proofs.YtoaemihcbmlkgaaGreatDoor
namespace Go.Proofs.YtoaemihcbmlkgaaGreatDoor.Rl
open Go Go.Sort Go.RowKit Rg Rh Rf
section
variable {P:Program} {ops:Array Oper}
theorem last_step {j:Nat} {o:Oper} (ho:ops[j]?=some o) {G X:Act->World->Prop} {a:Act} {w:World}
  (h:wpList P ops (Exit.then G Bot) [o] a w) (hx:∀a' W',G a' W'->X a' W'):wpOp P ops Bot j X a w:=by
 unfold wpOp
 simp only[ho]
 have next:∀a' W',wpList P ops (Exit.then G Bot) [] a' W'->X a' W':=λa' W' hh=>hx a' W' hh
 simp only[wpList]at h
 split at h
 ·rename_i hw
  rw[if_pos hw]
  rcases h with h|h
  ·left
   exact upon_exit (λc a w h=>h) (λh=>h) (Oper.wp_mono next h)
  ·obtain⟨_,hl⟩:=h
   obtain⟨_,_,hf⟩:=hl
   exact hf.elim
 ·rename_i hw
  rw[if_neg hw]
  exact next _ _ h
end
end Go.Proofs.YtoaemihcbmlkgaaGreatDoor.Rl
namespace Go.Proofs.YtoaemihcbmlkgaaGreatDoor.Rn
open Go Go.Sort Go.RowKit Rg Rh Rf Rl
section
variable {P:Program} {ops:Array Oper}
def behind (ops:Array Oper) (i:Nat):List Nat:=(List.range ops.size).foldl (λS k=>match ops[k]? with
 | none=>S
 | some o=>if o.after.any λe=>Region.binds .any e && S.contains e.on then k::S else S) [i]
def BehindOK (ops:Array Oper) (i:Nat) (S:List Nat):Prop:=∀k∈S,k=i∨∃(o:Oper) (e:Edge),ops[k]?=some o/\e∈o.after/\Region.binds .any e=true/\e.on∈S
theorem behind_ok (i:Nat):BehindOK ops i (behind ops i):=by
 unfold behind
 suffices h:∀(l:List Nat) (S:List Nat),BehindOK ops i S->BehindOK ops i (l.foldl (λS k=>match ops[k]? with
   | none=>S
   | some o=>if o.after.any λe=>Region.binds .any e && S.contains e.on then k::S else S) S) from
  h _ _ (λk hk=>.inl (by simpa using hk))
 intro l
 induction l with
 | nil=>exact λS h=>h
 | cons k l ih =>
  intro S h
  rw[List.foldl_cons]
  refine ih _ ?_
  split
  ·exact h
  ·rename_i o ho
   split
   ·rename_i hany
    obtain⟨e,he,hb⟩:=Array.any_eq_true'.1 hany
    rw[Bool.and_eq_true]at hb
    have hm:e.on∈S:=by simpa using hb.2
    intro k' hk'
    rcases List.mem_cons.1 hk' with rfl|hk'
    ·exact .inr ⟨o,e,ho,he,hb.1,List.mem_cons_of_mem _ hm⟩
    ·rcases h k' hk' with h1|⟨o',e',h1,h2,h3,h4⟩
     ·exact .inl h1
     ·exact .inr ⟨o',e',h1,h2,h3,List.mem_cons_of_mem _ h4⟩
   ·exact h
def Holds (ops:Array Oper) (L i:Nat) (listed:Array Bool):Prop:=listed.getD L true=true∨∃S,BehindOK ops i S/\L∈S/\L≠i/\∀k∈S,listed.getD k true=false
def holdsB (ops:Array Oper) (L i:Nat) (listed:Array Bool):Bool:=listed.getD L true || ((behind ops i).contains L && L != i && (behind ops i).all λk => !listed.getD k true)
theorem holds_of {L i:Nat} {listed:Array Bool} (h:holdsB ops L i listed=true):Holds ops L i listed:=by
 unfold holdsB at h
 simp only[Bool.or_eq_true,Bool.and_eq_true,bne_iff_ne,ne_eq,List.all_eq_true,Bool.not_eq_true',List.contains_iff_mem]at h
 rcases h with h|⟨⟨h1,h2⟩,h3⟩
 ·exact .inl h
 ·exact .inr ⟨_,behind_ok i,h1,h2,h3⟩
theorem Holds.open_ {L i j:Nat} {listed:Array Bool} (h:Holds ops L i listed) (_hji:j≠i) (hj:j∈Region.ready .any ops listed):j≠L:=by
 obtain⟨hjun,oj,hoj,hall⟩:=mem_ready.1 hj
 rcases h with h|⟨S,hS,hL,hLi,hun⟩
 ·rintro rfl;rw[hjun]at h;cases h
 ·rintro rfl
  rcases hS _ hL with h|⟨o,e,ho,he,hb,hm⟩
  ·exact hLi h
  ·rw[hoj]at ho;injection ho with ho;subst ho
   have:=hun _ hm
   rcases Nat.lt_or_ge e.on listed.size with h'|h'
   ·have h1:=hall e he hb
    simp[h']at h1 this;rw[h1]at this;cases this
   ·simp[Array.getElem?_eq_none h']at this
theorem Holds.set {L i j:Nat} {listed:Array Bool} (h:Holds ops L i listed) (hji:j≠i) (hj:j∈Region.ready .any ops listed):Holds ops L i (listed.setIfInBounds j true):=by
 obtain⟨hjun,oj,hoj,hall⟩:=mem_ready.1 hj
 rcases h with h|⟨S,hS,hL,hLi,hun⟩
 ·refine .inl ?_
  by_cases hjL:j=L
  ·subst hjL;rw[hjun]at h;cases h
  ·rw[getD_set_ne true hjL];exact h
 ·refine .inr ⟨S,hS,hL,hLi,λk hk=>?_⟩
  have hjS:j ∉ S:=λhm=>by
   rcases hS _ hm with h|⟨o,e,ho,he,hb,hm⟩
   ·exact hji h
   ·rw[hoj]at ho;injection ho with ho;subst ho
    have:=hun _ hm
    rcases Nat.lt_or_ge e.on listed.size with h'|h'
    ·have h1:=hall e he hb
     simp[h']at h1 this;rw[h1]at this;cases this
    ·simp[Array.getElem?_eq_none h']at this
  have hne:j≠k:=λe=>hjS (e ▸ hk)
  rw[getD_set_ne true hne];exact hun k hk
def len5:List (Nat × List Nat)->Nat
 | []=>0
 | x::r=>x.2.length+len5 r
end
end Go.Proofs.YtoaemihcbmlkgaaGreatDoor.Rn
namespace Go.Proofs.YtoaemihcbmlkgaaGreatDoor.Rs
open Go Go.Sort Go.RowKit Rg Rh Rf Rl Rn
section
variable {P:Program} {ops:Array Oper}
def AnyLs (P:Program) (ops:Array Oper) (B:Nat) (Ls:List Nat) (Q:Act->World->Prop):Nat->Array Bool->Act->World->Prop
 | 0,listed,a,w=>Region.ready .any ops listed=[]/\Q a w
 | fuel+1,listed,a,w=>(Region.ready .any ops listed=[]->Q a w) /\
   ∀i∈Region.ready .any ops listed,wpOp P ops Bot i (λa' W'=>(i∈Ls/\Below 0 w W'∨Below B w W')/\AnyLs P ops B Ls Q fuel (listed.setIfInBounds i true) a' W') a w
theorem AnyLs.sound {B:Nat} {Ls:List Nat} {Q:Act->World->Prop} {Q':Exit->Act->World->Prop} (hQ:∀a w,Q a w->Q' .normal a w):∀(fuel:Nat) (listed:Array Bool) (a:Act) (w:World),
  AnyLs P ops B Ls Q fuel listed a w->wpAny P .any ops Q' fuel listed a w
 | 0,_,_,_,h=>⟨h.1,hQ _ _ h.2⟩
 | fuel+1,_,a,w,h=>by
  obtain⟨h0,h1⟩:=h
  exact⟨λe=>hQ _ _ (h0 e),λi hi=>wpOp_bot (wpOp_mono (λa' W' h2=>AnyLs.sound hQ fuel _ a' W' h2.2) (h1 i hi))⟩
theorem firstS {B:Nat} {Ls:List Nat} {Q:Act->World->Prop} {i:Nat} {oi:Oper} {v:Value} (hi:ops[i]?=some oi) (hsel:∀(j:Nat) (o:Oper) cs b,ops[j]?=some o->o.op≠.select cs b) :
  ∀(fuel:Nat) (listed:Array Bool) (a:Act) (w:World),
   (∀j oj,ops[j]?=some oj->j≠i->listed.getD j true=false->(∀e∈oj.after,Region.binds .any e=true->e.on≠i)->oi.apart ops oj=true) ->
   (∀L∈Ls,Holds ops L i listed)->i∈Region.ready .any ops listed->YB P ops B oi v a w ->
   AnyLs P ops B Ls Q fuel (listed.setIfInBounds i true) (a.put oi.dst v) w->AnyLs P ops B Ls Q (fuel+1) listed a w:=by
 intro fuel
 induction fuel with
 | zero =>
  intro listed a w _ _ hr hy H
  refine⟨λh=>(by rw[h]at hr;cases hr),λj hj=>?_⟩
  by_cases hji:j=i
  ·subst hji;exact hy.wpOp hi ⟨.inr (Below.refl _ _),H⟩
  ·have:=ready_mono hj hji
   rw[H.1]at this
   cases this
 | succ fuel ih =>
  intro listed a w hfree hho hr hy H
  refine⟨λh=>(by rw[h]at hr;cases hr),λj hj=>?_⟩
  by_cases hji:j=i
  ·subst hji;exact hy.wpOp hi ⟨.inr (Below.refl _ _),H⟩
  ·have hjL:j ∉ Ls:=λhm=>(hho j hm).open_ hji hj rfl
   have h1:=H.2 j (ready_mono hj hji)
   obtain⟨hjun,oj,hoj,hall⟩:=mem_ready.1 hj
   have hnot:∀e∈oj.after,Region.binds .any e=true->e.on≠i:=λe he hb heq=>by
    have h1:=hall e he hb
    have h0:=(mem_ready.1 hr).1
    rw[heq]at h1
    rcases Nat.lt_or_ge i listed.size with h'|h'
    ·simp[h']at h0 h1;rw[h0]at h1;cases h1
    ·simp[Array.getElem?_eq_none h']at h1
   have h2:=wpOp_putB hoj (hfree j oj hoj hji hjun hnot) (λcs b=>hsel i oi cs b hi) (λcs b=>hsel j oj cs b hoj) hy h1
   have hfree':∀k ok,ops[k]?=some ok->k≠i->(listed.setIfInBounds j true).getD k true=false ->
     (∀e∈ok.after,Region.binds .any e=true->e.on≠i)->oi.apart ops ok=true:=λk ok hk hki hun hno=>by
    refine hfree k ok hk hki ?_ hno
    by_cases hjk:j=k
    ·subst hjk;exact hjun
    ·rw[getD_set_ne true hjk]at hun;exact hun
   refine wpOp_mono (λa' W' h3=>?_) h2
   obtain⟨hy',hb1,h4⟩:=h3
   have hb1':=hb1.resolve_left (λh=>hjL h.1)
   refine⟨hb1,ih (listed.setIfInBounds j true) a' W' hfree' (λL hL=>(hho L hL).set hji hj) (ready_mono hr (Ne.symm hji)) (hy'.later hb1') ?_⟩
   rw[Array.setIfInBounds_comm _ _ hji]
   exact h4
theorem first0 {B:Nat} {Ls:List Nat} {Q:Act->World->Prop} {i:Nat} {oi:Oper} {v:Value} (hi:ops[i]?=some oi) (hsel:∀(j:Nat) (o:Oper) cs b,ops[j]?=some o->o.op≠.select cs b) :
  ∀(fuel:Nat) (listed:Array Bool) (a:Act) (w:World),
   (∀j oj,ops[j]?=some oj->j≠i->listed.getD j true=false->(∀e∈oj.after,Region.binds .any e=true->e.on≠i)->oi.apart ops oj=true) ->
   i∈Region.ready .any ops listed->YB P ops 0 oi v a w ->
   AnyLs P ops B Ls Q fuel (listed.setIfInBounds i true) (a.put oi.dst v) w->AnyLs P ops B Ls Q (fuel+1) listed a w:=by
 intro fuel
 induction fuel with
 | zero =>
  intro listed a w _ hr hy H
  refine⟨λh=>(by rw[h]at hr;cases hr),λj hj=>?_⟩
  by_cases hji:j=i
  ·subst hji;exact hy.wpOp hi ⟨.inr (Below.refl _ _),H⟩
  ·have:=ready_mono hj hji
   rw[H.1]at this
   cases this
 | succ fuel ih =>
  intro listed a w hfree hr hy H
  refine⟨λh=>(by rw[h]at hr;cases hr),λj hj=>?_⟩
  by_cases hji:j=i
  ·subst hji;exact hy.wpOp hi ⟨.inr (Below.refl _ _),H⟩
  ·have h1:=H.2 j (ready_mono hj hji)
   obtain⟨hjun,oj,hoj,hall⟩:=mem_ready.1 hj
   have hnot:∀e∈oj.after,Region.binds .any e=true->e.on≠i:=λe he hb heq=>by
    have h1:=hall e he hb
    have h0:=(mem_ready.1 hr).1
    rw[heq]at h1
    rcases Nat.lt_or_ge i listed.size with h'|h'
    ·simp[h']at h0 h1;rw[h0]at h1;cases h1
    ·simp[Array.getElem?_eq_none h']at h1
   have h2:=wpOp_putB hoj (hfree j oj hoj hji hjun hnot) (λcs b=>hsel i oi cs b hi) (λcs b=>hsel j oj cs b hoj) hy h1
   have hfree':∀k ok,ops[k]?=some ok->k≠i->(listed.setIfInBounds j true).getD k true=false ->
     (∀e∈ok.after,Region.binds .any e=true->e.on≠i)->oi.apart ops ok=true:=λk ok hk hki hun hno=>by
    refine hfree k ok hk hki ?_ hno
    by_cases hjk:j=k
    ·subst hjk;exact hjun
    ·rw[getD_set_ne true hjk]at hun;exact hun
   refine wpOp_mono (λa' W' h3=>?_) h2
   obtain⟨hy',hb1,h4⟩:=h3
   have hb1':Below 0 w W':=hb1.elim (λh=>h.2) (λh=>h.mono (Nat.zero_le _))
   refine⟨hb1,ih (listed.setIfInBounds j true) a' W' hfree' (ready_mono hr (Ne.symm hji)) (hy'.later hb1') ?_⟩
   rw[Array.setIfInBounds_comm _ _ hji]
   exact h4
def holdSeq (ops:Array Oper) (Ls:List Nat):List Nat->Array Bool->Bool
 | [],_=>true
 | i::is,l=>(Ls.all λL=>holdsB ops L i l) && holdSeq ops Ls is (l.setIfInBounds i true)
theorem quiet_soundS {B:Nat} {Ls:List Nat} {Q:Act->World->Prop} (hs:Region.noSelect ops=true) {w:World} {K:Act->Prop} {fuel:Nat} {l':Array Bool} (hK:∀a,K a->AnyLs P ops B Ls Q fuel l' a w) :
  ∀(is:List Nat) (listed:Array Bool) (a:Act),quietSeq ops is listed=some l'->holdSeq ops Ls is listed=true->wpQuiet P ops (ClsB B w) K (pickOps ops is) a->AnyLs P ops B Ls Q (is.length+fuel) listed a w
 | [],listed,a,hq,_,h=>by
  simp only[quietSeq,Option.some.injEq]at hq
  subst hq
  simp only[List.length_nil,Nat.zero_add]
  exact hK a h
 | i::is,listed,a,hq,hh,h=>by
  simp only[holdSeq,Bool.and_eq_true,List.all_eq_true]at hh
  simp only[quietSeq]at hq
  split at hq
  case isFalse=>cases hq
  rename_i hc
  simp only[Bool.and_eq_true]at hc
  obtain⟨⟨hr,hf⟩,hb⟩:=hc
  cases ho:ops[i]? with
  | none=>simp[ho]at hb
  | some o =>
   simp only[ho,Option.map_some,Option.getD_some]at hb
   simp only[pickOps,List.map_cons,ho,Option.getD_some]at h
   obtain⟨v,hy,hn⟩:=yb_of_quiet (K:=wpQuiet P ops (ClsB B w) K (pickOps ops is)) hb h
   have:=quiet_soundS hs hK is _ _ hq hh.2 hn
   rw[List.length_cons,Nat.add_right_comm]
   exact firstS ho (Region.noSelect_spec hs) _ listed a w (Region.free_spec ho hf) (λL hL=>holds_of (hh.1 L hL)) (by simpa using hr) hy this
theorem quiet_sound0 {B:Nat} {Ls:List Nat} {Q:Act->World->Prop} (hs:Region.noSelect ops=true) {w:World} {K:Act->Prop} {fuel:Nat} {l':Array Bool} (hK:∀a,K a->AnyLs P ops B Ls Q fuel l' a w) :
  ∀(is:List Nat) (listed:Array Bool) (a:Act),quietSeq ops is listed=some l'->wpQuiet P ops (ClsB 0 w) K (pickOps ops is) a->AnyLs P ops B Ls Q (is.length+fuel) listed a w
 | [],listed,a,hq,h=>by
  simp only[quietSeq,Option.some.injEq]at hq
  subst hq
  simp only[List.length_nil,Nat.zero_add]
  exact hK a h
 | i::is,listed,a,hq,h=>by
  simp only[quietSeq]at hq
  split at hq
  case isFalse=>cases hq
  rename_i hc
  simp only[Bool.and_eq_true]at hc
  obtain⟨⟨hr,hf⟩,hb⟩:=hc
  cases ho:ops[i]? with
  | none=>simp[ho]at hb
  | some o =>
   simp only[ho,Option.map_some,Option.getD_some]at hb
   simp only[pickOps,List.map_cons,ho,Option.getD_some]at h
   obtain⟨v,hy,hn⟩:=yb_of_quiet (K:=wpQuiet P ops (ClsB 0 w) K (pickOps ops is)) hb h
   have:=quiet_sound0 hs hK is _ _ hq hn
   rw[List.length_cons,Nat.add_right_comm]
   exact first0 ho (Region.noSelect_spec hs) _ listed a w (Region.free_spec ho hf) (by simpa using hr) hy this
def wpSteps7 (P:Program) (ops:Array Oper) (B:Nat) (Q:Act->World->Prop):List (Nat × List Oper)->Act->World->Prop
 | [],a,w=>Q a w
 | (0,l)::r,a,w=>wpQuiet P ops (ClsB B w) (λa'=>wpSteps7 P ops B Q r a' w) l a
 | (1,l)::r,a,w=>wpList P ops (Exit.then (λa' W'=>Below B w W'/\wpSteps7 P ops B Q r a' W') Bot) l a w
 | (2,l)::r,a,w=>wpList P ops (Exit.then (λa' W'=>Below 0 w W'/\wpSteps7 P ops B Q r a' W') Bot) l a w
 | (_+3,l)::r,a,w=>wpQuiet P ops (ClsB 0 w) (λa'=>wpSteps7 P ops B Q r a' w) l a
theorem st_quiet {B:Nat} {Q:Act->World->Prop} {l:List Oper} {r:List (Nat × List Oper)} {a:Act} {w:World} (h:wpQuiet P ops (ClsB B w) (λa'=>wpSteps7 P ops B Q r a' w) l a):wpSteps7 P ops B Q ((0,l)::r) a w:=h
theorem st_pure {B:Nat} {Q:Act->World->Prop} {l:List Oper} {r:List (Nat × List Oper)} {a:Act} {w:World} (h:wpQuiet P ops (ClsB 0 w) (λa'=>wpSteps7 P ops B Q r a' w) l a):wpSteps7 P ops B Q ((3,l)::r) a w:=h
theorem st_free {B:Nat} {Q:Act->World->Prop} {l:List Oper} {r:List (Nat × List Oper)} {a:Act} {w:World} (h:wpList P ops (Exit.then (λa' W'=>Below 0 w W'/\wpSteps7 P ops B Q r a' W') Bot) l a w):wpSteps7 P ops B Q ((2,l)::r) a w:=h
theorem st_done {B:Nat} {Q:Act->World->Prop} {a:Act} {w:World} (h:Q a w):wpSteps7 P ops B Q [] a w:=h
def st7 (ops:Array Oper) (Ls:List Nat):List (Nat × List Nat)->Array Bool->Bool
 | [],l=>(Region.ready .any ops l).isEmpty
 | (0,is)::r,l=>match quietSeq ops is l with|some l'=>holdSeq ops Ls is l && st7 ops Ls r l'|none=>false
 | (3,is)::r,l=>match quietSeq ops is l with|some l'=>st7 ops Ls r l'|none=>false
 | (1,[i])::r,l=>(Region.ready .any ops l == [i]) && (ops[i]?).isSome && st7 ops Ls r (l.setIfInBounds i true)
 | (2,[i])::r,l=>Ls.contains i && (Region.ready .any ops l == [i]) && (ops[i]?).isSome && st7 ops Ls r (l.setIfInBounds i true)
 | _,_=>false
def ok7 (ops:Array Oper) (Ls:List Nat) (p:List (Nat × List Nat)):Bool:=Region.noSelect ops && st7 ops Ls p (Array.replicate ops.size false) && (len5 p == ops.size)
theorem st_sound7 {B:Nat} {Ls:List Nat} {Q:Act->World->Prop} (hs:Region.noSelect ops=true):∀(p:List (Nat × List Nat)) (listed:Array Bool) (a:Act) (w:World),
  st7 ops Ls p listed=true->wpSteps7 P ops B Q (p.map λx=>(x.1,pickOps ops x.2)) a w->AnyLs P ops B Ls Q (len5 p) listed a w
 | [],listed,a,w,hB,h=>by
  simp only[st7,List.isEmpty_iff]at hB
  exact⟨hB,h⟩
 | (0,is)::r,listed,a,w,hB,h=>by
  simp only[st7]at hB
  cases hq:quietSeq ops is listed with
  | none=>simp[hq]at hB
  | some l' =>
   simp only[hq,Bool.and_eq_true]at hB
   simp only[List.map_cons,wpSteps7]at h
   exact quiet_soundS hs (λa' ha'=>st_sound7 hs r l' a' w hB.2 ha') is listed a hq hB.1 h
 | (3,is)::r,listed,a,w,hB,h=>by
  simp only[st7]at hB
  cases hq:quietSeq ops is listed with
  | none=>simp[hq]at hB
  | some l' =>
   simp only[hq]at hB
   simp only[List.map_cons,wpSteps7]at h
   exact quiet_sound0 hs (λa' ha'=>st_sound7 hs r l' a' w hB ha') is listed a hq h
 | (1,[i])::r,listed,a,w,hB,h=>by
  simp only[st7,Bool.and_eq_true,beq_iff_eq]at hB
  obtain⟨⟨hr,ho⟩,hB⟩:=hB
  obtain⟨oi,ho⟩:=Option.isSome_iff_exists.1 ho
  simp only[List.map_cons,List.map_nil,wpSteps7,pickOps,ho,Option.getD_some]at h
  show AnyLs P ops B Ls Q (1+len5 r) listed a w
  rw[Nat.add_comm]
  refine⟨λh0=>(by rw[hr]at h0;cases h0),λj hj=>?_⟩
  rw[hr]at hj
  simp only[List.mem_singleton]at hj
  subst hj
  exact last_step ho h λa' W' hg=>⟨.inr hg.1,st_sound7 hs r _ a' W' hB hg.2⟩
 | (2,[i])::r,listed,a,w,hB,h=>by
  simp only[st7,Bool.and_eq_true,beq_iff_eq,List.contains_iff_mem]at hB
  obtain⟨⟨⟨hL,hr⟩,ho⟩,hB⟩:=hB
  obtain⟨oi,ho⟩:=Option.isSome_iff_exists.1 ho
  simp only[List.map_cons,List.map_nil,wpSteps7,pickOps,ho,Option.getD_some]at h
  show AnyLs P ops B Ls Q (1+len5 r) listed a w
  rw[Nat.add_comm]
  refine⟨λh0=>(by rw[hr]at h0;cases h0),λj hj=>?_⟩
  rw[hr]at hj
  simp only[List.mem_singleton]at hj
  subst hj
  exact last_step ho h λa' W' hg=>⟨.inl ⟨hL,hg.1⟩,st_sound7 hs r _ a' W' hB hg.2⟩
 | (1,[])::r,listed,a,w,hB,h=>by simp[st7]at hB
 | (1,_::_::_)::r,listed,a,w,hB,h=>by simp[st7]at hB
 | (2,[])::r,listed,a,w,hB,h=>by simp[st7]at hB
 | (2,_::_::_)::r,listed,a,w,hB,h=>by simp[st7]at hB
 | (n+4,_)::r,listed,a,w,hB,h=>by simp[st7]at hB
theorem wp_region_st7 (B:Nat) (Ls:List Nat) (R:Act->World->Prop) {id:Nat} {Q:Exit->Act->World->Prop} {a:Act} {w:World} {l:List Oper} (p:List (Nat × List Nat)) (p':List (Nat × List Oper)) (hm:P.follows .mixedOrders=true) (hB:ok7 l.toArray Ls p=true)
  (hp:(p.map λx=>(x.1,pickOps l.toArray x.2))=p') (h0:∀wd,Below w.heap.size w wd->wd.heap.size=w.heap.size->wpSteps7 P l.toArray B R p' a wd) (hR:∀a w,R a w->Q .normal a w):(Code.region id l.toArray true).wp P Q a w:=by
 subst hp
 unfold ok7 at hB
 simp only[Bool.and_eq_true,beq_iff_eq]at hB
 obtain⟨⟨h1,h3⟩,h4⟩:=hB
 refine wp_region_any hm ?_
 have:=st_sound7 (P:=P) (Q:=R) (B:=B) (Ls:=Ls) h1 p _ a w.drew h3 (h0 _ (Below.refl _ _).drew rfl)
 rw[h4]at this
 exact AnyLs.sound hR _ _ a w.drew this
theorem p0 (B:Nat) (Ls:List Nat) (R:Act->World->Prop) {id:Nat} {Q:Exit->Act->World->Prop} {a:Act} {w:World} {l:List Oper} (p:List (Nat × List Nat)) {p':List (Nat × List Oper)} (h0:∀wd,Below w.heap.size w wd->wd.heap.size=w.heap.size->wpSteps7 P l.toArray B R p' a wd) (hR:∀a w,R a w->Q .normal a w) (hm:P.follows .mixedOrders=true:=by kernel_rfl) (hB:ok7 l.toArray Ls p=true:=by kernel_rfl) (hp:(p.map λx=>(x.1,pickOps l.toArray x.2))=p':=by simp only[List.map_cons,List.map_nil,Rg.pickOps,List.getElem?_toArray,List.getElem?_cons_zero,List.getElem?_cons_succ,Option.getD_some];rfl):(Code.region id l.toArray true).wp P Q a w:=wp_region_st7 B Ls R p p' hm hB hp h0 hR
end
end Go.Proofs.YtoaemihcbmlkgaaGreatDoor.Rs
