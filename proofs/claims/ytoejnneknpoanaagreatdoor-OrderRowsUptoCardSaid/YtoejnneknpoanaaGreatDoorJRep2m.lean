/- How signs of literals are written: a table, and how long a t -/
import Derived.Test.YtoejnneknpoanaaGreatDoorJOnce
import Derived.Test.YtoejnneknpoanaaGreatDoorJRowsM
import Derived.Lib.ConvBytes
set_option maxRecDepth 100000
namespace Go.Proofs.YtoejnneknpoanaaGreatDoor.Tx
open Go Go.RowKit Um Fm Lx
def rpX (j:Nat):List UInt8:=if j=34 then [92,34] else if j=92 then [92,92] else if j=10 then [92,110] else if j=13 then [92,114] else []
def isE (c:UInt8):Bool:=!(rpX c.toNat).isEmpty
theorem rp_len {j:Nat}:(rpX j).length=0∨(rpX j).length=2:=by
 unfold rpX;repeat' split
 all_goals simp
theorem u8_eq (c d:UInt8):(c=d)↔c.toNat=d.toNat:=UInt8.toNat_inj.symm
theorem litC_rp (c:UInt8):litC c=if isE c then rpX c.toNat else [c]:=by
 unfold litC isE rpX
 simp only[u8_eq]
 by_cases h1:c.toNat=34
 ·simp[h1]
 by_cases h2:c.toNat=92
 ·simp[h2]
 by_cases h3:c.toNat=10
 ·simp[h3]
 by_cases h4:c.toNat=13
 ·simp[h4]
 simp[h1,h2,h3,h4]
theorem litL_cons (c:UInt8) (t:List UInt8):litL (c::t)=litC c++litL t:=by unfold litL;rw[List.flatMap_cons]
theorem litL_app (a b:List UInt8):litL (a++b)=litL a++litL b:=List.flatMap_append
theorem litL_escs:∀l:List UInt8,(litL l).length=l.length+l.countP isE
 | []=>rfl
 | c::t=>by
  rw[litL_cons,List.length_append,litL_escs t,litC_rp,List.countP_cons,List.length_cons]
  cases h:isE c
  ·simp;omega
  ·have hl:(rpX c.toNat).length=2:=by
    rcases rp_len (j:=c.toNat) with h2|h2
    ·rw[isE,List.isEmpty_iff.2 (List.length_eq_zero_iff.1 h2)]at h;cases h
    ·exact h2
   simp[hl];omega
theorem litL_same:∀l:List UInt8,l.countP isE=0->litL l=l
 | [],_=>rfl
 | c::t,h=>by
  rw[List.countP_cons]at h
  cases hc:isE c
  ·rw[litL_cons,litC_rp,hc,litL_same t (by omega)];rfl
  ·rw[hc]at h;simp at h
theorem litL_snoc (l:List UInt8) (k:Nat) (c:UInt8) (h:l[k]?=some c):litL (l.take (k+1))=litL (l.take k)++litC c:=by
 rw[List.take_add_one,h,Option.toList_some,litL_app,litL_cons]
 show _=_
 rw[show litL []=[] from rfl,List.append_nil]
theorem escs_snoc (l:List UInt8) (k:Nat) (c:UInt8) (h:l[k]?=some c):(l.take (k+1)).countP isE=(l.take k).countP isE+(if isE c then 1 else 0):=by
 rw[List.take_add_one,h,Option.toList_some,List.countP_append,List.countP_cons,List.countP_nil,Nat.zero_add]
def rpN (i:Nat):UInt8:=if i=0 then 13 else if i=1 then 10 else if i=2 then 34 else 92
theorem escs_four (l:List UInt8):l.countP isE=Lib.countByte l (rpN 0)+Lib.countByte l (rpN 1)+Lib.countByte l (rpN 2)+Lib.countByte l (rpN 3):=by
 have e0:rpN 0=13:=rfl
 have e1:rpN 1=10:=rfl
 have e2:rpN 2=34:=rfl
 have e3:rpN 3=92:=rfl
 rw[e0,e1,e2,e3]
 unfold Lib.countByte
 induction l with
 | nil=>rfl
 | cons c t ih =>
  rw[List.countP_cons,List.count_cons,List.count_cons,List.count_cons,List.count_cons,ih]
  have hc:(if isE c=true then 1 else 0)=(if (c == 13)=true then 1 else 0)+(if (c == 10)=true then 1 else 0)+(if (c == 34)=true then 1 else 0)+(if (c == 92)=true then 1 else 0):=by
   by_cases h1:c=34
   ·subst h1;decide
   by_cases h2:c=92
   ·subst h2;decide
   by_cases h3:c=10
   ·subst h3;decide
   by_cases h4:c=13
   ·subst h4;decide
   have h5:isE c=false:=by
    unfold isE rpX
    have g1:¬ c.toNat=34:=λe=>h1 ((u8_eq _ _).2 e)
    have g2:¬ c.toNat=92:=λe=>h2 ((u8_eq _ _).2 e)
    have g3:¬ c.toNat=10:=λe=>h3 ((u8_eq _ _).2 e)
    have g4:¬ c.toNat=13:=λe=>h4 ((u8_eq _ _).2 e)
    rw[if_neg g1,if_neg g2,if_neg g3,if_neg g4];rfl
   simp[h1,h2,h3,h4,h5]
  rw[hc];omega
def cntK (l:List UInt8):Nat->Nat
 | 0=>0
 | k+1=>cntK l k+Lib.countByte l (rpN k)
theorem cnt_four (l:List UInt8):cntK l 4=l.countP isE:=by
 rw[escs_four]
 simp only[cntK,Nat.zero_add]
theorem cnt_le (l:List UInt8):∀k,cntK l k<=k*l.length
 | 0=>by simp[cntK]
 | k+1=>by
  have h1:=cnt_le l k
  have h2:Lib.countByte l (rpN k)<=l.length:=List.count_le_length
  rw[cntK,Nat.succ_mul];omega
def rpT (k j:Nat):List UInt8:=if (j=13/\0<k)∨(j=10/\1<k)∨(j=34/\2<k)∨(j=92/\3<k) then rpX j else []
theorem rpT_zero (j:Nat):rpT 0 j=[]:=by unfold rpT;rw[if_neg (by omega)]
theorem rpT_four (j:Nat):rpT 4 j=rpX j:=by
 unfold rpT rpX
 by_cases h1:j=34
 ·simp[h1]
 by_cases h2:j=92
 ·simp[h2]
 by_cases h3:j=10
 ·simp[h3]
 by_cases h4:j=13
 ·simp[h4]
 simp[h1,h2,h3,h4]
theorem rpT_succ (k j:Nat) (hk:k<4):rpT (k+1) j=if j=(rpN k).toNat then rpX j else rpT k j:=by
 match k,hk with
 | 0,_=>unfold rpT;rw[show (rpN 0).toNat=13 from rfl];by_cases h:j=13<;>simp[h]<;>omega
 | 1,_=>unfold rpT;rw[show (rpN 1).toNat=10 from rfl];by_cases h:j=10<;>simp[h]
 | 2,_=>unfold rpT;rw[show (rpN 2).toNat=34 from rfl];by_cases h:j=34<;>simp[h]
 | 3,_=>unfold rpT;rw[show (rpN 3).toNat=92 from rfl];by_cases h:j=92<;>simp[h]
end Go.Proofs.YtoejnneknpoanaaGreatDoor.Tx
namespace Go.Proofs.YtoejnneknpoanaaGreatDoor
open Go Go.RowKit Um Fm Tx
theorem strInfo8:(Tryz.prog.info? 9).map (λi=>(i.zero,i.size,i.bytes))=some (some (.string ⟨#[]⟩),1,16):=by kernel_rfl
abbrev escL:List ByteArray:=[⟨#[92]⟩,⟨#[92,92]⟩,⟨#[34]⟩,⟨#[92,34]⟩,⟨#[10]⟩,⟨#[92,110]⟩,⟨#[13]⟩,⟨#[92,114]⟩]
def RepAt (B b:Nat) (w:World):Prop:=B<=b/\∃(v:Value),w.heap[b]?=some (.cells #[.int .u32 0,.int .i32 0,.int .u32 0,.nilIface,v] 218 (0,0))/\w.ownsRow B 9 1 v 8 (escL.map Value.string)
theorem own_down1 {w:World} {B B':Nat} {e:TypeId} {s:Nat} {v:Value} {n:Nat} {xs:List Value} (h:w.ownsRow B e s v n xs) (hb:B'<=B):w.ownsRow B' e s v n xs:=
 ⟨h.1,h.2.imp id λ⟨g,cap,cur,hv,hB,r⟩=>⟨g,cap,cur,hv,Nat.le_trans hb hB,r⟩⟩
theorem newReplacer (g:Nat) (w:World) (hA:Rd w (some ⟨g,0,none⟩) (escL.map Value.string)) :
  Calls Tryz.prog 184 #[.slice (some ⟨g,0,none⟩) 8 8] w λe w'=>∃b,e=.returned (.pointer (some ⟨b,0,none⟩))/\RepAt w.heap.size b w'/\Below w.heap.size w w':=by
 have hown:w.ownsRow w.heap.size 9 1 (.slice none 0 0) 0 []:=World.ownsRow_nil _ _ _ _
 have H1:∀u∈escL.map Value.string,u.oneCell'=true:=by
  intro u hu;obtain⟨x,_,rfl⟩:=List.mem_map.1 hu;rfl
 go_enter Tryz.func184,Tryz.ntmps184
 go_wp2_with (at_builtin;refine wpList_app (m:=8) rfl rfl Tryz.underlying22 strInfo8 rfl (by omega) rfl hown rfl hA rfl H1 (by omega) (by omega) (by omega) ?_;intro v1 w1 own1 hb1;obtain⟨A1,c1,rfl,_,_⟩:=own_slice own1)
 go_ret
 rw[Nat.zero_add,List.nil_append]at own1
 exact⟨_,rfl,⟨hb1.size,_,heap_alloc_new w1 _,own1.alloc _⟩,hb1.alloc hb1.size _⟩
theorem termEscapes (w:World):Calls Tryz.prog 147 #[] w λe w'=>∃b,e=.returned (.pointer (some ⟨b,0,none⟩))/\RepAt w.heap.size b w'/\Below w.heap.size w w':=by
 have hb:Below w.heap.size w (w.alloc (.cells (escL.map Value.string).toArray 9)):=blw
 have h:=newReplacer w.heap.size _ (Rd.of_block (heap_alloc_new w (.cells (escL.map Value.string).toArray 9)) rfl)
 have HB:=Lib.hid hb
 go_enter Tryz.func147,Tryz.ntmps147
 go_wp2_with (go_at_call 184;refine h.mono ?_;rintro e w2 ⟨b,rfl,⟨k1,v,k2,k3⟩,k4⟩)
 go_ret
 have hs:=HB.out.size
 exact⟨b,rfl,⟨by omega,v,k2,own_down1 k3 (by omega)⟩,below_tr HB.out k4⟩
def RpV (l:List UInt8) (v:Value) (w:World):Prop:=
 if l=[] then v=.slice none 0 0 else ∃g c cur fz,v=.slice (some ⟨g,0,none⟩) 2 c/\w.heap[g]?=some (Obj.cells cur 5 fz)/\l.length=2/\∀(j:Nat) (x:UInt8),l[j]?=some x->cur[j]?=some (Value.int .u8 (x.toNat:Int))
abbrev rpS (m:Nat):List Value:=(List.range m).map λi=>Value.string ⟨#[rpN i]⟩
structure Bsr (B b k m:Nat) (w:World):Prop where
 ge:B<=b
 blk:∃cs:Array Value,w.heap[b]?=some (Obj.cells cs 289 (0,0))/\cs.size=257/\(∀j,j<256->∃v,cs[j]?=some v/\RpV (rpT k j) v w)/\∃v,cs[256]?=some v/\w.ownsRow B 9 1 v m (rpS m)
theorem own_block_ne {w:World} {B:Nat} {e:TypeId} {s:Nat} {v:Value} {n:Nat} {xs:List Value} (h:w.ownsRow B e s v n xs) {b:Nat} {cs:Array Value} {T:TypeId} {fz:Nat × Nat}
  (hb:w.heap[b]?=some (Obj.cells cs T fz)) (hT:T≠e):v.ownBlock≠some b:=by
 intro e1
 rcases h.2 with ⟨rfl,_⟩|⟨g,cap,cur,rfl,_,hg,_⟩
 ·simp[Value.ownBlock]at e1
 ·simp[Value.ownBlock]at e1
  subst e1
  rw[hb]at hg
  injection hg with hg;injection hg with _ hg
  exact hT hg
theorem RpV.keep {l:List UInt8} {v:Value} {w w':World} (h:RpV l v w) (hk:∀(g:Nat) (cur:Array Value) (fz:Nat × Nat),w.heap[g]?=some (Obj.cells cur 5 fz)->w'.heap[g]?=some (Obj.cells cur 5 fz)):RpV l v w':=by
 unfold RpV at *
 split
 ·rename_i hl;rw[if_pos hl]at h;exact h
 ·rename_i hl;rw[if_neg hl]at h
  obtain⟨g,c,cur,fz,h1,h2,h3⟩:=h
  exact⟨g,c,cur,fz,h1,hk g cur fz h2,h3⟩
theorem Bsr.step {B b k m:Nat} {w w':World} (h:Bsr B b k m w) (hb:Below w.heap.size w w'):Bsr B b k m w':=by
 obtain⟨hge,cs,h1,h2,h3,v,h4,h5⟩:=h
 have keep:∀{g:Nat} {o:Obj},w.heap[g]?=some o->w'.heap[g]?=some o:=λhg=>by rw[hb.block _ (Array.getElem?_eq_some_iff.1 hg).1];exact hg
 refine⟨hge,cs,keep h1,h2,λj hj=>?_,v,h4,own_below h5 hb (Nat.le_refl _)⟩
 obtain⟨u,hu,hr⟩:=h3 j hj
 exact⟨u,hu,hr.keep λg cur fz hg=>keep hg⟩
theorem Bsr.named {B b k m:Nat} {w w':World} {v v':Value} {cs:Array Value} (hge:B<=b) (h1:w.heap[b]?=some (Obj.cells cs 289 (0,0))) (h2:cs.size=257) (h3:∀j,j<256->∃v,cs[j]?=some v/\RpV (rpT k j) v w)
  (own:w.ownsRow B 9 1 v m (rpS m)) (own':w'.ownsRow B 9 1 v' (m+1) (rpS (m+1))) (hg:w.grownBy w' v.ownBlock) :
  Bsr B b k (m+1) (w'.setCell ⟨b,256,none⟩ v'):=by
 have keep:∀{g:Nat} {cur:Array Value} {T:TypeId} {fz:Nat × Nat},w.heap[g]?=some (.cells cur T fz)->T≠9->w'.heap[g]?=some (.cells cur T fz):=λhh hT=>by
  rw[hg.block _ (Array.getElem?_eq_some_iff.1 hh).1 (λe=>own_block_ne own hh hT e.symm)];exact hh
 have hb':=keep h1 (by decide)
 refine⟨hge,cs.setIfInBounds 256 v',?_,by simpa using h2,λj hj=>?_,v',by simp[h2],?_⟩
 ·simp[World.setCell,Array.getElem?_modify,hb']
 ·obtain⟨u,hu,hr⟩:=h3 j hj
  refine⟨u,?_,hr.keep λg cur fz hh=>?_⟩
  ·rw[Array.getElem?_setIfInBounds,if_neg (by omega)];exact hu
  ·have h0:=keep hh (by decide)
   rw[Below.heap_setCell _ _ _ _ (show g≠b from λe=>?_)]
   ·exact h0
   ·subst e;rw[h1]at hh;injection hh with hh;injection hh with _ hh;revert hh;decide
 ·have hne:=own_block_ne own' hb' (by decide)
  refine⟨own'.1,own'.2.imp id ?_⟩
  rintro⟨g,cap,cur,rfl,hB,hh,r⟩
  refine⟨g,cap,cur,rfl,hB,?_,r⟩
  rw[Below.heap_setCell _ _ _ _ (show g≠b from λe=>hne (by simp[Value.ownBlock,e]))]
  exact hh
theorem Bsr.laid {B b k m:Nat} {w:World} (h:Bsr B b k m w) (hk:k<4) {g c:Nat} {cur:Array Value} {fz:Nat × Nat} (hg:w.heap[g]?=some (Obj.cells cur 5 fz))
  (hx:∀(j:Nat) (x:UInt8),(rpX (rpN k).toNat)[j]?=some x->cur[j]?=some (Value.int .u8 (x.toNat:Int))):Bsr B b (k+1) m (w.setCell ⟨b,(rpN k).toNat,none⟩ (.slice (some ⟨g,0,none⟩) 2 c)):=by
 obtain⟨hge,cs,h1,h2,h3,v,h4,h5⟩:=h
 have hn:(rpN k).toNat<256:=UInt8.toNat_lt _
 have hl:(rpX (rpN k).toNat).length=2:=by
  match k,hk with
  | 0,_=>rfl
  | 1,_=>rfl
  | 2,_=>rfl
  | 3,_=>rfl
 have keep:∀{g:Nat} {cur:Array Value} {T:TypeId} {fz:Nat × Nat} {b':Nat} {u:Value},w.heap[g]?=some (.cells cur T fz)->T≠289->(w.setCell ⟨b,b',none⟩ u).heap[g]?=some (.cells cur T fz):=λ{g} _ _ _ _ _ hh hT=>by
  rw[Below.heap_setCell _ _ _ _ (show g≠b from λe=>?_)]
  ·exact hh
  ·subst e;rw[h1]at hh;injection hh with hh;injection hh with _ hh;exact hT hh.symm
 refine⟨hge,cs.setIfInBounds (rpN k).toNat (.slice (some ⟨g,0,none⟩) 2 c),?_,by simpa using h2,λj hj=>?_,v,?_,?_⟩
 ·simp[World.setCell,Array.getElem?_modify,h1]
 ·rw[rpT_succ k j hk]
  by_cases e:j=(rpN k).toNat
  ·subst e
   rw[if_pos rfl]
   refine⟨.slice (some ⟨g,0,none⟩) 2 c,by rw[Array.getElem?_setIfInBounds,if_pos rfl,if_pos (by omega)],?_⟩
   unfold RpV
   rw[if_neg (λe=>by rw[e]at hl;cases hl)]
   exact⟨g,c,cur,fz,rfl,keep hg (by decide),hl,hx⟩
  ·rw[if_neg e]
   obtain⟨u,hu,hr⟩:=h3 j hj
   refine⟨u,?_,hr.keep λg cur fz hh=>keep hh (by decide)⟩
   rw[Array.getElem?_setIfInBounds,if_neg (Ne.symm e)];exact hu
 ·rw[Array.getElem?_setIfInBounds,if_neg (by omega)];exact h4
 ·refine⟨h5.1,h5.2.imp id ?_⟩
  rintro⟨g',cap,cur',rfl,hB,hh,r⟩
  exact⟨g',cap,cur',rfl,hB,keep hh (by decide),r⟩
theorem Bsr.low {B b k m:Nat} {w:World} (h:Bsr B b k m w) {j:Nat} (hj:j<256):∃v,w.cell? ⟨b,j,none⟩=some v/\RpV (rpT k j) v w:=by
 obtain⟨_,cs,h1,_,h3,_⟩:=h
 obtain⟨v,hv,hr⟩:=h3 j hj
 exact⟨v,by rw[Lib.cell_of_heap h1];exact hv,hr⟩
theorem Bsr.row {B b k m:Nat} {w:World} (h:Bsr B b k m w):∃v,w.cell? ⟨b,256,none⟩=some v/\w.ownsRow B 9 1 v m (rpS m):=by
 obtain⟨_,cs,h1,_,_,v,hv,ho⟩:=h
 exact⟨v,by rw[Lib.cell_of_heap h1];exact hv,ho⟩
theorem Bsr.fz {B b k m:Nat} {w:World} (h:Bsr B b k m w) (j:Nat):w.frozen? ⟨b,j,none⟩=false:=by
 obtain⟨_,cs,h1,_⟩:=h
 exact Lib.frozen_of_heap h1 j
end Go.Proofs.YtoejnneknpoanaaGreatDoor
