/- slices.DeleteFunc at rows of slices, by a closure with a sta -/
import Derived.Test.YtoejnneknpoanaaGreatDoorJCells
import Derived.Lib.AppendIntMem
import Derived.Lib.ItoaLen
set_option maxHeartbeats 8000000
set_option maxRecDepth 100000
namespace Go.Proofs.YtoejnneknpoanaaGreatDoor
open Go Go.RowKit Fm Om
def delArr (b:Nat->Bool) (vs:List Value) (j:Nat):List Value:=keptL b vs j++vs.drop (keptL b vs j).length
theorem delArr_len (b:Nat->Bool) (vs:List Value) {j:Nat} (hj:j<=vs.length):(delArr b vs j).length=vs.length:=by
 have:=kept_le b vs j
 unfold delArr
 rw[List.length_append,List.length_drop];omega
theorem delArr_at (b:Nat->Bool) (vs:List Value) {j:Nat}:(delArr b vs j)[j]?=vs[j]?:=by
 have:=kept_le b vs j
 unfold delArr
 rw[List.getElem?_append_right this,List.getElem?_drop]
 congr 1;omega
theorem kept_first {b:Nat->Bool} {vs:List Value} {k:Nat} (_hk:k<vs.length) (h1:b k=true) (h2:∀j,j<k->b j=false):keptL b vs (k+1)=vs.take k:=by
 have h3:∀j,j<=k->keptL b vs j=vs.take j:=by
  intro j
  induction j with
  | zero=>intro _;rfl
  | succ j ih =>
   intro hj
   rw[keptL,h2 j (by omega),ih (by omega),take_one]
   simp
 rw[keptL,if_pos h1,h3 k (Nat.le_refl _)]
theorem kept_all {b:Nat->Bool} {vs:List Value} {n:Nat} (h2:∀j,j<n->b j=false):keptL b vs n=vs.take n:=by
 induction n with
 | zero=>rfl
 | succ j ih =>
  rw[keptL,h2 j (by omega),ih (λk hk=>h2 k (by omega)),take_one]
  simp
theorem delArr_start {b:Nat->Bool} {vs:List Value} {k:Nat} (hk:k<vs.length) (h1:b k=true) (h2:∀j,j<k->b j=false):delArr b vs (k+1)=vs/\(keptL b vs (k+1)).length=k:=by
 have hl:(keptL b vs (k+1)).length=k:=by rw[kept_first hk h1 h2,List.length_take];omega
 refine⟨?_,hl⟩
 unfold delArr
 rw[hl,kept_first hk h1 h2,List.take_append_drop]
theorem delArr_skip {b:Nat->Bool} {vs:List Value} {j:Nat} (h:b j=true):delArr b vs (j+1)=delArr b vs j/\(keptL b vs (j+1)).length=(keptL b vs j).length:=by
 have:keptL b vs (j+1)=keptL b vs j:=by rw[keptL,if_pos h]
 exact⟨by unfold delArr;rw[this],by rw[this]⟩
theorem delArr_put {b:Nat->Bool} {vs:List Value} {j:Nat} {v:Value} (hv:vs[j]?=some v) (h:b j=false):delArr b vs (j+1)=(delArr b vs j).set (keptL b vs j).length v/\(keptL b vs (j+1)).length=(keptL b vs j).length+1:=by
 have hk:keptL b vs (j+1)=keptL b vs j++[v]:=by rw[keptL,h,hv];simp
 have hle:=kept_le b vs j
 have hj:j<vs.length:=(List.getElem?_eq_some_iff.1 hv).1
 refine⟨?_,by rw[hk,List.length_append];rfl⟩
 unfold delArr
 rw[hk,List.length_append,List.set_append_right _ _ (Nat.le_refl _),Nat.sub_self,List.drop_eq_getElem_cons (l:=vs) (i:=(keptL b vs j).length) (by omega),List.append_assoc]
 rfl
def RowV (g:Nat) (vs rest:List Value) (w:World):Prop:=w.heap[g]?=some (Obj.cells (vs++rest).toArray 59 (0,0))
theorem RowV.cell {g:Nat} {vs rest:List Value} {w:World} (h:RowV g vs rest w) {j:Nat} {v:Value} (hv:vs[j]?=some v):w.cell? ⟨g,j,none⟩=some v:=by
 rw[Lib.cell_of_heap h,List.getElem?_toArray,List.getElem?_append_left (List.getElem?_eq_some_iff.1 hv).1];exact hv
theorem RowV.frozen {g:Nat} {vs rest:List Value} {w:World} (h:RowV g vs rest w) (i:Nat):w.frozen? ⟨g,i,none⟩=false:=Lib.frozen_of_heap h i
theorem RowV.lt {g:Nat} {vs rest:List Value} {w:World} (h:RowV g vs rest w):g<w.heap.size:=(Array.getElem?_eq_some_iff.1 h).1
theorem RowV.put {g:Nat} {vs rest:List Value} {w:World} (h:RowV g vs rest w) {i:Nat} (hi:i<vs.length) (v:Value):RowV g (vs.set i v) rest (w.setCell ⟨g,i,none⟩ v):=by
 unfold RowV at h ⊢
 simp only[World.setCell,Array.getElem?_modify,h,if_true,Option.map_some]
 simp[List.set_append_left _ _ hi]
theorem RowV.rd {g:Nat} {vs rest:List Value} {w:World} (h:RowV g vs rest w):Rd w (some ⟨g,0,none⟩) vs:=.inr ⟨g,0,rfl,λj u hu=>by rw[Nat.zero_add];exact h.cell hu⟩
def DelR (g n cap r0:Nat) (b:Nat->Bool) (vs:List Value) (S:Nat->World->Prop) (e:Ending) (w':World):Prop:=
 ∃rest',e=.returned (.slice (some ⟨g,0,none⟩) (keptL b vs n).length cap)/\RowV g (keptL b vs n) rest' w'/\(keptL b vs n).length+rest'.length=n+r0/\S n w'
theorem zRow_size (n:Nat):(Builtin.zeroCells (Value.slice none 0 0).cells n).size=n:=by
 unfold Builtin.zeroCells
 simp[Value.cells]
theorem zRow_one (n:Nat):∀u∈(Builtin.zeroCells (Value.slice none 0 0).cells n).toList,u.oneCell'=true:=by
 intro u hu
 unfold Builtin.zeroCells at hu
 simp only[Array.toList_map,List.mem_map,Value.cells]at hu
 obtain⟨i,_,rfl⟩:=hu
 have:i % 1=0:=Nat.mod_one i
 simp[this]
 rfl
theorem zRow_len (n:Nat):(Builtin.zeroCells (Value.slice none 0 0).cells n).toList.length=n:=by rw[Array.length_toList,zRow_size]
theorem delRows (F:Nat) (cb:Array Value) (eg:∀args w,(callFunc F args).run Tryz.prog w=.ok (.enter F args) w) (b:Nat->Bool) (S:Nat->World->Prop) (rows:List (List Tm)) (vs rest:List Value) (g n cap r0:Nat) (w:World) (hn:rows.length=n) (hvn:vs.length=n) (hr0:rest.length=r0) (hl:n<=1000000000) (hcap:n<=cap)
  (hR:∀k W,S k W->All 1 (RdRow W) vs rows) (hP:∀k W i v,S k W->S k (W.setCell ⟨g,i,none⟩ v)) (hQ:∀k W o us,S k W->S k (W.setCells g o us))
  (hc:∀k row W A' c' us,rows[k]?=some row->S k W->RowV g us rest W->row.length<=c'->RdTs W A' row->Calls Tryz.prog F (#[.slice A' row.length c']++cb) W λe W'=>e=.returned (.bool (b k))/\S (k+1) W'/\RowV g us rest W')
  (h0:S 0 w) (hg:RowV g vs rest w):Calls Tryz.prog 87 #[.slice (some ⟨g,0,none⟩) n cap,.func (.func F) #[] cb] w (DelR g n cap r0 b vs S):=by
 have hI:=idxRows F cb eg b (λk W=>S k W/\RowV g vs rest W) rows n (some ⟨g,0,none⟩) cap w hn hl (λk W h=>⟨vs,h.2.rd,hR k W h.1⟩)
  (λk row W A' c' h1 h2 h3 h4=>(hc k row W A' c' vs h1 h2.1 h2.2 h3 h4).mono λ_ _ h=>⟨h.1,h.2⟩) ⟨h0,hg⟩
 have H:=Lib.hid (And.intro hn (And.intro hvn (And.intro hr0 (And.intro hR (And.intro hP hQ)))))
 have HC:=Lib.hid hc
 clear hn hvn hr0 hR hP hQ hc h0 hg
 go_enter Tryz.func87,Tryz.ntmps87
 go_wp2_with fail
 refine hI.mono ?_
 intro e w1 hD
 rcases hD with ⟨rfl,h1,h2⟩|⟨k,hk,rfl,h1,h2,h3⟩
 ·have HF:Hid (DelR g n cap r0 b vs S (.returned (.slice (some ⟨g,0,none⟩) n cap)) w1):=by
   obtain⟨e1,e2,e3,_⟩:=H.out
   have hk:keptL b vs n=vs:=by rw[kept_all h1,List.take_of_length_le (by omega)]
   exact⟨rest,by rw[hk,e2],by rw[hk];exact h2.2,by rw[hk,e2,e3],h2.1⟩
  clear h1 h2 hI
  go_wp2
  go_ret
  exact HF.out
 ·have hkn:((k:Int) == -1)=false:=by rw[beq_eq_false_iff_ne];omega
  have HD:Hid (k=(keptL b vs (k+1)).length/\S (k+1) w1/\RowV g (delArr b vs (k+1)) rest w1):=by
   obtain⟨e1,e2,e3,_⟩:=H.out
   obtain⟨d1,d2⟩:=delArr_start (b:=b) (vs:=vs) (k:=k) (by omega) h1 h2
   exact⟨d2.symm,h3.1,by rw[d1];exact h3.2⟩
  clear h1 h2 h3 hI
  go_wp2
  go_loopw [5,6,7] (λvi vj u wr=>∃i j:Nat,vi=.int .i64 i/\vj=.int .i64 j/\i<j/\j<=n/\Hid (i=(keptL b vs j).length/\S j wr/\RowV g (delArr b vs j) rest wr)) (λ_ j _ _=>n-(intOf j).toNat)
  case atStart=>exact⟨k,k+1,rfl,by go_num,by omega,by omega,HD⟩
  case round =>
   clear HD
   obtain⟨i,j,rfl,rfl,hij,hj,HJ⟩:=hrel
   by_cases hlt:j<n
   ·obtain⟨row,hrow⟩:∃row,rows[j]?=some row:=⟨_,List.getElem?_eq_getElem (by rw[H.out.1];exact hlt)⟩
    obtain⟨cs,hcs,⟨A',c',rfl,hle,hrd⟩,hx⟩:=(H.out.2.2.2.1 j wr HJ.out.2.1).at_ hrow
    have hv:=hx 0 _ rfl
    rw[Nat.mul_one,Nat.add_zero]at hv
    have hcell:=HJ.out.2.2.cell (j:=j) (by rw[delArr_at];exact hv)
    have hcall:=HC.out j row wr A' c' _ hrow HJ.out.2.1 HJ.out.2.2 hle hrd
    have HV:=Lib.hid hv
    clear hrow hcs hle hrd hx hv
    cases hb:b j
    ·rw[hb]at hcall
     have HB:=Lib.hid hb
     clear hb
     go_wp2_with fail
     refine hcall.mono ?_
     rintro e w2 ⟨rfl,hS2,hV2⟩
     have hi2:i<(delArr b vs j).length:=by rw[delArr_len _ _ (by rw[H.out.2.1];omega),H.out.2.1];omega
     obtain⟨vold,ci⟩:∃u,w2.cell? ⟨g,i,none⟩=some u:=⟨_,hV2.cell (j:=i) (List.getElem?_eq_getElem hi2)⟩
     have fi:=hV2.frozen i
     obtain⟨d1,d2⟩:=delArr_put HV.out HB.out
     have HN:Hid (i+1=(keptL b vs (j+1)).length/\S (j+1) (w2.setCell ⟨g,i,none⟩ (.slice A' row.length c'))/\RowV g (delArr b vs (j+1)) rest (w2.setCell ⟨g,i,none⟩ (.slice A' row.length c'))):=
      ⟨by rw[d2,←HJ.out.1],H.out.2.2.2.2.1 _ _ _ _ hS2,by rw[d1,←HJ.out.1];exact hV2.put hi2 _⟩
     clear hS2 hV2 hi2 d1 d2 HJ hcall hcell
     go_wp2
     go_roundw
     case rel=>exact⟨i+1,j+1,by go_num,by go_num,by omega,by omega,HN⟩
     case measure=>simp[intOf];omega
    ·rw[hb]at hcall
     have HB:=Lib.hid hb
     clear hb
     go_wp2_with fail
     refine hcall.mono ?_
     rintro e w2 ⟨rfl,hS2,hV2⟩
     obtain⟨d1,d2⟩:=delArr_skip (vs:=vs) HB.out
     have HN:Hid (i=(keptL b vs (j+1)).length/\S (j+1) w2/\RowV g (delArr b vs (j+1)) rest w2):=⟨by rw[d2,←HJ.out.1],hS2,by rw[d1];exact hV2⟩
     clear hS2 hV2 d1 d2 HJ hcall hcell
     go_wp2
     go_roundw
     case rel=>exact⟨i,j+1,rfl,by go_num,by omega,by omega,HN⟩
     case measure=>simp[intOf];omega
   ·obtain rfl:j=n:=by omega
    have hzv:∀W,(zeroValue 59).run Tryz.prog W=.ok (.slice none 0 0) W:=Tryz.zeroValue59
    have hcl:∀ty,(Builtin.clear_ #[23] ty #[.slice (some ⟨g,i,none⟩) (j-i) (cap-i)]).run Tryz.prog wr=.ok (.tuple #[]) (wr.setCells g i (Builtin.zeroCells (Value.slice none 0 0).cells (j-i)).toList):=
     λty=>run_clear_cells wr _ _ ty _ Tryz.underlying23 hzv g i _ _ (by omega) (zRow_one _) (λq hq=>by
      rw[zRow_size]at hq
      have hlen:(delArr b vs j).length=j:=by rw[delArr_len _ _ (by rw[H.out.2.1];omega),H.out.2.1]
      exact⟨by rw[HJ.out.2.2.cell (List.getElem?_eq_getElem (by omega:i+q<_))];rfl,HJ.out.2.2.frozen _⟩)
    have HF:Hid (DelR g j cap r0 b vs S (.returned (.slice (some ⟨g,0,none⟩) i cap)) (wr.setCells g i (Builtin.zeroCells (Value.slice none 0 0).cells (j-i)).toList)):=by
     obtain⟨e1,e2,e3,e4,e5,e6⟩:=H.out
     have h1:=HJ.out.2.2
     have hpm:=putAt_mid (Builtin.zeroCells (Value.slice none 0 0).cells (j-i)).toList (keptL b vs j) (vs.drop (keptL b vs j).length) rest (by rw[List.length_drop,←HJ.out.1,zRow_len,e2])
     have hh:=heap_setCells g _ _ (Builtin.zeroCells (Value.slice none 0 0).cells (j-i)).toList i wr _ h1
     refine⟨(Builtin.zeroCells (Value.slice none 0 0).cells (j-i)).toList++rest,by rw[HJ.out.1],?_,?_,e6 _ _ _ _ HJ.out.2.1⟩
     ·unfold RowV
      rw[hh]
      congr 2
      rw[←hpm,←HJ.out.1]
      unfold delArr
      rw[List.append_assoc,←HJ.out.1]
     ·rw[List.length_append,zRow_len,e3,←HJ.out.1];omega
    generalize wr.setCells g i (Builtin.zeroCells (Value.slice none 0 0).cells (j-i)).toList=w9 at *
    clear HJ hzv
    go_wp2
    go_ret
    exact HF.out
namespace Om
def valD (l:List UInt8):Nat:=l.foldl (λa c=>10*a+(c.toNat-48)) 0
theorem valD_snoc (l:List UInt8) (c:UInt8):valD (l++[c])=10*valD l+(c.toNat-48):=by simp[valD,List.foldl_append]
theorem toNat_dig {k:Nat} (h:k<10):(UInt8.ofNat (48+k)).toNat=48+k:=by
 rw[UInt8.toNat_ofNat'];omega
theorem val_dec (u:Nat):valD (Lib.decDigits u)=u:=by
 induction u using Nat.strongRecOn with
 | _ u ih =>
  by_cases h:u<10
  ·rw[Lib.decDigits,dif_pos h]
   show 10*0+((UInt8.ofNat (48+u)).toNat-48)=u
   rw[toNat_dig h];omega
  ·rw[Lib.decDigits,dif_neg h,valD_snoc,ih (u / 10) (by omega),toNat_dig (by omega)];omega
theorem dec_inj {a b:Nat} (h:Lib.decDigits a=Lib.decDigits b):a=b:=by rw[←val_dec a,←val_dec b,h]
theorem dec_digs (u:Nat):∀c∈Lib.decDigits u,48<=c.toNat/\c.toNat<=57:=by
 induction u using Nat.strongRecOn with
 | _ u ih =>
  intro c hc
  by_cases h:u<10
  ·rw[Lib.decDigits,dif_pos h]at hc
   simp only[List.mem_cons,List.not_mem_nil,or_false]at hc
   subst hc;rw[toNat_dig h];omega
  ·rw[Lib.decDigits,dif_neg h]at hc
   rcases List.mem_append.1 hc with hc|hc
   ·exact ih (u / 10) (by omega) c hc
   ·simp only[List.mem_cons,List.not_mem_nil,or_false]at hc
    subst hc;rw[toNat_dig (by omega)];omega
theorem itoa_signs (n:Int):∀c∈Lib.itoa n,c.toNat=45∨48<=c.toNat/\c.toNat<=57:=by
 intro c hc
 unfold Lib.itoa at hc
 split at hc
 ·rcases List.mem_cons.1 hc with rfl|hc
  ·exact .inl rfl
  ·exact .inr (dec_digs _ c hc)
 ·exact .inr (dec_digs _ c hc)
theorem itoa_no {n:Int} {c:UInt8} (h:c=32∨c=58):c ∉ Lib.itoa n:=by
 intro hc
 have:=itoa_signs n c hc
 rcases h with rfl|rfl
 ·rcases this with h|h
  ·cases h
  ·exact absurd h.1 (by decide)
 ·rcases this with h|h
  ·cases h
  ·exact absurd h.2 (by decide)
theorem head_dec {u:Nat} {l:List UInt8} (h:45::l=Lib.decDigits u):False:=by
 have:=dec_digs u 45 (by rw[←h];simp)
 exact absurd this.1 (by decide)
theorem itoa_inj {a b:Int} (h:Lib.itoa a=Lib.itoa b):a=b:=by
 unfold Lib.itoa at h
 split at h<;>split at h
 ·injection h with _ h
  have:=dec_inj h
  omega
 ·exact(head_dec h).elim
 ·exact(head_dec h.symm).elim
 ·have:=dec_inj h
  omega
theorem cut_at (c:UInt8):∀(a b:List UInt8) {x y:List UInt8},c ∉ a->c ∉ b->a++c::x=b++c::y->a=b/\x=y
 | [],[],_,_,_,_,h=>by injection h with _ h;exact⟨rfl,h⟩
 | [],d::b,_,_,_,hb,h=>by injection h with h _;exact absurd (by rw[h];simp) hb
 | d::a,[],_,_,ha,_,h=>by injection h with h _;exact absurd (by rw[h];simp) ha
 | d::a,e::b,_,_,ha,hb,h=>by
  injection h with h1 h2
  obtain⟨h3,h4⟩:=cut_at c a b (λk=>ha (by simp[k])) (λk=>hb (by simp[k])) h2
  exact⟨by rw[h1,h3],h4⟩
def pieceK (s:List UInt8):List UInt8:=32::(Lib.itoa s.length++58::s)
theorem piece_inj {s t r q:List UInt8} (h:pieceK s++r=pieceK t++q):s=t/\r=q:=by
 unfold pieceK at h
 rw[List.cons_append,List.cons_append,List.append_assoc,List.append_assoc,List.cons_append,List.cons_append]at h
 injection h with _ h
 obtain⟨h1,h2⟩:=cut_at 58 _ _ (itoa_no (.inr rfl)) (itoa_no (.inr rfl)) h
 have:=itoa_inj h1
 exact List.append_inj h2 (by omega)
def keyW (k:Int) (x l y:List UInt8):List UInt8:=Lib.itoa k++(pieceK x++(pieceK l++pieceK y))
theorem keyW_inj {k k':Int} {x l y x' l' y' r r':List UInt8} (h:keyW k x l y++r=keyW k' x' l' y'++r'):k=k'/\x=x'/\l=l'/\y=y'/\r=r':=by
 unfold keyW at h
 simp only[List.append_assoc]at h
 have h0:∀(s q:List UInt8),pieceK s++q=32::(Lib.itoa s.length++58::(s++q)):=λs q=>by simp[pieceK]
 have hh:=h
 rw[h0,h0 x']at hh
 obtain⟨h1,h2⟩:=cut_at 32 _ _ (itoa_no (.inl rfl)) (itoa_no (.inl rfl)) hh
 have e1:=itoa_inj h1
 subst e1
 have h3:=List.append_cancel_left h
 obtain⟨e2,h4⟩:=piece_inj h3
 obtain⟨e3,h5⟩:=piece_inj h4
 obtain⟨e4,h6⟩:=piece_inj h5
 exact⟨rfl,e2,e3,e4,h6⟩
theorem keyW_has (k:Int) (x l y:List UInt8):keyW k x l y≠[]:=by
 unfold keyW pieceK;simp
end Om
open Tx
theorem bTy:WTy 164 2:=⟨by kernel_rfl,by decide⟩
abbrev BI (B b:Nat) (acc:List UInt8) (w:World):Prop:=WIs 164 [] B b (Lib.byteCells acc) w
theorem bWrite (B b:Nat) (acc:List UInt8) (s:ByteArray) (w:World) (h:BI B b acc w) (ha:acc.length<=100000000000000) (hs:s.size<=1000000000) (hBw:B<=w.heap.size) :
  Calls Tryz.prog 138 #[.pointer (some ⟨b,0,none⟩),.string s] w λe w'=>(∃u,e=.returned u)/\BI B b (acc++s.data.toList) w'/\Below B w w'/\OK8 b w w':=by
 refine(wString bTy B b _ s w h (by rw[Lib.byteCells_length];omega) hBw).mono ?_
 rintro e w' ⟨rfl,h1,h2,h3⟩
 rw[Lib.strCells_eq,←Lib.byteCells_append]at h1
 exact⟨⟨_,rfl⟩,.inr h1,h2,h3⟩
def PowV (w:World):Prop:=Lib.TabIs Tryz.prog w "internal/strconv.uint64pow10" .u64 Lib.pow10Tab
theorem PowV.step {w w':World} (h:PowV w) (hb:Below w.heap.size w w'):PowV w':=(Lib.tabBelow_of_tabIs h) w' hb
def inI (n:Int):Prop:=-9223372036854775808<=n/\n<=9223372036854775807
theorem below_gd (w:World) (k:Nat) (os:Array Obj):Below w.heap.size w (Sort.grow (w.drewN k) os):=⟨rfl,rfl,rfl,by simp[Sort.grow,World.drewN],λi hi=>by simp only[Sort.grow,World.drewN];rw[Array.getElem?_append,if_pos hi]⟩
theorem itoaB (n:Int) (w:World) (h:inI n) (hP:PowV w):Calls Tryz.prog 139 #[.int .i64 n] w λe w'=>e=.returned (.string ⟨(Lib.itoa n).toArray⟩)/\Below w.heap.size w w':=
 (Tryz.strconv_Itoa n h.1 h.2 w hP).mono λe w' ⟨h1,k,os,h2⟩=>⟨h1,by subst h2;exact below_gd _ _ _⟩
def keyT (t:Tm):List UInt8:=keyW t.k (bl t.x) (bl t.l) (bl t.y)
def keyL (r:List Tm):List UInt8:=r.flatMap keyT
theorem keyL_inj:∀(a b:List Tm),keyL a=keyL b->a=b
 | [],[],_=>rfl
 | [],t::r,h=>by
  exfalso
  have:keyT t++keyL r=[]:=h.symm
  exact keyW_has _ _ _ _ (List.append_eq_nil_iff.1 this).1
 | t::r,[],h=>by
  exfalso
  have:keyT t++keyL r=[]:=h
  exact keyW_has _ _ _ _ (List.append_eq_nil_iff.1 this).1
 | a::l,b::m,h=>by
  have h:keyT a++keyL l=keyT b++keyL m:=h
  obtain⟨h1,h2,h3,h4,h5⟩:=keyW_inj h
  rw[keyL_inj l m h5]
  obtain⟨k,x,ll,y⟩:=a
  obtain⟨k',x',l',y'⟩:=b
  simp only at h1 h2 h3 h4
  rw[h1,ba_ext h2,ba_ext h3,ba_ext h4]
def keyTm (t:Tm):Prop:=inI t.k/\t.x.size<=1048576/\t.l.size<=1048576/\t.y.size<=1048576
theorem itoa_len (n:Int) (h:inI n):(Lib.itoa n).length<=21:=Lib.itoa_length_le n h.1 h.2
theorem piece_len {s:List UInt8} (h:s.length<=1048576):(pieceK s).length<=1049000:=by
 have:=itoa_len (s.length:Int) ⟨by omega,by omega⟩
 unfold pieceK
 simp only[List.length_cons,List.length_append];omega
theorem keyT_len {t:Tm} (h:keyTm t):(keyT t).length<=4000000:=by
 obtain⟨h0,h1,h2,h3⟩:=h
 have a0:=itoa_len t.k h0
 have a1:=piece_len (s:=bl t.x) (by rw[size_toList];exact h1)
 have a2:=piece_len (s:=bl t.l) (by rw[size_toList];exact h2)
 have a3:=piece_len (s:=bl t.y) (by rw[size_toList];exact h3)
 unfold keyT keyW
 simp only[List.length_append];omega
theorem keyL_len:∀(r:List Tm),(∀t∈r,keyTm t)->(keyL r).length<=r.length*4000000
 | [],_=>by simp[keyL]
 | t::r,h=>by
  have h1:=keyT_len (h t (by simp))
  have h2:=keyL_len r λx hx=>h x (by simp[hx])
  show (keyT t++keyL r).length<=_
  rw[List.length_append,List.length_cons,Nat.succ_mul];omega
theorem keyL_snoc {r:List Tm} {k:Nat} {t:Tm} (h:r[k]?=some t):keyL (r.take (k+1))=keyL (r.take k)++keyT t:=by
 rw[take_snoc_of h];unfold keyL;rw[List.flatMap_append];simp
theorem itoaQ (n:Int) (w:World) (h:inI n) (hP:PowV w):Calls Tryz.prog 139 #[.int .i64 n] w λe w'=>∃q:ByteArray,e=.returned (.string q)/\q.size<=21/\q.data.toList=Lib.itoa n/\Below w.heap.size w w':=
 (itoaB n w h hP).mono λe w' ⟨h1,h2⟩=>⟨_,h1,by rw[←size_toList];simpa using itoa_len n h,by simp,h2⟩
def psT (t:Tm):List ByteArray:=[t.x,t.l,t.y]
theorem psT_all (t:Tm):(Lib.itoa t.k++((psT t).take 3).flatMap λs=>pieceK s.data.toList)=keyT t:=by
 unfold psT keyT keyW bl;simp
theorem psT_snoc (t:Tm) {j:Nat} {s:ByteArray} (h:(psT t)[j]?=some s):(((psT t).take (j+1)).flatMap λs=>pieceK s.data.toList)=(((psT t).take j).flatMap λs=>pieceK s.data.toList)++pieceK s.data.toList:=by
 rw[take_snoc_of h,List.flatMap_append];simp
theorem psT_len {t:Tm} (ht:keyTm t) (j:Nat) (hj:j<=3):(((psT t).take j).flatMap λs=>pieceK s.data.toList).length<=3147000:=by
 have a1:=piece_len (s:=t.x.data.toList) (by rw[size_toList];exact ht.2.1)
 have a2:=piece_len (s:=t.l.data.toList) (by rw[size_toList];exact ht.2.2.1)
 have a3:=piece_len (s:=t.y.data.toList) (by rw[size_toList];exact ht.2.2.2)
 match j,hj with
 | 0,_=>simp
 | 1,_=>simp[psT];omega
 | 2,_=>simp[psT];omega
 | 3,_=>simp[psT];omega
theorem cat4 (q s:ByteArray):((⟨#[32]⟩:ByteArray)++q++⟨#[58]⟩++s).data.toList=32::(q.data.toList++58::s.data.toList):=by
 simp[ByteArray.data_append]
theorem ordKey (row:List Tm) (A:Option Addr) (c n:Nat) (w:World) (hn:row.length=n) (hl:n<=1000000) (hP:PowV w) (hr:RdTs w A row) (hz:∀t∈row,keyTm t) :
  Calls Tryz.prog 100 #[.slice A n c] w λe w'=>e=.returned (.string ⟨(keyL row).toArray⟩)/\Below w.heap.size w w':=by
 have HN:=Lib.hid hn
 have HR:=Lib.hid (And.intro hr (And.intro hz hP))
 have hB0:BI w.heap.size w.heap.size (keyL (row.take 0)) (w.alloc (.cells #[.pointer none,.slice none 0 0] 164)):=.inl (WAt.new w _ [])
 have HS:Hid (BI w.heap.size w.heap.size (keyL (row.take 0)) (w.alloc (.cells #[.pointer none,.slice none 0 0] 164))/\Below w.heap.size w (w.alloc (.cells #[.pointer none,.slice none 0 0] 164))):=⟨hB0,blw⟩
 clear hn hr hz hP hB0
 go_enter Tryz.func100,Tryz.ntmps100
 go_wp2
 go_loopw [5,7,10] (λu5 u7 i wr=>∃k:Nat,k<=n/\i=.int .i64 k/\Hid (BI w.heap.size w.heap.size (keyL (row.take k)) wr/\Below w.heap.size w wr)) (λ_ _ i _=>n-(intOf i).toNat)
 case atStart=>exact⟨0,by omega,rfl,HS⟩
 case round =>
  clear HS
  obtain⟨k,hk,rfl,HB⟩:=hrel
  by_cases hlt:k<n
  ·obtain⟨t,ht⟩:∃t,row[k]?=some t:=⟨_,List.getElem?_eq_getElem (by rw[HN.out];exact hlt)⟩
   obtain⟨g,o,rfl,a0,a1,a2,a3⟩:=(RdTs.later HR.out.1 HB.out.2).at4 ht
   have hzt:=HR.out.2.1 t (List.mem_of_getElem? ht)
   have hW1:Below wr.heap.size wr (wr.alloc (.cells #[.int .i64 t.k,.string t.x,.string t.l,.string t.y] 76)):=blw
   have hIt:=itoaQ t.k _ hzt.1 (HR.out.2.2.step (below_tr HB.out.2 hW1))
   have HT:=Lib.hid (And.intro ht hzt)
   have hzw:w.heap.size<wr.heap.size:=HB.out.1.lt
   clear ht hzt
   go_wp2_with fail
   refine hIt.mono ?_
   rintro e w2 ⟨q,rfl,hq1,hq2,hb2⟩
   have hbx2:w2.heap[wr.heap.size]?=some (Obj.cells #[.int .i64 t.k,.string t.x,.string t.l,.string t.y] 76 (0,0)):=by rw[hb2.block _ (by simp)];exact heap_alloc_new wr _
   have hacc:(keyL (row.take k)).length<=4000000000000:=by
    have h1:=keyL_len (row.take k) λx hx=>HR.out.2.1 x (List.mem_of_mem_take hx)
    have h2:(row.take k).length<=1000000:=by rw[List.length_take];omega
    have h3:=Nat.mul_le_mul_right 4000000 h2
    omega
   have hwr:=bWrite w.heap.size w.heap.size (keyL (row.take k)) q w2 ((HB.out.1.alloc _).step hb2) (by omega) (by omega) (Nat.le_trans hW1.size (Nat.le_trans (Nat.le_of_eq rfl) hb2.size) |> Nat.le_trans HB.out.2.size)
   have HB2:=Lib.hid (HB.out.2.trans ((below_tr hW1 hb2).mono HB.out.2.size))
   have HQ:=Lib.hid hq2
   clear hIt hb2 hq2 a0 a1 a2 a3 hW1
   go_wp2_with fail
   refine hwr.mono ?_
   rintro e w3 ⟨⟨u,rfl⟩,hBI3,hb3,hok3⟩
   have hbx3:=hok3 wr.heap.size _ hbx2 (λe=>by injection e with e;omega) (λc fz e=>by injection e with _ e _;exact absurd e (by decide))
   have b1:w3.cell? ⟨wr.heap.size,1,none⟩=some (.string t.x):=by rw[Lib.cell_of_heap hbx3];rfl
   have b2:w3.cell? ⟨wr.heap.size,2,none⟩=some (.string t.l):=by rw[Lib.cell_of_heap hbx3];rfl
   have b3:w3.cell? ⟨wr.heap.size,3,none⟩=some (.string t.y):=by rw[Lib.cell_of_heap hbx3];rfl
   have HB3:=Lib.hid (HB2.out.trans hb3)
   have hI0:BI w.heap.size w.heap.size (keyL (row.take k)++(Lib.itoa t.k++((psT t).take 0).flatMap λs=>pieceK s.data.toList)) (w3.alloc (.cells #[.string t.x,.string t.l,.string t.y] 9)):=by
    have:=hBI3.alloc (.cells #[.string t.x,.string t.l,.string t.y] 9)
    rw[HQ.out]at this
    simpa using this
   have HI0:Hid (BI w.heap.size w.heap.size (keyL (row.take k)++(Lib.itoa t.k++((psT t).take 0).flatMap λs=>pieceK s.data.toList)) (w3.alloc (.cells #[.string t.x,.string t.l,.string t.y] 9))/\Below w.heap.size w (w3.alloc (.cells #[.string t.x,.string t.l,.string t.y] 9))/\(w3.alloc (.cells #[.string t.x,.string t.l,.string t.y] 9)).heap[w3.heap.size]?=some (Obj.cells #[.string t.x,.string t.l,.string t.y] 9 (0,0))):=
    ⟨hI0,HB3.out.alloc HB3.out.size _,heap_alloc_new w3 _⟩
   have hw3:w.heap.size<w3.heap.size:=hBI3.lt
   clear hBI3 hb3 hok3 hbx3 hbx2 hI0 hwr
   go_wp2
   go_loopw [7,26] (λu7 i wr2=>∃j:Nat,j<=3/\i=.int .i64 j/\w3.heap.size<wr2.heap.size/\Hid (BI w.heap.size w.heap.size (keyL (row.take k)++(Lib.itoa t.k++((psT t).take j).flatMap λs=>pieceK s.data.toList)) wr2/\Below w.heap.size w wr2/\wr2.heap[w3.heap.size]?=some (Obj.cells #[.string t.x,.string t.l,.string t.y] 9 (0,0)))) (λ_ i _=>3-(intOf i).toNat)
   case atStart=>exact⟨0,by omega,rfl,by simp,HI0⟩
   case round =>
    clear HI0 b1 b2 b3
    obtain⟨j,hj,rfl,hz9,HJ⟩:=hrel
    by_cases hlt2:j<3
    ·obtain⟨s,hs⟩:∃s,(psT t)[j]?=some s:=⟨_,List.getElem?_eq_getElem (by unfold psT;exact hlt2)⟩
     have hss:s.size<=1048576:=by
      have hm:=List.mem_of_getElem? hs
      unfold psT at hm
      simp only[List.mem_cons,List.not_mem_nil,or_false]at hm
      rcases hm with rfl|rfl|rfl
      ·exact HT.out.2.2.1
      ·exact HT.out.2.2.2.1
      ·exact HT.out.2.2.2.2
     have hcell:wr.cell? ⟨w3.heap.size,j,none⟩=some (.string s):=by
      rw[Lib.cell_of_heap HJ.out.2.2]
      have:(#[Value.string t.x,.string t.l,.string t.y]:Array Value)=((psT t).map Value.string).toArray:=rfl
      rw[this,List.getElem?_toArray,List.getElem?_map,hs];rfl
     have hIt:=itoaQ (s.size:Int) wr ⟨by omega,by omega⟩ (HR.out.2.2.step HJ.out.2.1)
     have hps:=psT_len HT.out.2 j hj
     have HPS:Hid ((((psT t).take (j+1)).flatMap λs=>pieceK s.data.toList)=(((psT t).take j).flatMap λs=>pieceK s.data.toList)++(32::(Lib.itoa (s.size:Int)++58::s.data.toList))):=by
      show _=_
      rw[psT_snoc t hs];unfold pieceK;rw[size_toList]
     clear hs
     go_wp2_with fail
     refine hIt.mono ?_
     rintro e w5 ⟨q,rfl,hq1,hq2,hb5⟩
     have HB5:=Lib.hid (And.intro hb5 hq2)
     have hitk:=itoa_len t.k HT.out.2.1
     clear hIt hb5 hq2 hcell
     go_wp2_with fail
     have hsz:(keyL (row.take k)++(Lib.itoa t.k++((psT t).take j).flatMap λs=>pieceK s.data.toList)).length<=100000000000000:=by
      rw[List.length_append,List.length_append];omega
     have hcs:((⟨#[32]⟩:ByteArray)++q++⟨#[58]⟩++s).size<=1000000000:=by
      rw[←size_toList,cat4,List.length_cons,List.length_append,List.length_cons,size_toList,size_toList];omega
     refine(bWrite w.heap.size w.heap.size _ _ w5 (HJ.out.1.step HB5.out.1) hsz hcs (Nat.le_trans HJ.out.2.1.size HB5.out.1.size)).mono ?_
     rintro e w6 ⟨⟨u,rfl⟩,hBI6,hb6,hok6⟩
     have hz6:w3.heap.size<w6.heap.size:=Nat.lt_of_lt_of_le hz9 (Nat.le_trans HB5.out.1.size hb6.size)
     have HF:Hid (BI w.heap.size w.heap.size (keyL (row.take k)++(Lib.itoa t.k++((psT t).take (j+1)).flatMap λs=>pieceK s.data.toList)) w6/\Below w.heap.size w w6/\w6.heap[w3.heap.size]?=some (Obj.cells #[.string t.x,.string t.l,.string t.y] 9 (0,0))):=by
      refine⟨?_,(HJ.out.2.1.trans (HB5.out.1.mono HJ.out.2.1.size)).trans hb6,?_⟩
      ·rw[cat4,HB5.out.2]at hBI6
       rw[HPS.out,←List.append_assoc (Lib.itoa t.k),←List.append_assoc (keyL (row.take k))]
       exact hBI6
      ·exact hok6 _ _ (by rw[HB5.out.1.block _ hz9];exact HJ.out.2.2) (λe=>by injection e with e;omega) (λc fz e=>by injection e with _ e _;exact absurd e (by decide))
     clear hBI6 hb6 hok6 hsz hcs HJ
     go_wp2
     go_roundw
     case rel=>exact⟨j+1,by omega,by go_num,hz6,HF⟩
     case measure=>simp[intOf];omega
    ·obtain rfl:j=3:=by omega
     have HF:Hid (BI w.heap.size w.heap.size (keyL (row.take (k+1))) wr/\Below w.heap.size w wr):=by
      refine⟨?_,HJ.out.2.1⟩
      rw[keyL_snoc HT.out.1,←psT_all]
      exact HJ.out.1
     clear HJ
     go_wp2
     go_roundw
     case rel=>exact⟨k+1,by omega,by go_num,HF⟩
     case measure=>simp[intOf];omega
  ·obtain rfl:k=n:=by omega
   have hS:=Tryz.Builder_String_any_f w.heap.size w.heap.size (keyL row) wr (by
    have:=HB.out.1
    rw[List.take_of_length_le (by rw[HN.out];exact Nat.le_refl _)]at this
    exact this) HB.out.2.size
   go_wp2_with (go_at_call 140;refine hS.mono ?_;rintro e w4 ⟨rfl,_,hb4⟩;have HF:=Lib.hid (HB.out.2.trans hb4);clear hb4 hS)
   go_ret
   exact⟨rfl,HF.out⟩
end Go.Proofs.YtoejnneknpoanaaGreatDoor
