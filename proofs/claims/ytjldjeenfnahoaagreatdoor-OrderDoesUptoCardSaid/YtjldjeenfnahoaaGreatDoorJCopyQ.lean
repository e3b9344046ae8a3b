/- The kit's flat lists, lent: printed by gen/lent.py. The kit' -/
import Derived.Test.YtjldjeenfnahoaaGreatDoorJCopy
set_option maxHeartbeats 2000000
set_option maxRecDepth 10000
namespace Go.Proofs.YtjldjeenfnahoaaGreatDoor
open Go Go.RowKit Um Fm
theorem jc:(Tryz.prog.info? 65).map (λi=>(i.zero,i.size,i.bytes))=some (some (.agg #[.int .i64 0,.string ⟨#[]⟩,.string ⟨#[]⟩,.string ⟨#[]⟩]),4,56):=by kernel_rfl
theorem Ak (l:List Tm):∀u∈l.flatMap tmC,u.oneCell'=true:=by
 intro u hu
 obtain⟨t,_,ht⟩:=List.mem_flatMap.1 hu
 simp only[tmC,List.mem_cons,List.not_mem_nil,or_false]at ht
 rcases ht with rfl|rfl|rfl|rfl<;>rfl
theorem rQ (l:List Tm):(l.flatMap tmC).length=l.length*4:=by
 induction l with
 | nil=>rfl
 | cons a r ih=>simp[List.flatMap_cons,ih,tmC,Nat.add_mul]
def iM (i:Int):Pat:=⟨⟨⟨#[]⟩,eZ i⟩,⟨⟨#[]⟩,zTm⟩,⟨⟨#[]⟩,zTm⟩⟩
def iN (i:Int):Ky:=⟨mkT 1 i,false⟩
def te (l:List ByteArray) (w:World) (v i:Value) (wr:World):Prop:=∃k:Nat,k<=12/\i=.int .i64 k/\v=.slice (some ⟨w.heap.size,0,none⟩) (l.length+k) (l.length+12)/\wr.ownsRow w.heap.size 9 1 (.slice (some ⟨w.heap.size,0,none⟩) (l.length+k) (l.length+12)) (l.length+k) ((l++(List.range k).map (λj=>(λi=>mkT 1 i) ((j:Nat):Int))).map Value.string)/\Below w.heap.size w wr
theorem nZ (l:List ByteArray) (A:Option Addr) (c:Nat) (w:World) (hr:Rd w A (l.map Value.string)) (hl:l.length<=1048576) :
  Calls Tryz.prog 7 #[.slice A l.length c] w λe w'=>e=.returned (.slice (some ⟨w.heap.size,0,none⟩) l.length (l.length+12))/\aG 9 w' w.heap.size ((l++marksOf (λi=>mkT 1 i)).map Value.string)/\Below w.heap.size w w':=by
 obtain⟨i,hi,hz,hsize,hby⟩:=info_parts fO
 have hby2:i.bytes*(l.length+12)<=281474976710656:=by rw[hby];omega
 have hn:(l.map Value.string).length=l.length*1:=(by simp)
 have Hi:=Lib.hid hi
 have Hz:=Lib.hid hz
 have Hsize:=Lib.hid hsize
 clear hi hz hsize hby
 go_enter Tryz.func7,Tryz.ntmps7
 go_wp2_with (first
  | (at_make;refine wpList_make_own w rfl _ _ 22 rfl w.heap.size 9 i _ 1 Tryz.underlying22 Hi.out Hz.out Hsize.out .i64 .i64 _ (l.length+12) rfl rfl (by omega) hby2 (by unfold maxLen;omega) (Nat.le_refl _) ?_;intro w1 hown1 hg1;have hb1:Below w.heap.size w w1:=(Below.refl _ _).grown hg1 (Nat.le_refl _) (by simp))
  | (at_builtin;refine aL rfl rfl Tryz.underlying22 fO (by omega) rfl hown1 rfl (hr.of_belowL hb1) hn (Ce _) (by omega) ?_;intro w2 hown2 hg2;have hb2:Below w.heap.size w w2:=hb1.grown hg2 hb1.size (by intro k hk;injection hk with hk;omega)))
 rw[Nat.zero_add,List.nil_append]at hown2
 go_loopw [3,4] (te l w) (λ_ i _=>12-(intOf i).toNat)
 case atStart=>exact⟨0,by omega,rfl,by simp,by simpa using hown2,hb2⟩
 case round =>
  clear hown2 hb2 hown1 hb1 hg1 hg2 hr hn
  obtain⟨k,hk,rfl,rfl,hown,hB⟩:=hrel
  by_cases hlt:k<12
  ·have hmk:=λW=>kC 1 (k:Int) W (by omega) (by omega) (by omega) (by omega)
   have hms:(l++(List.range k).map (λj=>(λi=>mkT 1 i) ((j:Nat):Int))).map Value.string++[Value.string (mkT 1 (k:Int))]=(l++(List.range (k+1)).map (λj=>(λi=>mkT 1 i) ((j:Nat):Int))).map Value.string:=by
    rw[List.range_succ];simp[List.map_append]
   have Hms:=Lib.hid hms
   clear hms
   generalize mkT 1 (k:Int)=s at *
   go_wp2_with fail
   refine(hmk _).mono ?_
   rintro e w3 ⟨rfl,hb3⟩
   have hz:w.heap.size<=w3.heap.size:=Nat.le_trans hB.size hb3.size
   have hown3:=(own_below hown hb3 (Nat.le_refl _)).alloc (.cells #[.string s] 9)
   go_wp2_with (at_builtin;refine aL rfl rfl Tryz.underlying22 fO (by omega) rfl hown3 rfl (Rd.of_block (heap_alloc_new w3 _) rfl) rfl (by intro u hu;simp only[List.mem_cons,List.not_mem_nil,or_false]at hu;rcases hu with rfl<;>rfl) (by omega) ?_;intro w4 hown4 hg4)
   have hb4:Below w.heap.size w w4:=((hB.trans (hb3.mono hB.size)).alloc hz _).grown hg4 (by simp;omega) (by intro k hk;injection hk with hk;omega)
   go_roundw
   case rel=>exact⟨k+1,by omega,by go_num,rfl,by rw[←Hms.out];exact hown4,hb4⟩
   case measure=>simp[intOf];omega
  ·have hk12:k=12:=by omega
   subst hk12
   have hfin:=aG.of_own hown
   have Hfin:=Lib.hid hfin
   clear hfin hown
   go_wp2
   go_ret
   exact⟨by simp,by first|exact Hfin.out|simpa[List.map_append,List.flatMap_append,marksOf] using Hfin.out,hB⟩
def tf (l:List Tm) (w:World) (v i:Value) (wr:World):Prop:=∃k:Nat,k<=12/\i=.int .i64 k/\v=.slice (some ⟨w.heap.size,0,none⟩) (l.length+k) (l.length+12)/\wr.ownsRow w.heap.size 65 4 (.slice (some ⟨w.heap.size,0,none⟩) (l.length+k) (l.length+12)) (l.length+k) ((l++(List.range k).map (λj=>(eZ) ((j:Nat):Int))).flatMap tmC)/\Below w.heap.size w wr
theorem vQ (l:List Tm) (A:Option Addr) (c:Nat) (w:World) (hr:Rd w A (l.flatMap tmC)) (hl:l.length<=1048576) :
  Calls Tryz.prog 34 #[.slice A l.length c] w λe w'=>e=.returned (.slice (some ⟨w.heap.size,0,none⟩) l.length (l.length+12))/\aG 65 w' w.heap.size ((l++marksOf (eZ)).flatMap tmC)/\Below w.heap.size w w':=by
 obtain⟨i,hi,hz,hsize,hby⟩:=info_parts jc
 have hby2:i.bytes*(l.length+12)<=281474976710656:=by rw[hby];omega
 have hn:(l.flatMap tmC).length=l.length*4:=(rQ _)
 have Hi:=Lib.hid hi
 have Hz:=Lib.hid hz
 have Hsize:=Lib.hid hsize
 clear hi hz hsize hby
 go_enter Tryz.func34,Tryz.ntmps34
 go_wp2_with (first
  | (at_make;refine wpList_make_own w rfl _ _ 69 rfl w.heap.size 65 i _ 4 Tryz.underlying69 Hi.out Hz.out Hsize.out .i64 .i64 _ (l.length+12) rfl rfl (by omega) hby2 (by unfold maxLen;omega) (Nat.le_refl _) ?_;intro w1 hown1 hg1;have hb1:Below w.heap.size w w1:=(Below.refl _ _).grown hg1 (Nat.le_refl _) (by simp))
  | (at_builtin;refine aL rfl rfl Tryz.underlying69 jc (by omega) rfl hown1 rfl (hr.of_belowL hb1) hn (Ak _) (by omega) ?_;intro w2 hown2 hg2;have hb2:Below w.heap.size w w2:=hb1.grown hg2 hb1.size (by intro k hk;injection hk with hk;omega)))
 rw[Nat.zero_add,List.nil_append]at hown2
 go_loopw [3,4] (tf l w) (λ_ i _=>12-(intOf i).toNat)
 case atStart=>exact⟨0,by omega,rfl,by simp,by simpa using hown2,hb2⟩
 case round =>
  clear hown2 hb2 hown1 hb1 hg1 hg2 hr hn
  obtain⟨k,hk,rfl,rfl,hown,hB⟩:=hrel
  by_cases hlt:k<12
  ·have hmk:=λW=>yA (k:Int) W (by omega) (by omega)
   have hms:(l++(List.range k).map (λj=>(eZ) ((j:Nat):Int))).flatMap tmC++[.int .i64 (8000024+(k:Int)),.string ⟨#[]⟩,.string ⟨#[]⟩,.string ⟨#[]⟩]=(l++(List.range (k+1)).map (λj=>(eZ) ((j:Nat):Int))).flatMap tmC:=by
    rw[List.range_succ];simp[List.map_append,List.flatMap_append,tmC,eZ]
   have Hms:=Lib.hid hms
   clear hms
   generalize 8000024+(k:Int)=s at *
   go_wp2_with fail
   refine(hmk _).mono ?_
   rintro e w3 ⟨rfl,hb3⟩
   have hz:w.heap.size<=w3.heap.size:=Nat.le_trans hB.size hb3.size
   have hown3:=(own_below hown hb3 (Nat.le_refl _)).alloc (.cells #[.int .i64 s,.string ⟨#[]⟩,.string ⟨#[]⟩,.string ⟨#[]⟩] 65)
   go_wp2_with (at_builtin;refine aL rfl rfl Tryz.underlying69 jc (by omega) rfl hown3 rfl (Rd.of_block (heap_alloc_new w3 _) rfl) rfl (by intro u hu;simp only[List.mem_cons,List.not_mem_nil,or_false]at hu;rcases hu with rfl|rfl|rfl|rfl<;>rfl) (by omega) ?_;intro w4 hown4 hg4)
   have hb4:Below w.heap.size w w4:=((hB.trans (hb3.mono hB.size)).alloc hz _).grown hg4 (by simp;omega) (by intro k hk;injection hk with hk;omega)
   go_roundw
   case rel=>exact⟨k+1,by omega,by go_num,rfl,by rw[←Hms.out];exact hown4,hb4⟩
   case measure=>simp[intOf];omega
  ·have hk12:k=12:=by omega
   subst hk12
   have hfin:=aG.of_own hown
   have Hfin:=Lib.hid hfin
   clear hfin hown
   go_wp2
   go_ret
   exact⟨by simp,by first|exact Hfin.out|simpa[List.map_append,List.flatMap_append,marksOf] using Hfin.out,hB⟩
def nm (l:List Pat) (w:World) (v i:Value) (wr:World):Prop:=∃k:Nat,k<=12/\i=.int .i64 k/\v=.slice (some ⟨w.heap.size,0,none⟩) (l.length+k) (l.length+12)/\wr.ownsRow w.heap.size 101 15 (.slice (some ⟨w.heap.size,0,none⟩) (l.length+k) (l.length+12)) (l.length+k) ((l++(List.range k).map (λj=>(iM) ((j:Nat):Int))).flatMap cPat)/\Below w.heap.size w wr
theorem pc (l:List Pat) (A:Option Addr) (c:Nat) (w:World) (hr:Rd w A (l.flatMap cPat)) (hl:l.length<=1048576) :
  Calls Tryz.prog 35 #[.slice A l.length c] w λe w'=>e=.returned (.slice (some ⟨w.heap.size,0,none⟩) l.length (l.length+12))/\aG 101 w' w.heap.size ((l++marksOf (iM)).flatMap cPat)/\Below w.heap.size w w':=by
 obtain⟨i,hi,hz,hsize,hby⟩:=info_parts lv
 have hby2:i.bytes*(l.length+12)<=281474976710656:=by rw[hby];omega
 have hn:(l.flatMap cPat).length=l.length*15:=(vo _)
 have Hi:=Lib.hid hi
 have Hz:=Lib.hid hz
 have Hsize:=Lib.hid hsize
 clear hi hz hsize hby
 go_enter Tryz.func35,Tryz.ntmps35
 go_wp2_with (first
  | (at_make;refine wpList_make_own w rfl _ _ 26 rfl w.heap.size 101 i _ 15 Tryz.underlying26 Hi.out Hz.out Hsize.out .i64 .i64 _ (l.length+12) rfl rfl (by omega) hby2 (by unfold maxLen;omega) (Nat.le_refl _) ?_;intro w1 hown1 hg1;have hb1:Below w.heap.size w w1:=(Below.refl _ _).grown hg1 (Nat.le_refl _) (by simp))
  | (at_builtin;refine aL rfl rfl Tryz.underlying26 lv (by omega) rfl hown1 rfl (hr.of_belowL hb1) hn (Cr _) (by omega) ?_;intro w2 hown2 hg2;have hb2:Below w.heap.size w w2:=hb1.grown hg2 hb1.size (by intro k hk;injection hk with hk;omega)))
 rw[Nat.zero_add,List.nil_append]at hown2
 go_loopw [3,4] (nm l w) (λ_ i _=>12-(intOf i).toNat)
 case atStart=>exact⟨0,by omega,rfl,by simp,by simpa using hown2,hb2⟩
 case round =>
  clear hown2 hb2 hown1 hb1 hg1 hg2 hr hn
  obtain⟨k,hk,rfl,rfl,hown,hB⟩:=hrel
  by_cases hlt:k<12
  ·have hmk:=λW=>yB (k:Int) W (by omega) (by omega)
   have hms:(l++(List.range k).map (λj=>(iM) ((j:Nat):Int))).flatMap cPat++[.string ⟨#[]⟩,.int .i64 (8000024+(k:Int)),.string ⟨#[]⟩,.string ⟨#[]⟩,.string ⟨#[]⟩,.string ⟨#[]⟩,.int .i64 0,.string ⟨#[]⟩,.string ⟨#[]⟩,.string ⟨#[]⟩,.string ⟨#[]⟩,.int .i64 0,.string ⟨#[]⟩,.string ⟨#[]⟩,.string ⟨#[]⟩]=(l++(List.range (k+1)).map (λj=>(iM) ((j:Nat):Int))).flatMap cPat:=by
    rw[List.range_succ];simp[List.map_append,List.flatMap_append,cPat,iM,eZ,zTm]
   have Hms:=Lib.hid hms
   clear hms
   simp only[wS,eZ,zTm]at hmk
   generalize 8000024+(k:Int)=s at *
   go_wp2_with fail
   refine(hmk _).mono ?_
   rintro e w3 ⟨rfl,hb3⟩
   have hz:w.heap.size<=w3.heap.size:=Nat.le_trans hB.size hb3.size
   have hown3:=(own_below hown hb3 (Nat.le_refl _)).alloc (.cells #[.string ⟨#[]⟩,.int .i64 s,.string ⟨#[]⟩,.string ⟨#[]⟩,.string ⟨#[]⟩,.string ⟨#[]⟩,.int .i64 0,.string ⟨#[]⟩,.string ⟨#[]⟩,.string ⟨#[]⟩,.string ⟨#[]⟩,.int .i64 0,.string ⟨#[]⟩,.string ⟨#[]⟩,.string ⟨#[]⟩] 101)
   go_wp2_with (at_builtin;refine aL rfl rfl Tryz.underlying26 lv (by omega) rfl hown3 rfl (Rd.of_block (heap_alloc_new w3 _) rfl) rfl (by intro u hu;simp only[List.mem_cons,List.not_mem_nil,or_false]at hu;rcases hu with rfl|rfl|rfl|rfl|rfl|rfl|rfl|rfl|rfl|rfl|rfl|rfl|rfl|rfl|rfl<;>rfl) (by omega) ?_;intro w4 hown4 hg4)
   have hb4:Below w.heap.size w w4:=((hB.trans (hb3.mono hB.size)).alloc hz _).grown hg4 (by simp;omega) (by intro k hk;injection hk with hk;omega)
   go_roundw
   case rel=>exact⟨k+1,by omega,by go_num,rfl,by rw[←Hms.out];exact hown4,hb4⟩
   case measure=>simp[intOf];omega
  ·have hk12:k=12:=by omega
   subst hk12
   have hfin:=aG.of_own hown
   have Hfin:=Lib.hid hfin
   clear hfin hown
   go_wp2
   go_ret
   exact⟨by simp,by first|exact Hfin.out|simpa[List.map_append,List.flatMap_append,marksOf] using Hfin.out,hB⟩
def wN (l:List Ky) (w:World) (v i:Value) (wr:World):Prop:=∃k:Nat,k<=12/\i=.int .i64 k/\v=.slice (some ⟨w.heap.size,0,none⟩) (l.length+k) (l.length+12)/\wr.ownsRow w.heap.size 61 2 (.slice (some ⟨w.heap.size,0,none⟩) (l.length+k) (l.length+12)) (l.length+k) ((l++(List.range k).map (λj=>(iN) ((j:Nat):Int))).flatMap cKey)/\Below w.heap.size w wr
theorem yH (l:List Ky) (A:Option Addr) (c:Nat) (w:World) (hr:Rd w A (l.flatMap cKey)) (hl:l.length<=1048576) :
  Calls Tryz.prog 37 #[.slice A l.length c] w λe w'=>e=.returned (.slice (some ⟨w.heap.size,0,none⟩) l.length (l.length+12))/\aG 61 w' w.heap.size ((l++marksOf (iN)).flatMap cKey)/\Below w.heap.size w w':=by
 obtain⟨i,hi,hz,hsize,hby⟩:=info_parts lS
 have hby2:i.bytes*(l.length+12)<=281474976710656:=by rw[hby];omega
 have hn:(l.flatMap cKey).length=l.length*2:=(vU _)
 have Hi:=Lib.hid hi
 have Hz:=Lib.hid hz
 have Hsize:=Lib.hid hsize
 clear hi hz hsize hby
 go_enter Tryz.func37,Tryz.ntmps37
 go_wp2_with (first
  | (at_make;refine wpList_make_own w rfl _ _ 28 rfl w.heap.size 61 i _ 2 Tryz.underlying28 Hi.out Hz.out Hsize.out .i64 .i64 _ (l.length+12) rfl rfl (by omega) hby2 (by unfold maxLen;omega) (Nat.le_refl _) ?_;intro w1 hown1 hg1;have hb1:Below w.heap.size w w1:=(Below.refl _ _).grown hg1 (Nat.le_refl _) (by simp))
  | (at_builtin;refine aL rfl rfl Tryz.underlying28 lS (by omega) rfl hown1 rfl (hr.of_belowL hb1) hn (CI _) (by omega) ?_;intro w2 hown2 hg2;have hb2:Below w.heap.size w w2:=hb1.grown hg2 hb1.size (by intro k hk;injection hk with hk;omega)))
 rw[Nat.zero_add,List.nil_append]at hown2
 go_loopw [3,4] (wN l w) (λ_ i _=>12-(intOf i).toNat)
 case atStart=>exact⟨0,by omega,rfl,by simp,by simpa using hown2,hb2⟩
 case round =>
  clear hown2 hb2 hown1 hb1 hg1 hg2 hr hn
  obtain⟨k,hk,rfl,rfl,hown,hB⟩:=hrel
  by_cases hlt:k<12
  ·have hmk:=λW=>yC (k:Int) W (by omega) (by omega)
   have hms:(l++(List.range k).map (λj=>(iN) ((j:Nat):Int))).flatMap cKey++[Value.string (mkT 1 (k:Int)),.bool false]=(l++(List.range (k+1)).map (λj=>(iN) ((j:Nat):Int))).flatMap cKey:=by
    rw[List.range_succ];simp[List.map_append,List.flatMap_append,cKey,iN]
   have Hms:=Lib.hid hms
   clear hms
   generalize mkT 1 (k:Int)=s at *
   go_wp2_with fail
   refine(hmk _).mono ?_
   rintro e w3 ⟨rfl,hb3⟩
   have hz:w.heap.size<=w3.heap.size:=Nat.le_trans hB.size hb3.size
   have hown3:=(own_below hown hb3 (Nat.le_refl _)).alloc (.cells #[.string s,.bool false] 61)
   go_wp2_with (at_builtin;refine aL rfl rfl Tryz.underlying28 lS (by omega) rfl hown3 rfl (Rd.of_block (heap_alloc_new w3 _) rfl) rfl (by intro u hu;simp only[List.mem_cons,List.not_mem_nil,or_false]at hu;rcases hu with rfl|rfl<;>rfl) (by omega) ?_;intro w4 hown4 hg4)
   have hb4:Below w.heap.size w w4:=((hB.trans (hb3.mono hB.size)).alloc hz _).grown hg4 (by simp;omega) (by intro k hk;injection hk with hk;omega)
   go_roundw
   case rel=>exact⟨k+1,by omega,by go_num,rfl,by rw[←Hms.out];exact hown4,hb4⟩
   case measure=>simp[intOf];omega
  ·have hk12:k=12:=by omega
   subst hk12
   have hfin:=aG.of_own hown
   have Hfin:=Lib.hid hfin
   clear hfin hown
   go_wp2
   go_ret
   exact⟨by simp,by first|exact Hfin.out|simpa[List.map_append,List.flatMap_append,marksOf] using Hfin.out,hB⟩
theorem cell_of_row {w:World} {g j:Nat} {cs:Array Value} {t:TypeId} {f:Nat × Nat} {u:Value} (h:w.heap[g]?=some (.cells cs t f)) (hj:cs[j]?=some u):w.cell? ⟨g,j,none⟩=some u:=by
 rw[World.cell?,h];exact hj
def aE (B:Nat) (w w':World):Prop:=∀(g:Nat) (o:Obj),B<=g->w.heap[g]?=some o->w'.heap[g]?=some o
theorem aE.trans {B:Nat} {a b c:World} (h:aE B a b) (k:aE B b c):aE B a c:=λg o hg x=>k g o hg (h g o hg x)
theorem aE.below {B:Nat} {w w':World} (h:Below w.heap.size w w'):aE B w w':=λg o _ x=>by
 have:g<w.heap.size:=by
  rcases Nat.lt_or_ge g w.heap.size with hlt|hge
  ·exact hlt
  ·rw[Array.getElem?_eq_none hge]at x;cases x
 rw[h.block g this];exact x
theorem aE.row {B r:Nat} {w w':World} (h:w.grownBy w' (some r)) (hr:r<B):aE B w w':=λg o hg x=>by
 have:g<w.heap.size:=by
  rcases Nat.lt_or_ge g w.heap.size with hlt|hge
  ·exact hlt
  ·rw[Array.getElem?_eq_none hge]at x;cases x
 rw[h.block g this (by intro e;injection e with e;omega)];exact x
theorem aE.set {B b i:Nat} {v:Value} {w:World} (hb:b<B):aE B w (w.setCell ⟨b,i,none⟩ v):=λg o hg x=>by
 rw[heap_setCell_other _ _ _ _ (by simp;omega)];exact x
theorem aE.setRow {B b:Nat} {vs:Array Value} {w:World} (hb:b<B):aE B w (w.setRow b vs):=λg o hg x=>by
 rw[setRow_other _ _ _ _ (by omega)];exact x
def eJ:List Value:=(List.range 12).flatMap λ(j:Nat)=>mkE (j:Int)
def dh:(n:Nat)->Nat->World->List Value->ExT n->Prop
 | 0,_,_,_,_=>False
 | n+1,B,w,cs,(k,s,t,kids)=>∃(g:Nat) (xs:List Value),cs=[.int .i64 k,.string s,.int .i64 t.k,.string t.x,.string t.l,.string t.y,.slice (some ⟨g,0,none⟩) kids.length (kids.length+12)]/\B<=g/\aG 67 w g (xs++eJ)/\All 7 (dh n B w) xs kids
theorem aG.stays {T:TypeId} {B:Nat} {w w':World} {g:Nat} {xs:List Value} (h:aG T w g xs) (hs:aE B w w') (hB:B<=g):aG T w' g xs:=by
 obtain⟨cur,h1,h2⟩:=h
 exact⟨cur,hs g _ hB h1,h2⟩
theorem dh.step:∀{n B:Nat} {w w':World} {cs:List Value} {e:ExT n},dh n B w cs e->aE B w w'->dh n B w' cs e
 | 0,_,_,_,_,_,h,_=>h.elim
 | _n+1,_B,_w,_w',_cs,(_k,_s,_t,_kids),⟨g,xs,h1,h2,h3,h4⟩,hs=>⟨g,xs,h1,h2,h3.stays hs h2,h4.mono λ_ _ _ h=>h.step hs⟩
theorem dh.lower:∀{n B B':Nat} {w:World} {cs:List Value} {e:ExT n},dh n B w cs e->B'<=B->dh n B' w cs e
 | 0,_,_,_,_,_,h,_=>h.elim
 | _n+1,_B,_B',_w,_cs,(_k,_s,_t,_kids),⟨g,xs,h1,h2,h3,h4⟩,hs=>⟨g,xs,h1,Nat.le_trans hs h2,h3,h4.mono λ_ _ _ h=>h.lower hs⟩
theorem aG.rd1 {T:TypeId} {w:World} {g:Nat} {xs ys:List Value} (h:aG T w g (xs++ys)):Rd w (some ⟨g,0,none⟩) xs:=by
 have:=h.rd.take xs.length
 rwa [List.take_left]at this
theorem dh.rdE:∀{n B:Nat} {w:World} {cs:List Value} {e:ExT n},dh n B w cs e->RdE n w cs e
 | 0,_,_,_,_,h=>h.elim
 | _n+1,_B,_w,_cs,(_k,_s,_t,_kids),⟨_g,xs,h1,_h2,h3,h4⟩=>⟨_,_,h1,Nat.le_add_right _ _,xs,h3.rd1,h4.mono λ_ _ _ h=>h.rdE⟩
def LnE (n:Nat):Prop:=∀(x:ExT n) (cs:List Value) (W:World),RdE n W cs x->szE n x->Calls Tryz.prog 64 #[.agg cs.toArray] W λe w'=>∃ds:List Value,e=.returned (.agg ds.toArray)/\dh n W.heap.size w' ds x/\Below W.heap.size W w'
def LnI (n:Nat) (l:List (ExT n)) (w:World) (v i:Value) (wr:World):Prop:=∃(k:Nat) (xs:List Value),k<=l.length/\i=.int .i64 k/\v=.slice (some ⟨w.heap.size,0,none⟩) k (l.length+12)/\wr.ownsRow w.heap.size 67 7 (.slice (some ⟨w.heap.size,0,none⟩) k (l.length+12)) k xs/\Below w.heap.size w wr/\w.heap.size+1<=wr.heap.size/\All 7 (dh n (w.heap.size+1) wr) xs (l.take k)
def LnJ (n:Nat) (l:List (ExT n)) (w:World) (v i:Value) (wr:World):Prop:=∃(k:Nat) (xs:List Value),k<=12/\i=.int .i64 k/\v=.slice (some ⟨w.heap.size,0,none⟩) (l.length+k) (l.length+12)/\wr.ownsRow w.heap.size 67 7 (.slice (some ⟨w.heap.size,0,none⟩) (l.length+k) (l.length+12)) (l.length+k) (xs++(List.range k).flatMap λ(j:Nat)=>mkE (j:Int))/\Below w.heap.size w wr/\w.heap.size+1<=wr.heap.size/\All 7 (dh n (w.heap.size+1) wr) xs l
def zN (n:Nat) (l:List (ExT n)) (w:World) (e:Ending) (w':World):Prop:=∃xs:List Value,e=.returned (.slice (some ⟨w.heap.size,0,none⟩) l.length (l.length+12))/\aG 67 w' w.heap.size (xs++eJ)/\All 7 (dh n (w.heap.size+1) w') xs l/\Below w.heap.size w w'
theorem o9 (n:Nat) (hE:LnE n) (l:List (ExT n)) (A:Option Addr) (c:Nat) (w:World) (hr:aF n w A l) (hl:l.length<=1353245080300) (hz:∀x∈l,szE n x) :
  Calls Tryz.prog 36 #[.slice A l.length c] w (zN n l w):=by
 obtain⟨i,hi,hzz,hsize,hby⟩:=info_parts jz
 have hby2:i.bytes*(l.length+12)<=281474976710656:=by rw[hby];omega
 have Hi:=Lib.hid hi
 have Hz:=Lib.hid hzz
 have Hsize:=Lib.hid hsize
 clear hi hzz hsize hby
 go_enter Tryz.func36,Tryz.ntmps36
 go_wp2_with (at_make;refine wpList_make_own w rfl _ _ 27 rfl w.heap.size 67 i _ 7 Tryz.underlying27 Hi.out Hz.out Hsize.out .i64 .i64 _ (l.length+12) rfl rfl (by omega) hby2 (by unfold maxLen;omega) (Nat.le_refl _) ?_;intro w1 hown1 hg1)
 have hb1:Below w.heap.size w w1:=(Below.refl _ _).grown hg1 (Nat.le_refl _) (by simp)
 have hs1:w.heap.size+1<=w1.heap.size:=(hown1.lt _ rfl).2
 go_loopw [3,4] (LnI n l w) (λ_ i _=>l.length-(intOf i).toNat)
 case atStart=>exact⟨0,[],by omega,rfl,rfl,hown1,hb1,hs1,rfl⟩
 case round =>
  clear hown1 hb1 hg1 hs1
  obtain⟨k,xs,hk,rfl,rfl,own,hB,hS,hA⟩:=hrel
  by_cases hlt:k<l.length
  ·obtain⟨x,hx⟩:∃x,l[k]?=some x:=⟨_,List.getElem?_eq_getElem hlt⟩
   obtain⟨g,o,k1,s1,t1,A1,m1,e1,rfl,hR,c0,c1,c2,c3,c4,c5,c6⟩:=(aF.later hr hB).atv hx
   have hc:=hE x _ wr hR (hz x (List.mem_of_getElem? hx))
   have HA:=Lib.hid hA
   have Hx:=Lib.hid hx
   clear hr hR hz hE hA hx
   go_wp2_with fail
   refine hc.mono ?_
   rintro e w1 ⟨ds,rfl,hd,hb1⟩
   obtain⟨k2,s2,t2,A2,m2,e2,rfl⟩:=nI hd.rdE
   clear c0 c1 c2 c3 c4 c5 c6 hc
   have hb3:Below w1.heap.size w1 ((w1.alloc (.cells #[.int .i64 k2,.string s2,.int .i64 t2.k,.string t2.x,.string t2.l,.string t2.y,.slice A2 m2 e2] 67)).alloc (.cells #[.int .i64 k2,.string s2,.int .i64 t2.k,.string t2.x,.string t2.l,.string t2.y,.slice A2 m2 e2] 67)):=blw
   have own3:=own_below own (aa hb1 hb3) (Nat.le_refl _)
   have R3:Rd ((w1.alloc (.cells #[.int .i64 k2,.string s2,.int .i64 t2.k,.string t2.x,.string t2.l,.string t2.y,.slice A2 m2 e2] 67)).alloc (.cells #[.int .i64 k2,.string s2,.int .i64 t2.k,.string t2.x,.string t2.l,.string t2.y,.slice A2 m2 e2] 67)) (some ⟨w1.heap.size+1,0,none⟩) [.int .i64 k2,.string s2,.int .i64 t2.k,.string t2.x,.string t2.l,.string t2.y,.slice A2 m2 e2]:=Rd.of_block (ai w1 _ _) rfl
   have hz3:w.heap.size+1<=w1.heap.size:=Nat.le_trans hS hb1.size
   have Hs:=Lib.hid (⟨hd,hb1⟩:_/\_)
   clear hd
   go_wp2_with (at_builtin;refine aL rfl rfl Tryz.underlying27 jz (by omega) rfl own3 rfl R3 rfl (by intro u hu;simp only[List.mem_cons,List.not_mem_nil,or_false]at hu;rcases hu with rfl|rfl|rfl|rfl|rfl|rfl|rfl<;>rfl) (by omega) ?_;intro w4 own4 hg4)
   obtain⟨hd,hb1'⟩:=Hs.out
   have hst:aE (w.heap.size+1) wr w4:=((aE.below hb1').trans (aE.below hb3)).trans (aE.row hg4 (Nat.lt_succ_self _))
   go_roundw
   case rel =>
    refine⟨k+1,_,by omega,by go_num,rfl,own4,((hB.trans ((aa hb1' hb3).mono hB.size))).grown hg4 (by have:=hb3.size;omega) (by intro k hk;injection hk with hk;omega),by have:=hb3.size;have:=hg4.size;omega,?_⟩
    rw[ah Hx.out]
    exact All.append (HA.out.mono λcs e _ h=>h.step hst) (All.one rfl ((hd.lower hS).step ((aE.below hb3).trans (aE.row hg4 (Nat.lt_succ_self _)))))
   case measure=>simp[intOf];omega
  ·obtain rfl:k=l.length:=by omega
   rw[List.take_length]at hA
   go_wp2
   go_loopw [3,6] (LnJ n l w) (λ_ i _=>12-(intOf i).toNat)
   case atStart=>exact⟨0,xs,by omega,rfl,by simp,by simpa using own,hB,hS,hA⟩
   case round =>
    clear own hB hS hA hr hE hz
    obtain⟨k,xs,hk,rfl,rfl,own,hB,hS,hA⟩:=hrel
    by_cases hlt:k<12
    ·have hmk:=λW=>yD (k:Int) W (by omega) (by omega)
     have hms:(xs++(List.range k).flatMap λ(j:Nat)=>mkE (j:Int))++[.int .i64 (8000024+(k:Int)),.string ⟨#[]⟩,.int .i64 0,.string ⟨#[]⟩,.string ⟨#[]⟩,.string ⟨#[]⟩,.slice none 0 0]=xs++(List.range (k+1)).flatMap λ(j:Nat)=>mkE (j:Int):=by
      rw[List.range_succ];simp[List.flatMap_append,mkE]
     have Hms:=Lib.hid hms
     have HA:=Lib.hid hA
     clear hms hA
     simp only[mkE]at hmk
     generalize 8000024+(k:Int)=s at *
     go_wp2_with fail
     refine(hmk _).mono ?_
     rintro e w3 ⟨rfl,hb3⟩
     have hz:w.heap.size<=w3.heap.size:=Nat.le_trans hB.size hb3.size
     have hz3:w.heap.size+1<=w3.heap.size:=Nat.le_trans hS hb3.size
     have own3:=(own_below own hb3 (Nat.le_refl _)).alloc (.cells #[.int .i64 s,.string ⟨#[]⟩,.int .i64 0,.string ⟨#[]⟩,.string ⟨#[]⟩,.string ⟨#[]⟩,.slice none 0 0] 67)
     go_wp2_with (at_builtin;refine aL rfl rfl Tryz.underlying27 jz (by omega) rfl own3 rfl (Rd.of_block (heap_alloc_new w3 _) rfl) rfl (by intro u hu;simp only[List.mem_cons,List.not_mem_nil,or_false]at hu;rcases hu with rfl|rfl|rfl|rfl|rfl|rfl|rfl<;>rfl) (by omega) ?_;intro w4 own4 hg4)
     have hb4:Below w.heap.size w w4:=((hB.trans (hb3.mono hB.size)).alloc hz _).grown hg4 (by simp;omega) (by intro k hk;injection hk with hk;omega)
     have hst:aE (w.heap.size+1) wr w4:=((aE.below hb3).trans (aE.below ((Below.refl _ _).alloc (Nat.le_refl _) _))).trans (aE.row hg4 (Nat.lt_succ_self _))
     go_roundw
     case rel=>exact⟨k+1,xs,by omega,by go_num,rfl,by rw[←Hms.out];exact own4,hb4,by have:=hg4.size;simp at this;omega,HA.out.mono λcs e _ h=>h.step hst⟩
     case measure=>simp[intOf];omega
    ·have hk12:k=12:=by omega
     subst hk12
     have hfin:=aG.of_own own
     have Hfin:=Lib.hid (⟨hfin,hA⟩:_/\_)
     clear hfin own hA
     go_wp2
     go_ret
     exact⟨xs,by simp,Hfin.out.1,Hfin.out.2,hB⟩
theorem frozen_of_row {w:World} {g j:Nat} {cs:Array Value} {t:TypeId} (h:w.heap[g]?=some (.cells cs t (0,0))):w.frozen? ⟨g,j,none⟩=false:=by
 simp[World.frozen?,h]
end Go.Proofs.YtjldjeenfnahoaaGreatDoor
