/- The program's package order, walked: the five steps at a tab -/
import Derived.Test.YtjldjeenfnahoaaGreatDoorJOrd18
set_option maxHeartbeats 4000000
namespace Go.Proofs.YtjldjeenfnahoaaGreatDoor
open Go Go.RowKit Fm Tx Om Mp
section
variable {w:World} {A B:Option Addr} {n c m d:Nat} {vars:List ByteArray} {rows:List (List Tm)}
theorem CF (T:TabAt w A B n c m d vars rows) (hR:aw vars rows=false) (Af:Option Addr) (mf cf:Nat):Calls Tryz.prog 10 #[.agg #[.slice A n c,.slice B m d],.slice Af mf cf] w (bz 2 [] [] w):=
 lD _ _ A B n c m d 2 Af mf cf w λW1 h1=>eW _ vars [] rows [] A B n c m d _ _ _ _ _ _ _ _ _ _ _ _ _ _ _ _ W1 T.hn T.hm T.hln T.hlm T.hnc (T.hv.later h1) (T.hr.later h1) hR
theorem CC (T:TabAt w A B n c m d vars rows) (hR:aw vars rows=false) (Af:Option Addr) (mf cf:Nat):Calls Tryz.prog 17 #[.agg #[.slice A n c,.slice B m d],.slice Af mf cf] w (bz 2 [] [] w):=
 lB _ _ A B n c m d 2 Af mf cf w λW1 h1=>eW _ vars [] rows [] A B n c m d _ _ _ _ _ _ _ _ _ _ _ _ _ _ _ _ W1 T.hn T.hm T.hln T.hlm T.hnc (T.hv.later h1) (T.hr.later h1) hR
theorem vM (T:TabAt w A B n c m d vars rows) (hR:aw vars rows=false) (Af:Option Addr) (mf cf:Nat):Calls Tryz.prog 19 #[.agg #[.slice A n c,.slice B m d],.slice Af mf cf] w (bz 2 [] [] w):=
 gP _ _ A B n c m d 2 Af mf cf w λW1 h1=>eW _ vars [] rows [] A B n c m d _ _ _ _ _ _ _ _ _ _ _ _ _ _ _ _ W1 T.hn T.hm T.hln T.hlm T.hnc (T.hv.later h1) (T.hr.later h1) hR
theorem CE (T:TabAt w A B n c m d vars rows) (hR:aw vars rows=false):Calls Tryz.prog 21 #[.agg #[.slice A n c,.slice B m d]] w (bz 2 [] [] w):=
 lC _ _ A B n c m d 2 w λW1 h1=>eW _ vars [] rows [] A B n c m d _ _ _ _ _ _ _ _ _ _ _ _ _ _ _ _ W1 T.hn T.hm T.hln T.hlm T.hnc (T.hv.later h1) (T.hr.later h1) hR
theorem AX (T:TabAt w A B n c m d vars rows) (hR:aw vars rows=false) (off lim:Int):Calls Tryz.prog 23 #[.agg #[.slice A n c,.slice B m d],.int .i64 off,.int .i64 lim] w (bz 2 [] [] w):=
 jX _ _ A B n c m d 2 off lim w λW1 h1=>eW _ vars [] rows [] A B n c m d _ _ _ _ _ _ _ _ _ _ _ _ _ _ _ _ W1 T.hn T.hm T.hln T.hlm T.hnc (T.hv.later h1) (T.hr.later h1) hR
end
theorem yU {vars:List ByteArray} {nf:Nat} {fils:List (ExT nf)} {rows:List (List Tm)} {r:List Tm} (h:r∈bL vars nf fils rows):r∈rows:=(List.mem_filter.1 h).1
theorem qS (vars:List ByteArray) (nf:Nat) (fils:List (ExT nf)) (rows:List (List Tm)):(bL vars nf fils rows).length<=rows.length:=List.length_filter_le _ _
theorem kX (vars:List ByteArray) (keys:List Ky) (rows:List (List Tm)):(dR vars keys rows).Perm rows:=by
 unfold dR
 split
 ·exact List.Perm.refl _
 ·exact List.mergeSort_perm _ _
theorem xR (ps:List Int) (row:List Tm):(be ps row).length=ps.length:=by unfold be;rw[List.length_map]
theorem qy {α:Type} [DecidableEq α] (l:List α):(br l).length<=l.length:=by
 have h1:∀(acc:List α) (r:α),(iH acc r).length<=acc.length+1:=λacc r=>by
  unfold iH
  split<;>simp
 have h2:∀(l acc:List α),(l.foldl iH acc).length<=acc.length+l.length:=by
  intro l
  induction l with
  | nil=>intro acc;simp
  | cons x l ih =>
   intro acc
   have:=ih (iH acc x)
   have:=h1 acc x
   simp only[List.foldl_cons,List.length_cons]
   omega
 have:=h2 l []
 simpa[br] using this
theorem z7:∀{vars:List ByteArray} {k:Nat} {x:ByteArray},vars[k]?=some x->x ∉ vars.take k->Lib.idxOfS vars x=(k:Int)
 | [],_,_,h,_=>by simp at h
 | z::zs,0,x,h,_=>by
  have hz:z=x:=by simpa using h
  subst hz
  unfold Lib.idxOfS Lib.idxFromS
  simp
 | z::zs,k+1,x,h,hm=>by
  rw[List.take_succ_cons,List.mem_cons,_root_.not_or]at hm
  rw[qV _ _ _ (λe=>hm.1 e.symm),z7 (vars:=zs) (k:=k) (by simpa using h) hm.2,if_neg (by omega)]
  omega
set_option maxRecDepth 100000 in
theorem nH (vars:List ByteArray) (x:ByteArray) (A:Option Addr) (c n:Nat) (w:World) (hn:vars.length=n) (hl:n<=1000000000) (hr:Rd w A (vars.map Value.string)) :
  Calls Tryz.prog 44 #[.slice A n c,.string x] w λe w'=>e=.returned (.int .i64 (Lib.idxOfS vars x))/\w=w':=by
 have HN:=Lib.hid hn
 clear hn
 go_enter Tryz.func44,Tryz.ntmps44
 go_wp2
 go_loop [5] (λi=>∃k:Nat,k<=n/\i=.int .i64 k/\Hid (x ∉ vars.take k)) (λi=>n-(intOf i).toNat)
 case atStart=>exact⟨0,by omega,rfl,by show x ∉ _;simp⟩
 case round =>
  obtain⟨k,hk,rfl,H⟩:=hrel
  by_cases hlt:k<n
  ·obtain⟨s,hs⟩:∃s,vars[k]?=some s:=⟨_,List.getElem?_eq_getElem (by rw[HN.out];exact hlt)⟩
   obtain⟨g,o,rfl,hcx⟩:=hr.at_ (j:=k) (u:=.string s) (by rw[List.getElem?_map,hs];rfl)
   by_cases he:s=x
   ·subst he
    have hi:Hid (Lib.idxOfS vars s=(k:Int)):=z7 hs H.out
    clear hs H hr
    go_wp2
    go_ret
    exact⟨by rw[hi.out];rfl,rfl⟩
   ·have hq:(s.toList == x.toList)=false:=by
     rw[beq_eq_false_iff_ne]
     intro h
     exact he ((Lib.bytes_beq_iff s x).1 (beq_iff_eq.2 h))
    have H2:Hid (x ∉ vars.take (k+1)):=by
     show x ∉ _
     rw[ah hs,List.mem_append]
     rintro(h|h)
     ·exact H.out h
     ·simp only[List.mem_cons,List.not_mem_nil,or_false]at h
      exact he h.symm
    clear hs H hr
    go_wp2
    exact⟨⟨k+1,by omega,by go_num,H2⟩,by simp[intOf];omega⟩
  ·obtain rfl:k=n:=by omega
   have hi:Hid (Lib.idxOfS vars x = -1):=by
    have h1:=dN vars x
    have h2:x ∉ vars:=λh=>H.out (by rw[List.take_of_length_le (by rw[HN.out];exact Nat.le_refl _)];exact h)
    have h3:¬ 0<=Lib.idxOfS vars x:=λh=>h2 ((Lib.idxOfS_nonneg_iff _ _).1 h)
    show _=_
    omega
   clear H hr
   go_wp2
   go_ret
   exact⟨by rw[hi.out];rfl,rfl⟩
open Um
theorem qj (n:Int) (w:World) :
  Calls Tryz.prog 212 #[.int .i64 n] w λe w'=>e=.returned (.bool (isB n))/\w=w':=by
 go_enter Tryz.func212,Tryz.ntmps212
 go_wp2
 all_goals
  go_ret
  refine⟨?_,rfl⟩
  simp[isB, *]
 all_goals omega
theorem xG (n:Int) (l:List Int) (A:Option Addr) (c:Nat) (w:World) (hl:l.length<=1000000) (hc:Rd w A (l.map (Value.int .i64))) :
  Calls Tryz.prog 177 #[.int .i64 n,.slice A l.length c] w λe w'=>e=.returned (.bool (inB n l))/\w=w':=by
 go_enter Tryz.func177,Tryz.ntmps177
 go_wp2
 go_loop [5] (λi=>∃k:Nat,k<=l.length+1/\i=.int .i64 k/\Hid (inB n (l.drop k)=inB n l)) (λi=>l.length+2-(intOf i).toNat)
 case atStart=>exact⟨0,by omega,rfl,rfl⟩
 case round =>
  obtain⟨k,hk,rfl,H⟩:=hrel
  by_cases hlt:k+1<l.length
  ·obtain⟨x,hx⟩:∃x,l[k]?=some x:=⟨_,List.getElem?_eq_getElem (by omega)⟩
   obtain⟨y,hy⟩:∃x,l[k+1]?=some x:=⟨_,List.getElem?_eq_getElem (by omega)⟩
   have hd:=lV n x y l k hx hy
   rw[H.out]at hd
   have Hd:=Lib.hid hd
   clear hd H
   obtain⟨g,o,rfl,hcc⟩:=hc.resolve_left (by intro h;simp at h;subst h;simp at hx)
   have h0:=hcc k (.int .i64 x) (by simp[hx])
   have h1:=hcc (k+1) (.int .i64 y) (by simp[hy])
   clear hx hy hc hcc
   go_wp2
   ·go_ret
    exact⟨by rw[Hd.out];simp[*],rfl⟩
   ·go_round
    case rel=>exact⟨k+2,by omega,by go_num,by show _=_;rw[Hd.out];simp;omega⟩
    case measure=>simp[intOf];omega
   ·go_round
    case rel=>exact⟨k+2,by omega,by go_num,by show _=_;rw[Hd.out];simp;omega⟩
    case measure=>simp[intOf];omega
  ·have he:=ub n l k hlt
   rw[H.out]at he
   have Hd:=Lib.hid he
   clear he H
   go_wp2
   go_ret
   exact⟨by rw[Hd.out];rfl,rfl⟩
theorem qk (n:Int) (w:World) :
  Calls Tryz.prog 176 #[.int .i64 n] w λe w'=>e=.returned (.bool (ct n))/\Below w.heap.size w w':=by
 have hin:=λW hW=>xG n sJ (some ⟨w.heap.size,0,none⟩) 28 W (by decide) hW
 go_enter Tryz.func176,Tryz.ntmps176
 go_wp2_with (go_at_call 177;refine(hin _ ?_).mono ?_;exact Rd.of_block (heap_alloc_new w _) rfl;rintro e w' ⟨rfl,rfl⟩)
 go_ret
 exact⟨rfl,(Below.refl _ _).alloc (Nat.le_refl _) _⟩
theorem vf (n:Int) (w:World) :
  Calls Tryz.prog 178 #[.int .i64 n] w λe w'=>e=.returned (.bool (cj n))/\Below w.heap.size w w':=by
 have hf:=qk n w
 have hin:=λ(W:World) (g:Nat) hW=>xG n kE (some ⟨g,0,none⟩) 14 W (by decide) hW
 unfold cj
 generalize ct n=b at hf
 go_enter Tryz.func178,Tryz.ntmps178
 cases b
 ·go_wp2_with (first
   | (go_at_call 176;refine hf.mono ?_;rintro e w1 ⟨rfl,hb⟩)
   | (go_at_call 177;refine(hin _ _ ?_).mono ?_;exact Rd.of_block (heap_alloc_new w1 _) rfl;rintro e w' ⟨rfl,rfl⟩))
  go_ret
  exact⟨by simp,hb.alloc hb.size _⟩
 ·go_wp2_with (first
   | (go_at_call 176;refine hf.mono ?_;rintro e w1 ⟨rfl,hb⟩))
  go_ret
  exact⟨by simp,hb⟩
theorem xI (n:Int) (w:World) (hn:isB n=true) :
  Calls Tryz.prog 213 #[.int .i64 n] w λe w'=>e=.returned (.slice (some ⟨w.heap.size,0,none⟩) (Lib.runeCells n).length (Lib.runeCells n).length) /\
   w'=w.alloc (.cells (Lib.runeCells n).toArray 5):=by
 rw[bV]at hn
 obtain⟨⟨h0,h9⟩,hs⟩:=hn
 by_cases c1:n<=127
 ·have e:=Lib.encodeRuneZ_one h0 c1
  unfold Lib.runeCells
  rw[e]
  clear e hs
  go_enter Tryz.func213,Tryz.ntmps213
  go_wp2
  go_ret
  exact⟨rfl,rfl⟩
 ·by_cases c2:n<=2047
  ·have e:=Lib.encodeRuneZ_two (by omega:128<=n) c2
   unfold Lib.runeCells
   rw[e]
   clear e hs
   go_enter Tryz.func213,Tryz.ntmps213
   go_wp2
   go_ret
   exact⟨rfl,rfl⟩
  ·by_cases c3:n<=65535
   ·have e:=Lib.encodeRuneZ_three (r:=n) (by omega)
    unfold Lib.runeCells
    rw[e]
    clear e hs
    go_enter Tryz.func213,Tryz.ntmps213
    go_wp2
    go_ret
    exact⟨rfl,rfl⟩
   ·have e:=Lib.encodeRuneZ_four (r:=n) (by omega) (by omega)
    unfold Lib.runeCells
    rw[e]
    clear e hs
    go_enter Tryz.func213,Tryz.ntmps213
    go_wp2
    go_ret
    exact⟨rfl,rfl⟩
def encS (n:Int):ByteArray:=⟨(Lib.encodeRune n).toArray⟩
theorem kh (n:Int):(encS n).toList=Lib.encodeRune n:=by unfold encS;rw[ByteArray.toList_mk]
theorem eu (n:Int) (w:World) (hn:isB n=true) :
  Calls Tryz.prog 213 #[.int .i64 n] w λe w'=>∃g,e=.returned (.slice (some ⟨g,0,none⟩) (Lib.runeCells n).length (Lib.runeCells n).length) /\
   Below w.heap.size w w'/\(∀W,Below w'.heap.size w' W->(convert 96 9 (.slice (some ⟨g,0,none⟩) (Lib.runeCells n).length (Lib.runeCells n).length)).run Tryz.prog W=.ok (.string (encS n)) W):=by
 refine(xI n w hn).mono ?_
 rintro e w' ⟨rfl,rfl⟩
 refine⟨_,rfl,(Below.refl _ _).alloc (Nat.le_refl _) _,?_⟩
 intro W hW
 have:=run_convert_bytes_arg (P:=Tryz.prog) W 96 5 Tryz.underlying96 Tryz.underlying5 w.heap.size 0
  (Lib.runeCells n).length (Lib.runeCells n).length (Lib.encodeRuneZ n) (by simp[Lib.runeCells]) ?_ 9 Tryz.underlying9
 ·rw[this]
  congr 2
 ·intro i hi
  have hb:(w.alloc (.cells (Lib.runeCells n).toArray 5)).heap[w.heap.size]?=some (.cells (Lib.runeCells n).toArray 5):=heap_alloc_new w _
  rw[←hW.block w.heap.size (by simp)]at hb
  simp only[World.cell?,hb,Nat.zero_add]
  simp[Lib.runeCells]at hi ⊢
  simp[hi]
theorem BL (s:ByteArray) (k:Nat) :
  fe (from_ s k) 1=bn s k/\fe (from_ s k) 2=64*(bn s k-192)+bn s (k+1)-128 /\
  fe (from_ s k) 3=64*(64*(bn s k-224)+bn s (k+1)-128)+bn s (k+2)-128 /\
  fe (from_ s k) 4=64*(64*(64*(bn s k-240)+bn s (k+1)-128)+bn s (k+2)-128)+bn s (k+3)-128:=by
 simp only[fe,from_,BM,Nat.add_zero,and_self]
theorem zD (l:List UInt8) (k:Nat) (_h1:1<=k) (hk:k<=l.length) (h:isB (fe l k)=true/\l.take k=Lib.encodeRune (fe l k)):nx l=((fe l k).toNat,k):=
 vI _ l h.1 k h.2 hk
theorem BK (l:List UInt8) (k:Nat) (h1:1<=k) (h:¬ (isB (fe l k)=true/\l.take k=Lib.encodeRune (fe l k))):(nx l).2≠k:=by
 intro e
 apply h
 have:=oZ l (by omega)
 rw[e]at this
 rw[this.2.2.2.1]
 exact⟨this.1,this.2.2.1⟩
theorem rn (s:ByteArray) (k L:Nat):(s.extract k (k+L)).toList=(from_ s k).take L:=by
 rw[ByteArray.toList_eq,extract_toList,Nat.add_sub_cancel_left]
theorem iK (s:ByteArray) (k L:Nat) (hL:1<=L) (hk:k+L<=s.size) (hb:isB (fe (from_ s k) L)=true)
  (he:((encS (fe (from_ s k) L)).toList == (s.extract k (k+L)).toList)=true):nx (from_ s k)=((fe (from_ s k) L).toNat,L):=by
 refine zD _ L hL (by rw[cJ];omega) ⟨hb,?_⟩
 rw[beq_iff_eq,kh,rn]at he
 exact he.symm
theorem kB (s:ByteArray) (k L:Nat) (hL:1<=L) (h:isB (fe (from_ s k) L)=false∨((encS (fe (from_ s k) L)).toList == (s.extract k (k+L)).toList)=false):(nx (from_ s k)).2≠L:=by
 refine BK _ L hL λ⟨h1,h2⟩=>?_
 rcases h with h|h
 ·rw[h1]at h;cases h
 ·rw[beq_eq_false_iff_ne,kh,rn]at h
  exact h h2.symm
theorem tK (s:ByteArray) (k:Nat) (w:World) (hk:k<s.size) (hs:s.size<=4611686018427387904) :
  Calls Tryz.prog 175 #[.string s,.int .i64 k] w λe w'=>e=.returned (.tuple #[.int .i64 (nx (from_ s k)).1,.int .i64 (nx (from_ s k)).2])/\Below w.heap.size w w':=by
 obtain⟨c1,c2,c3,c4⟩:=BL s k
 have C1:=Lib.hid c1;have C2:=Lib.hid c2;have C3:=Lib.hid c3;have C4:=Lib.hid c4
 clear c1 c2 c3 c4
 have b0:=fG s k;have b1:=fG s (k+1);have b2:=fG s (k+2);have b3:=fG s (k+3)
 go_enter Tryz.func175,Tryz.ntmps175
 go_wp2
 go_loopw [6] (λi wr=>∃L:Nat,1<=L/\L<=5/\i=.int .i64 L/\Below w.heap.size w wr/\Hid (∀j,1<=j->j<L->(nx (from_ s k)).2≠j)) (λi _=>5-(intOf i).toNat)
 case atStart=>exact⟨1,by omega,by omega,rfl,Below.refl _ _,λj _ _=>by omega⟩
 case round =>
  obtain⟨L,hL1,hL5,rfl,hB,H⟩:=hrel
  by_cases hlt:L<=4/\k+L<=s.size
  ·obtain⟨hL4,hkL⟩:=hlt
   rcases(by omega:L=1∨L=2∨L=3∨L=4) with rfl|rfl|rfl|rfl
   ·go_wp2
    go_rounds 1
    have his:=λW=>qj (bn s k:Int) W
    have hby:=λW=>eu (bn s k:Int) W
    have hyes:=iK s k 1 hL1 hkL
    have hno:=kB s k 1 hL1
    rw[C1.out]at hyes hno
    have Hyes:=Lib.hid hyes
    have Hno:=Lib.hid hno
    clear hyes hno C1 C2 C3 C4
    have e1:(k:Int)<=(k:Int)+1:=by omega
    have e2:(k:Int)+1<=(s.size:Int):=by omega
    by_cases hi:isB (bn s k:Int)=true
    ·replace hby:=λW=>hby W hi
     rw[hi]at his
     refine Rg.wp_region_plan [(true,[0]),(false,[1]),(true,[2,3,6,7,8,9,10,11]),(false,[4]),(false,[5]),(true,[12,13])] _ (by kernel_rfl) (by kernel_rfl)
      (by simp only[List.map_cons,List.map_nil,Rg.pickOps,List.getElem?_toArray,List.getElem?_cons_zero,List.getElem?_cons_succ,Option.getD_some];rfl) (λK hK=>?_)
     refine Rg.plan_quiet ?_
     go_big_quiet_step (fail)
     refine wpQuiet_nil (Rg.plan_chain ?_)
     intro W1 hW1
     go_wp2_with (go_at_call 212;refine(his _).mono ?_;rintro e w1 ⟨rfl,rfl⟩)
     refine⟨Below.refl _ _,Rg.plan_quiet ?_⟩
     iterate 8 go_big_quiet_step (fail)
     refine wpQuiet_nil (Rg.plan_chain ?_)
     intro W2 hW2
     go_wp2_with (go_at_call 213;refine(hby _).mono ?_;rintro e w2 ⟨g,rfl,hb2,hcv⟩)
     refine⟨hb2,Rg.plan_chain ?_⟩
     intro W3 hW3
     have hcv3:=hcv W3 hW3
     go_wp2_with fail
     refine⟨Below.refl _ _,Rg.plan_quiet ?_⟩
     iterate 2 go_big_quiet_step (fail)
     refine wpQuiet_nil (Rg.plan_end ?_)
     intro W4 hW4
     refine hK _ _ ?_
     clear hK hcv hcv3 hby his
     have hall:Below w.heap.size w W4:=hB.trans ((Rg.tr hW1 (Rg.tr hW2 (Rg.tr hb2 (Rg.tr hW3 hW4)))).mono hB.size)
     go_wp2
     ·have hq:((encS (bn s k:Int)).toList == (s.extract k (k+1)).toList)=true:=by assumption
      go_ret2
      refine⟨?_,hall⟩
      rw[Hyes.out hi hq]
      rw[bV]at hi
      simp only[Int.toNat_of_nonneg hi.1.1]
      rfl
     ·have hq:((encS (bn s k:Int)).toList == (s.extract k (k+1)).toList)=false:=by assumption
      have hn:=Hno.out (.inr hq)
      go_roundw
      case rel=>exact⟨1+1,by omega,by omega,by go_num,hall,λj h1 h2=>by
       rcases Nat.lt_or_ge j 1 with h|h
       ·exact H.out j h1 h
       ·have:j=1:=by omega
        subst this;exact hn⟩
      case measure=>simp[intOf]
    ·have hi:isB (bn s k:Int)=false:=by simpa using hi
     rw[hi]at his
     have hn:=Hno.out (.inl hi)
     refine Rg.wp_region_plan [(true,[0]),(false,[1]),(true,[2,3,6,7,8,9,10,11]),(false,[4]),(false,[5]),(true,[12,13])] _ (by kernel_rfl) (by kernel_rfl)
      (by simp only[List.map_cons,List.map_nil,Rg.pickOps,List.getElem?_toArray,List.getElem?_cons_zero,List.getElem?_cons_succ,Option.getD_some];rfl) (λK hK=>?_)
     refine Rg.plan_quiet ?_
     go_big_quiet_step (fail)
     refine wpQuiet_nil (Rg.plan_chain ?_)
     intro W1 hW1
     go_wp2_with (go_at_call 212;refine(his _).mono ?_;rintro e w1 ⟨rfl,rfl⟩)
     refine⟨Below.refl _ _,Rg.plan_quiet ?_⟩
     iterate 8 go_big_quiet_step (fail)
     refine wpQuiet_nil (Rg.plan_chain ?_)
     intro W2 hW2
     go_wp2_with fail
     refine⟨Below.refl _ _,Rg.plan_chain ?_⟩
     intro W3 hW3
     go_wp2_with fail
     refine⟨Below.refl _ _,Rg.plan_quiet ?_⟩
     iterate 2 go_big_quiet_step (fail)
     refine wpQuiet_nil (Rg.plan_end ?_)
     intro W4 hW4
     refine hK _ _ ?_
     clear hK hby his
     have hall:Below w.heap.size w W4:=hB.trans ((Rg.tr hW1 (Rg.tr hW2 (Rg.tr hW3 hW4))).mono hB.size)
     go_wp2
     go_roundw
     case rel=>exact⟨1+1,by omega,by omega,by go_num,hall,λj h1 h2=>by
      rcases Nat.lt_or_ge j 1 with h|h
      ·exact H.out j h1 h
      ·have:j=1:=by omega
       subst this;exact hn⟩
     case measure=>simp[intOf]
   ·go_wp2
    go_rounds 2
    have his:=λW=>qj (64*((bn s k:Int)-192)+(bn s (k+1):Int)-128) W
    have hby:=λW=>eu (64*((bn s k:Int)-192)+(bn s (k+1):Int)-128) W
    have hyes:=iK s k 2 hL1 hkL
    have hno:=kB s k 2 hL1
    rw[C2.out]at hyes hno
    have Hyes:=Lib.hid hyes
    have Hno:=Lib.hid hno
    clear hyes hno C1 C2 C3 C4
    have e1:(k:Int)<=(k:Int)+2:=by omega
    have e2:(k:Int)+2<=(s.size:Int):=by omega
    by_cases hi:isB (64*((bn s k:Int)-192)+(bn s (k+1):Int)-128)=true
    ·replace hby:=λW=>hby W hi
     rw[hi]at his
     refine Rg.wp_region_plan [(true,[0]),(false,[1]),(true,[2,3,6,7,8,9,10,11]),(false,[4]),(false,[5]),(true,[12,13])] _ (by kernel_rfl) (by kernel_rfl)
      (by simp only[List.map_cons,List.map_nil,Rg.pickOps,List.getElem?_toArray,List.getElem?_cons_zero,List.getElem?_cons_succ,Option.getD_some];rfl) (λK hK=>?_)
     refine Rg.plan_quiet ?_
     go_big_quiet_step (fail)
     refine wpQuiet_nil (Rg.plan_chain ?_)
     intro W1 hW1
     go_wp2_with (go_at_call 212;refine(his _).mono ?_;rintro e w1 ⟨rfl,rfl⟩)
     refine⟨Below.refl _ _,Rg.plan_quiet ?_⟩
     iterate 8 go_big_quiet_step (fail)
     refine wpQuiet_nil (Rg.plan_chain ?_)
     intro W2 hW2
     go_wp2_with (go_at_call 213;refine(hby _).mono ?_;rintro e w2 ⟨g,rfl,hb2,hcv⟩)
     refine⟨hb2,Rg.plan_chain ?_⟩
     intro W3 hW3
     have hcv3:=hcv W3 hW3
     go_wp2_with fail
     refine⟨Below.refl _ _,Rg.plan_quiet ?_⟩
     iterate 2 go_big_quiet_step (fail)
     refine wpQuiet_nil (Rg.plan_end ?_)
     intro W4 hW4
     refine hK _ _ ?_
     clear hK hcv hcv3 hby his
     have hall:Below w.heap.size w W4:=hB.trans ((Rg.tr hW1 (Rg.tr hW2 (Rg.tr hb2 (Rg.tr hW3 hW4)))).mono hB.size)
     go_wp2
     ·have hq:((encS (64*((bn s k:Int)-192)+(bn s (k+1):Int)-128)).toList == (s.extract k (k+2)).toList)=true:=by assumption
      go_ret2
      refine⟨?_,hall⟩
      rw[Hyes.out hi hq]
      rw[bV]at hi
      simp only[Int.toNat_of_nonneg hi.1.1]
      rfl
     ·have hq:((encS (64*((bn s k:Int)-192)+(bn s (k+1):Int)-128)).toList == (s.extract k (k+2)).toList)=false:=by assumption
      have hn:=Hno.out (.inr hq)
      go_roundw
      case rel=>exact⟨2+1,by omega,by omega,by go_num,hall,λj h1 h2=>by
       rcases Nat.lt_or_ge j 2 with h|h
       ·exact H.out j h1 h
       ·have:j=2:=by omega
        subst this;exact hn⟩
      case measure=>simp[intOf]
    ·have hi:isB (64*((bn s k:Int)-192)+(bn s (k+1):Int)-128)=false:=by simpa using hi
     rw[hi]at his
     have hn:=Hno.out (.inl hi)
     refine Rg.wp_region_plan [(true,[0]),(false,[1]),(true,[2,3,6,7,8,9,10,11]),(false,[4]),(false,[5]),(true,[12,13])] _ (by kernel_rfl) (by kernel_rfl)
      (by simp only[List.map_cons,List.map_nil,Rg.pickOps,List.getElem?_toArray,List.getElem?_cons_zero,List.getElem?_cons_succ,Option.getD_some];rfl) (λK hK=>?_)
     refine Rg.plan_quiet ?_
     go_big_quiet_step (fail)
     refine wpQuiet_nil (Rg.plan_chain ?_)
     intro W1 hW1
     go_wp2_with (go_at_call 212;refine(his _).mono ?_;rintro e w1 ⟨rfl,rfl⟩)
     refine⟨Below.refl _ _,Rg.plan_quiet ?_⟩
     iterate 8 go_big_quiet_step (fail)
     refine wpQuiet_nil (Rg.plan_chain ?_)
     intro W2 hW2
     go_wp2_with fail
     refine⟨Below.refl _ _,Rg.plan_chain ?_⟩
     intro W3 hW3
     go_wp2_with fail
     refine⟨Below.refl _ _,Rg.plan_quiet ?_⟩
     iterate 2 go_big_quiet_step (fail)
     refine wpQuiet_nil (Rg.plan_end ?_)
     intro W4 hW4
     refine hK _ _ ?_
     clear hK hby his
     have hall:Below w.heap.size w W4:=hB.trans ((Rg.tr hW1 (Rg.tr hW2 (Rg.tr hW3 hW4))).mono hB.size)
     go_wp2
     go_roundw
     case rel=>exact⟨2+1,by omega,by omega,by go_num,hall,λj h1 h2=>by
      rcases Nat.lt_or_ge j 2 with h|h
      ·exact H.out j h1 h
      ·have:j=2:=by omega
       subst this;exact hn⟩
     case measure=>simp[intOf]
   ·go_wp2
    go_rounds 3
    have his:=λW=>qj (64*(64*((bn s k:Int)-224)+(bn s (k+1):Int)-128)+(bn s (k+2):Int)-128) W
    have hby:=λW=>eu (64*(64*((bn s k:Int)-224)+(bn s (k+1):Int)-128)+(bn s (k+2):Int)-128) W
    have hyes:=iK s k 3 hL1 hkL
    have hno:=kB s k 3 hL1
    rw[C3.out]at hyes hno
    have Hyes:=Lib.hid hyes
    have Hno:=Lib.hid hno
    clear hyes hno C1 C2 C3 C4
    have e1:(k:Int)<=(k:Int)+3:=by omega
    have e2:(k:Int)+3<=(s.size:Int):=by omega
    by_cases hi:isB (64*(64*((bn s k:Int)-224)+(bn s (k+1):Int)-128)+(bn s (k+2):Int)-128)=true
    ·replace hby:=λW=>hby W hi
     rw[hi]at his
     refine Rg.wp_region_plan [(true,[0]),(false,[1]),(true,[2,3,6,7,8,9,10,11]),(false,[4]),(false,[5]),(true,[12,13])] _ (by kernel_rfl) (by kernel_rfl)
      (by simp only[List.map_cons,List.map_nil,Rg.pickOps,List.getElem?_toArray,List.getElem?_cons_zero,List.getElem?_cons_succ,Option.getD_some];rfl) (λK hK=>?_)
     refine Rg.plan_quiet ?_
     go_big_quiet_step (fail)
     refine wpQuiet_nil (Rg.plan_chain ?_)
     intro W1 hW1
     go_wp2_with (go_at_call 212;refine(his _).mono ?_;rintro e w1 ⟨rfl,rfl⟩)
     refine⟨Below.refl _ _,Rg.plan_quiet ?_⟩
     iterate 8 go_big_quiet_step (fail)
     refine wpQuiet_nil (Rg.plan_chain ?_)
     intro W2 hW2
     go_wp2_with (go_at_call 213;refine(hby _).mono ?_;rintro e w2 ⟨g,rfl,hb2,hcv⟩)
     refine⟨hb2,Rg.plan_chain ?_⟩
     intro W3 hW3
     have hcv3:=hcv W3 hW3
     go_wp2_with fail
     refine⟨Below.refl _ _,Rg.plan_quiet ?_⟩
     iterate 2 go_big_quiet_step (fail)
     refine wpQuiet_nil (Rg.plan_end ?_)
     intro W4 hW4
     refine hK _ _ ?_
     clear hK hcv hcv3 hby his
     have hall:Below w.heap.size w W4:=hB.trans ((Rg.tr hW1 (Rg.tr hW2 (Rg.tr hb2 (Rg.tr hW3 hW4)))).mono hB.size)
     go_wp2
     ·have hq:((encS (64*(64*((bn s k:Int)-224)+(bn s (k+1):Int)-128)+(bn s (k+2):Int)-128)).toList == (s.extract k (k+3)).toList)=true:=by assumption
      go_ret2
      refine⟨?_,hall⟩
      rw[Hyes.out hi hq]
      rw[bV]at hi
      simp only[Int.toNat_of_nonneg hi.1.1]
      rfl
     ·have hq:((encS (64*(64*((bn s k:Int)-224)+(bn s (k+1):Int)-128)+(bn s (k+2):Int)-128)).toList == (s.extract k (k+3)).toList)=false:=by assumption
      have hn:=Hno.out (.inr hq)
      go_roundw
      case rel=>exact⟨3+1,by omega,by omega,by go_num,hall,λj h1 h2=>by
       rcases Nat.lt_or_ge j 3 with h|h
       ·exact H.out j h1 h
       ·have:j=3:=by omega
        subst this;exact hn⟩
      case measure=>simp[intOf]
    ·have hi:isB (64*(64*((bn s k:Int)-224)+(bn s (k+1):Int)-128)+(bn s (k+2):Int)-128)=false:=by simpa using hi
     rw[hi]at his
     have hn:=Hno.out (.inl hi)
     refine Rg.wp_region_plan [(true,[0]),(false,[1]),(true,[2,3,6,7,8,9,10,11]),(false,[4]),(false,[5]),(true,[12,13])] _ (by kernel_rfl) (by kernel_rfl)
      (by simp only[List.map_cons,List.map_nil,Rg.pickOps,List.getElem?_toArray,List.getElem?_cons_zero,List.getElem?_cons_succ,Option.getD_some];rfl) (λK hK=>?_)
     refine Rg.plan_quiet ?_
     go_big_quiet_step (fail)
     refine wpQuiet_nil (Rg.plan_chain ?_)
     intro W1 hW1
     go_wp2_with (go_at_call 212;refine(his _).mono ?_;rintro e w1 ⟨rfl,rfl⟩)
     refine⟨Below.refl _ _,Rg.plan_quiet ?_⟩
     iterate 8 go_big_quiet_step (fail)
     refine wpQuiet_nil (Rg.plan_chain ?_)
     intro W2 hW2
     go_wp2_with fail
     refine⟨Below.refl _ _,Rg.plan_chain ?_⟩
     intro W3 hW3
     go_wp2_with fail
     refine⟨Below.refl _ _,Rg.plan_quiet ?_⟩
     iterate 2 go_big_quiet_step (fail)
     refine wpQuiet_nil (Rg.plan_end ?_)
     intro W4 hW4
     refine hK _ _ ?_
     clear hK hby his
     have hall:Below w.heap.size w W4:=hB.trans ((Rg.tr hW1 (Rg.tr hW2 (Rg.tr hW3 hW4))).mono hB.size)
     go_wp2
     go_roundw
     case rel=>exact⟨3+1,by omega,by omega,by go_num,hall,λj h1 h2=>by
      rcases Nat.lt_or_ge j 3 with h|h
      ·exact H.out j h1 h
      ·have:j=3:=by omega
       subst this;exact hn⟩
     case measure=>simp[intOf]
   ·go_wp2
    go_rounds 4
    have his:=λW=>qj (64*(64*(64*((bn s k:Int)-240)+(bn s (k+1):Int)-128)+(bn s (k+2):Int)-128)+(bn s (k+3):Int)-128) W
    have hby:=λW=>eu (64*(64*(64*((bn s k:Int)-240)+(bn s (k+1):Int)-128)+(bn s (k+2):Int)-128)+(bn s (k+3):Int)-128) W
    have hyes:=iK s k 4 hL1 hkL
    have hno:=kB s k 4 hL1
    rw[C4.out]at hyes hno
    have Hyes:=Lib.hid hyes
    have Hno:=Lib.hid hno
    clear hyes hno C1 C2 C3 C4
    have e1:(k:Int)<=(k:Int)+4:=by omega
    have e2:(k:Int)+4<=(s.size:Int):=by omega
    by_cases hi:isB (64*(64*(64*((bn s k:Int)-240)+(bn s (k+1):Int)-128)+(bn s (k+2):Int)-128)+(bn s (k+3):Int)-128)=true
    ·replace hby:=λW=>hby W hi
     rw[hi]at his
     refine Rg.wp_region_plan [(true,[0]),(false,[1]),(true,[2,3,6,7,8,9,10,11]),(false,[4]),(false,[5]),(true,[12,13])] _ (by kernel_rfl) (by kernel_rfl)
      (by simp only[List.map_cons,List.map_nil,Rg.pickOps,List.getElem?_toArray,List.getElem?_cons_zero,List.getElem?_cons_succ,Option.getD_some];rfl) (λK hK=>?_)
     refine Rg.plan_quiet ?_
     go_big_quiet_step (fail)
     refine wpQuiet_nil (Rg.plan_chain ?_)
     intro W1 hW1
     go_wp2_with (go_at_call 212;refine(his _).mono ?_;rintro e w1 ⟨rfl,rfl⟩)
     refine⟨Below.refl _ _,Rg.plan_quiet ?_⟩
     iterate 8 go_big_quiet_step (fail)
     refine wpQuiet_nil (Rg.plan_chain ?_)
     intro W2 hW2
     go_wp2_with (go_at_call 213;refine(hby _).mono ?_;rintro e w2 ⟨g,rfl,hb2,hcv⟩)
     refine⟨hb2,Rg.plan_chain ?_⟩
     intro W3 hW3
     have hcv3:=hcv W3 hW3
     go_wp2_with fail
     refine⟨Below.refl _ _,Rg.plan_quiet ?_⟩
     iterate 2 go_big_quiet_step (fail)
     refine wpQuiet_nil (Rg.plan_end ?_)
     intro W4 hW4
     refine hK _ _ ?_
     clear hK hcv hcv3 hby his
     have hall:Below w.heap.size w W4:=hB.trans ((Rg.tr hW1 (Rg.tr hW2 (Rg.tr hb2 (Rg.tr hW3 hW4)))).mono hB.size)
     go_wp2
     ·have hq:((encS (64*(64*(64*((bn s k:Int)-240)+(bn s (k+1):Int)-128)+(bn s (k+2):Int)-128)+(bn s (k+3):Int)-128)).toList == (s.extract k (k+4)).toList)=true:=by assumption
      go_ret2
      refine⟨?_,hall⟩
      rw[Hyes.out hi hq]
      rw[bV]at hi
      simp only[Int.toNat_of_nonneg hi.1.1]
      rfl
     ·have hq:((encS (64*(64*(64*((bn s k:Int)-240)+(bn s (k+1):Int)-128)+(bn s (k+2):Int)-128)+(bn s (k+3):Int)-128)).toList == (s.extract k (k+4)).toList)=false:=by assumption
      have hn:=Hno.out (.inr hq)
      go_roundw
      case rel=>exact⟨4+1,by omega,by omega,by go_num,hall,λj h1 h2=>by
       rcases Nat.lt_or_ge j 4 with h|h
       ·exact H.out j h1 h
       ·have:j=4:=by omega
        subst this;exact hn⟩
      case measure=>simp[intOf]
    ·have hi:isB (64*(64*(64*((bn s k:Int)-240)+(bn s (k+1):Int)-128)+(bn s (k+2):Int)-128)+(bn s (k+3):Int)-128)=false:=by simpa using hi
     rw[hi]at his
     have hn:=Hno.out (.inl hi)
     refine Rg.wp_region_plan [(true,[0]),(false,[1]),(true,[2,3,6,7,8,9,10,11]),(false,[4]),(false,[5]),(true,[12,13])] _ (by kernel_rfl) (by kernel_rfl)
      (by simp only[List.map_cons,List.map_nil,Rg.pickOps,List.getElem?_toArray,List.getElem?_cons_zero,List.getElem?_cons_succ,Option.getD_some];rfl) (λK hK=>?_)
     refine Rg.plan_quiet ?_
     go_big_quiet_step (fail)
     refine wpQuiet_nil (Rg.plan_chain ?_)
     intro W1 hW1
     go_wp2_with (go_at_call 212;refine(his _).mono ?_;rintro e w1 ⟨rfl,rfl⟩)
     refine⟨Below.refl _ _,Rg.plan_quiet ?_⟩
     iterate 8 go_big_quiet_step (fail)
     refine wpQuiet_nil (Rg.plan_chain ?_)
     intro W2 hW2
     go_wp2_with fail
     refine⟨Below.refl _ _,Rg.plan_chain ?_⟩
     intro W3 hW3
     go_wp2_with fail
     refine⟨Below.refl _ _,Rg.plan_quiet ?_⟩
     iterate 2 go_big_quiet_step (fail)
     refine wpQuiet_nil (Rg.plan_end ?_)
     intro W4 hW4
     refine hK _ _ ?_
     clear hK hby his
     have hall:Below w.heap.size w W4:=hB.trans ((Rg.tr hW1 (Rg.tr hW2 (Rg.tr hW3 hW4))).mono hB.size)
     go_wp2
     go_roundw
     case rel=>exact⟨4+1,by omega,by omega,by go_num,hall,λj h1 h2=>by
      rcases Nat.lt_or_ge j 4 with h|h
      ·exact H.out j h1 h
      ·have:j=4:=by omega
       subst this;exact hn⟩
     case measure=>simp[intOf]
  ·have hend:nx (from_ s k)=(0,0):=by
    have hl:=cJ s k
    by_cases h0:(nx (from_ s k)).2=0
    ·have:nx (from_ s k)=(0,0):=by
      unfold nx at h0 ⊢
      split at h0
      ·rename_i h;rw[if_pos h]
      ·rename_i h
       rw[if_neg h]
       split at h0
       ·rename_i h';rw[if_pos h']
       ·exfalso
        have:=gl (from_ s k).length ((from_ s k).getD 0 0).toNat ((from_ s k).getD 1 0).toNat ((from_ s k).getD 2 0).toNat ((from_ s k).getD 3 0).toNat
        omega
     exact this
    ·have h1:=oZ (from_ s k) h0
     exact absurd rfl (H.out (nx (from_ s k)).2 (by omega) (by omega))
   have Hend:=Lib.hid hend
   clear hend H C1 C2 C3 C4
   by_cases h4:L<=4
   ·go_wp2
    go_ret2
    exact⟨by rw[Hend.out];rfl,hB⟩
   ·go_wp2
    go_ret2
    exact⟨by rw[Hend.out];rfl,hB⟩
end Go.Proofs.YtjldjeenfnahoaaGreatDoor
