/- Rows each once, rows kept, a row put in order: plainly. The -/
import Derived.Test.YtoejnneknpoanaaGreatDoorJOrdLib
set_option maxHeartbeats 2000000
set_option maxRecDepth 100000
namespace Go.Proofs.YtoejnneknpoanaaGreatDoor
namespace Om
variable {α:Type}
def onceF [DecidableEq α] (acc:List α) (r:α):List α:=if r∈acc then acc else acc++[r]
def onceL [DecidableEq α] (l:List α):List α:=l.foldl onceF []
section
variable [DecidableEq α]
theorem once_snoc (l:List α) (r:α):onceL (l++[r])=onceF (onceL l) r:=by simp[onceL,List.foldl_append]
theorem once_mem (l:List α) (x:α):x∈onceL l↔x∈l:=by
 rw[←List.reverse_reverse l]
 induction l.reverse with
 | nil=>simp[onceL]
 | cons r l ih =>
  rw[List.reverse_cons,once_snoc]
  unfold onceF
  split
  ·rename_i h
   rw[ih,List.mem_append]
   refine⟨.inl,λh2=>h2.elim id λe=>?_⟩
   simp only[List.mem_cons,List.not_mem_nil,or_false]at e
   subst e;exact ih.1 (by
    by_cases hx:x∈onceL l.reverse
    ·exact hx
    ·exact absurd h hx)
  ·rw[List.mem_append,List.mem_append,ih]
end
def keptL (b:Nat->Bool) (l:List α):Nat->List α
 | 0=>[]
 | k+1=>if b k then keptL b l k else keptL b l k++l[k]?.toList
theorem kept_le (b:Nat->Bool) (l:List α):∀k,(keptL b l k).length<=k
 | 0=>Nat.le_refl _
 | k+1=>by
  have:=kept_le b l k
  unfold keptL
  split
  ·omega
  ·rw[List.length_append]
   have:l[k]?.toList.length<=1:=by cases l[k]?<;>simp
   omega
theorem take_one (l:List α) (k:Nat):l.take (k+1)=l.take k++l[k]?.toList:=List.take_add_one
theorem kept_filter {b:Nat->Bool} {l:List α} (p:α->Bool) (h:∀k x,l[k]?=some x->b k = !p x):∀k,k<=l.length->keptL b l k=(l.take k).filter p
 | 0,_=>by simp[keptL]
 | k+1,hk=>by
  have hx:l[k]?=some l[k]:=List.getElem?_eq_getElem hk
  have ih:=kept_filter p h k (by omega)
  unfold keptL
  rw[take_one,List.filter_append,←ih,h k _ hx,hx]
  cases hp:p l[k]<;>simp[hp]
theorem kept_once [DecidableEq α] {b:Nat->Bool} {l:List α} (h:∀k x,l[k]?=some x->b k=decide (x∈l.take k)):∀k,k<=l.length->keptL b l k=onceL (l.take k)
 | 0,_=>by simp[keptL,onceL]
 | k+1,hk=>by
  have hx:l[k]?=some l[k]:=List.getElem?_eq_getElem hk
  have ih:=kept_once h k (by omega)
  unfold keptL
  rw[take_one,hx,Option.toList_some,once_snoc,←ih,h k _ hx]
  unfold onceF
  have hm:l[k]∈keptL b l k↔l[k]∈l.take k:=by rw[ih,once_mem]
  by_cases hd:l[k]∈l.take k
  ·rw[if_pos (decide_eq_true hd),if_pos (hm.2 hd)]
  ·rw[if_neg (by simp[hd]),if_neg (λh=>hd (hm.1 h))]
end Om
open Go Go.RowKit Fm Om
theorem hasTxts (l:List ByteArray) (x:ByteArray) (A:Option Addr) (c n:Nat) (w:World) (hn:l.length=n) (hl:n<=1000000000) (hr:Rd w A (l.map Value.string)) :
  Calls Tryz.prog 90 #[.slice A n c,.string x] w λe w'=>e=.returned (.bool (Lib.containsS l x))/\w=w':=by
 subst hn
 rcases hr with h0|⟨g,o,rfl,hc⟩
 ·obtain rfl:l=[]:=by simpa using h0
  have:=Tryz.slices_Contains_string_empty A c x w
  exact this.mono λe w' h=>⟨h.1,h.2.symm⟩
 ·refine(Tryz.slices_Contains_string g o l.length c l x w (Nat.le_refl _) (by omega) λj hj=>?_).mono λe w' h=>?_
  ·have e:l[j]?=some l[j]:=List.getElem?_eq_getElem hj
   have:=hc j (.string l[j]) (by rw[List.getElem?_map,e];rfl)
   rw[List.getD_eq_getElem?_getD,e]
   exact this
  ·rw[List.take_length]at h
   exact⟨h.1,h.2.symm⟩
theorem nodup_take {α:Type} {l:List α} {k:Nat} {x:α} (hx:l[k]?=some x):(l.take (k+1)).Nodup↔(l.take k).Nodup/\x ∉ l.take k:=by
 rw[take_snoc_of hx,List.nodup_append]
 constructor
 ·rintro⟨h1,_,h3⟩
  exact⟨h1,λh=>h3 x h x (by simp) rfl⟩
 ·rintro⟨h1,h2⟩
  exact⟨h1,by simp,λa ha b hb e=>by simp only[List.mem_cons,List.not_mem_nil,or_false]at hb;subst hb;subst e;exact h2 ha⟩
theorem nodup_not {α:Type} {l:List α} {k:Nat} {x:α} (hx:l[k]?=some x) (hm:x∈l.take k):¬ l.Nodup:=λh=>by
 have h2:(l.take (k+1)).Nodup:=h.sublist (List.take_sublist _ _)
 exact((nodup_take hx).1 h2).2 hm
theorem ordUnlike (l:List ByteArray) (A:Option Addr) (c n:Nat) (w:World) (hn:l.length=n) (hl:n<=1000000000) (hc:n<=c) (hr:Rd w A (l.map Value.string)) :
  Calls Tryz.prog 53 #[.slice A n c] w λe w'=>e=.returned (.bool (decide l.Nodup))/\w=w':=by
 have HN:=Lib.hid hn
 clear hn
 go_enter Tryz.func53,Tryz.ntmps53
 go_wp2
 go_loop [3,4,7] (λu v i=>∃k:Nat,k<=n/\i=.int .i64 k/\Hid (l.take k).Nodup) (λ_ _ i=>n-(intOf i).toNat)
 case atStart=>exact⟨0,by omega,rfl,by show List.Nodup _;simp⟩
 case round =>
  obtain⟨k,hk,rfl,H⟩:=hrel
  by_cases hlt:k<n
  ·obtain⟨x,hx⟩:∃x,l[k]?=some x:=⟨_,List.getElem?_eq_getElem (by rw[HN.out];exact hlt)⟩
   obtain⟨g,o,rfl,hcx⟩:=hr.at_ (j:=k) (u:=.string x) (by rw[List.getElem?_map,hx];rfl)
   have hrt:Rd w (some ⟨g,o,none⟩) ((l.take k).map Value.string):=by rw[List.map_take];exact hr.take k
   have hcall:=hasTxts (l.take k) x (some ⟨g,o,none⟩) c k w (by rw[List.length_take,HN.out];omega) (by omega) hrt
   cases hm:Lib.containsS (l.take k) x
   ·have H2:Hid (l.take (k+1)).Nodup:=(nodup_take hx).2 ⟨H.out,λh=>by rw[(Lib.containsS_iff _ _).2 h]at hm;cases hm⟩
    rw[hm]at hcall
    clear hx H hr hrt hm
    go_wp2_with (go_at_call 90;refine hcall.mono ?_;rintro e w1 ⟨rfl,rfl⟩)
    go_round
    case rel=>exact⟨k+1,by omega,by go_num,H2⟩
    case measure=>simp[intOf];omega
   ·have H2:Hid (decide l.Nodup=false):=decide_eq_false (nodup_not hx ((Lib.containsS_iff _ _).1 hm))
    rw[hm]at hcall
    clear hx H hr hrt hm
    go_wp2_with (go_at_call 90;refine hcall.mono ?_;rintro e w1 ⟨rfl,rfl⟩)
    go_ret
    exact⟨by rw[H2.out];rfl,rfl⟩
  ·have H2:Hid (decide l.Nodup=true):=decide_eq_true (by
    have:=H.out
    rwa [List.take_of_length_le (by rw[HN.out];omega)]at this)
   clear H hr
   go_wp2
   go_ret
   exact⟨by rw[H2.out];rfl,rfl⟩
def rightT (vars:List ByteArray) (rows:List (List Tm)):Bool:=decide vars.Nodup && !rows.any λr=>r.length != vars.length
theorem ordOdd (A B:Option Addr) (n c m d:Nat) (p:Addr) (w:World) (hp:w.cell? p=some (.slice B m d)) :
  Calls Tryz.prog 52 #[.slice A n c,.pointer (some p)] w λe w'=>e=.returned (.bool (n != m))/\w=w':=by
 cases h:(n != m)
 ·obtain rfl:n=m:=by simpa using h
  clear h
  go_enter Tryz.func52,Tryz.ntmps52
  go_wp2
  go_ret
  exact⟨by simp,rfl⟩
 ·have h1:((n:Int) != (m:Int))=true:=by
   rw[bne_iff_ne]at h ⊢
   omega
  clear h
  go_enter Tryz.func52,Tryz.ntmps52
  go_wp2
  go_ret
  exact⟨by first|rw[h1]|simp[],rfl⟩
theorem ordRight (vars:List ByteArray) (rows:List (List Tm)) (A B:Option Addr) (n c m d:Nat) (w:World) (hn:vars.length=n) (hm:rows.length=m) (hln:n<=1000000000) (hlm:m<=1000000000) (hnc:n<=c) (hv:Rd w A (vars.map Value.string)) (hr:RdRs w B rows) :
  Calls Tryz.prog 16 #[.agg #[.slice A n c,.slice B m d]] w λe w'=>e=.returned (.bool (rightT vars rows))/\Below w.heap.size w w':=by
 have hb:Below w.heap.size w (w.alloc (.cells #[.slice A n c,.slice B m d] 25)):=blw
 have hU:=ordUnlike vars A c n _ hn hln hnc (hv.later hb)
 have hH:=hasRows 52 #[.pointer (some ⟨w.heap.size,0,none⟩)] (enters_of Tryz.func52 (by kernel_rfl) rfl) (λr=>r.length != vars.length) rows m B d _ hm hlm (hr.later hb)
  (λrow A' c' _ _ _=>by rw[hn];exact ordOdd A' A row.length c' n c ⟨w.heap.size,0,none⟩ _ (by rw[World.cell?,heap_alloc_new];rfl))
 have hd:Hid (rightT vars rows=(decide vars.Nodup && !rows.any λr=>r.length != vars.length)):=rfl
 have HB:=Lib.hid hb
 generalize (rows.any λr=>r.length != vars.length)=q at *
 generalize rightT vars rows=z at *
 clear hv hr hn hm hb
 cases hu:decide vars.Nodup
 ·rw[hu]at hU hd
  go_enter Tryz.func16,Tryz.ntmps16
  go_wp2_with (go_at_call 53;refine hU.mono ?_;rintro e w1 ⟨rfl,rfl⟩)
  go_ret
  exact⟨by rw[hd.out];rfl,HB.out⟩
 ·rw[hu]at hU hd
  go_enter Tryz.func16,Tryz.ntmps16
  go_wp2_with (first|(go_at_call 53;refine hU.mono ?_;rintro e w1 ⟨rfl,rfl⟩)|(go_at_call 54;refine hH.mono ?_;rintro e w1 ⟨rfl,rfl⟩))
  go_ret
  exact⟨by rw[hd.out];cases q<;>rfl,HB.out⟩
end Go.Proofs.YtoejnneknpoanaaGreatDoor
namespace Go.Proofs.YtoejnneknpoanaaGreatDoor.Rl
open Go Go.Sort Go.RowKit Rg Rh Rf
section
variable {P:Program} {ops:Array Oper}
theorem last_step {j:Nat} {o:Oper} (ho:ops[j]?=some o) {G X:Act->World->Prop} {a:Act} {w:World}
  (h:wpList P ops (Exit.then G Bot) [o] a w) (hx:∀a' W',G a' W'->X a' W'):wpOp P ops Bot j X a w:=by
 unfold wpOp
 simp only[ho]
 have next:∀a' W',wpList P ops (Exit.then G Bot) [] a' W'->X a' W':=λa' W' hh=>hx a' W' hh
 simp only[wpList]at h
 split at h
 ·rename_i hw
  rw[if_pos hw]
  rcases h with h|h
  ·left
   exact upon_exit (λc a w h=>h) (λh=>h) (Oper.wp_mono next h)
  ·obtain⟨_,hl⟩:=h
   obtain⟨_,_,hf⟩:=hl
   exact hf.elim
 ·rename_i hw
  rw[if_neg hw]
  exact next _ _ h
end
end Go.Proofs.YtoejnneknpoanaaGreatDoor.Rl
namespace Go.Proofs.YtoejnneknpoanaaGreatDoor.Rn
open Go Go.Sort Go.RowKit Rg Rh Rf Rl
section
variable {P:Program} {ops:Array Oper}
def behind (ops:Array Oper) (i:Nat):List Nat:=(List.range ops.size).foldl (λS k=>match ops[k]? with
 | none=>S
 | some o=>if o.after.any λe=>Region.binds .any e && S.contains e.on then k::S else S) [i]
def BehindOK (ops:Array Oper) (i:Nat) (S:List Nat):Prop:=∀k∈S,k=i∨∃(o:Oper) (e:Edge),ops[k]?=some o/\e∈o.after/\Region.binds .any e=true/\e.on∈S
theorem behind_ok (i:Nat):BehindOK ops i (behind ops i):=by
 unfold behind
 suffices h:∀(l:List Nat) (S:List Nat),BehindOK ops i S->BehindOK ops i (l.foldl (λS k=>match ops[k]? with
   | none=>S
   | some o=>if o.after.any λe=>Region.binds .any e && S.contains e.on then k::S else S) S) from
  h _ _ (λk hk=>.inl (by simpa using hk))
 intro l
 induction l with
 | nil=>exact λS h=>h
 | cons k l ih =>
  intro S h
  rw[List.foldl_cons]
  refine ih _ ?_
  split
  ·exact h
  ·rename_i o ho
   split
   ·rename_i hany
    obtain⟨e,he,hb⟩:=Array.any_eq_true'.1 hany
    rw[Bool.and_eq_true]at hb
    have hm:e.on∈S:=by simpa using hb.2
    intro k' hk'
    rcases List.mem_cons.1 hk' with rfl|hk'
    ·exact .inr ⟨o,e,ho,he,hb.1,List.mem_cons_of_mem _ hm⟩
    ·rcases h k' hk' with h1|⟨o',e',h1,h2,h3,h4⟩
     ·exact .inl h1
     ·exact .inr ⟨o',e',h1,h2,h3,List.mem_cons_of_mem _ h4⟩
   ·exact h
def Holds (ops:Array Oper) (L i:Nat) (listed:Array Bool):Prop:=listed.getD L true=true∨∃S,BehindOK ops i S/\L∈S/\L≠i/\∀k∈S,listed.getD k true=false
def holdsB (ops:Array Oper) (L i:Nat) (listed:Array Bool):Bool:=listed.getD L true || ((behind ops i).contains L && L != i && (behind ops i).all λk => !listed.getD k true)
theorem holds_of {L i:Nat} {listed:Array Bool} (h:holdsB ops L i listed=true):Holds ops L i listed:=by
 unfold holdsB at h
 simp only[Bool.or_eq_true,Bool.and_eq_true,bne_iff_ne,ne_eq,List.all_eq_true,Bool.not_eq_true',List.contains_iff_mem]at h
 rcases h with h|⟨⟨h1,h2⟩,h3⟩
 ·exact .inl h
 ·exact .inr ⟨_,behind_ok i,h1,h2,h3⟩
theorem Holds.open_ {L i j:Nat} {listed:Array Bool} (h:Holds ops L i listed) (_hji:j≠i) (hj:j∈Region.ready .any ops listed):j≠L:=by
 obtain⟨hjun,oj,hoj,hall⟩:=mem_ready.1 hj
 rcases h with h|⟨S,hS,hL,hLi,hun⟩
 ·rintro rfl;rw[hjun]at h;cases h
 ·rintro rfl
  rcases hS _ hL with h|⟨o,e,ho,he,hb,hm⟩
  ·exact hLi h
  ·rw[hoj]at ho;injection ho with ho;subst ho
   have:=hun _ hm
   rcases Nat.lt_or_ge e.on listed.size with h'|h'
   ·have h1:=hall e he hb
    simp[h']at h1 this;rw[h1]at this;cases this
   ·simp[Array.getElem?_eq_none h']at this
theorem Holds.set {L i j:Nat} {listed:Array Bool} (h:Holds ops L i listed) (hji:j≠i) (hj:j∈Region.ready .any ops listed):Holds ops L i (listed.setIfInBounds j true):=by
 obtain⟨hjun,oj,hoj,hall⟩:=mem_ready.1 hj
 rcases h with h|⟨S,hS,hL,hLi,hun⟩
 ·refine .inl ?_
  by_cases hjL:j=L
  ·subst hjL;rw[hjun]at h;cases h
  ·rw[getD_set_ne true hjL];exact h
 ·refine .inr ⟨S,hS,hL,hLi,λk hk=>?_⟩
  have hjS:j ∉ S:=λhm=>by
   rcases hS _ hm with h|⟨o,e,ho,he,hb,hm⟩
   ·exact hji h
   ·rw[hoj]at ho;injection ho with ho;subst ho
    have:=hun _ hm
    rcases Nat.lt_or_ge e.on listed.size with h'|h'
    ·have h1:=hall e he hb
     simp[h']at h1 this;rw[h1]at this;cases this
    ·simp[Array.getElem?_eq_none h']at this
  have hne:j≠k:=λe=>hjS (e ▸ hk)
  rw[getD_set_ne true hne];exact hun k hk
def len5:List (Nat × List Nat)->Nat
 | []=>0
 | x::r=>x.2.length+len5 r
end
end Go.Proofs.YtoejnneknpoanaaGreatDoor.Rn
