/- The kit's conditions and queries, lent: printed by gen/lentq -/
import Derived.Test.YtjldjeenfnahoaaGreatDoorJCopyQ
set_option maxHeartbeats 4000000
set_option maxRecDepth 20000
namespace Go.Proofs.YtjldjeenfnahoaaGreatDoor
open Go Go.RowKit Um Fm
theorem fa {P:Program} {f:FuncId} {args:Array Value} {w:World} {T:TypeId} {n c:Nat} {xs:List Value} (h:Calls P f args w λe w'=>e=.returned (.slice (some ⟨w.heap.size,0,none⟩) n c)/\aG T w' w.heap.size xs/\Below w.heap.size w w') :
  Calls P f args w λe w'=>∃g:Nat,e=.returned (.slice (some ⟨g,0,none⟩) n c)/\w.heap.size<=g/\aG T w' g xs/\Below w.heap.size w w':=h.mono λ_ _ ⟨h1,h2,h3⟩=>⟨_,h1,Nat.le_refl _,h2,h3⟩
theorem zN.some {n:Nat} {l:List (ExT n)} {w w':World} {e:Ending} (h:zN n l w e w'):∃(g:Nat) (xs:List Value),e=.returned (.slice (some ⟨g,0,none⟩) l.length (l.length+12))/\w.heap.size<=g/\aG 67 w' g (xs++eJ)/\All 7 (dh n w.heap.size w') xs l/\Below w.heap.size w w':=by
 obtain⟨xs,h1,h2,h3,h4⟩:=h
 exact⟨_,xs,h1,Nat.le_refl _,h2,h3.mono λ_ _ _ h=>h.lower (Nat.le_succ _),h4⟩
theorem qK:∀n:Nat,LnE n
 | 0=>λx _ _ h _=>h.elim
 | n+1=>by
  rintro⟨k,s,t,ks⟩ cs W ⟨A,c,rfl,hc1,hr⟩ ⟨z1,z2,z3,z4⟩
  have hB2:Below W.heap.size W ((W.alloc (.cells #[.int .i64 k,.string s,.int .i64 t.k,.string t.x,.string t.l,.string t.y,.slice A ks.length c] 67)).alloc (.cells #[.int .i64 0,.string ⟨#[]⟩,.int .i64 0,.string ⟨#[]⟩,.string ⟨#[]⟩,.string ⟨#[]⟩,.slice none 0 0] 67)):=blw
  have hL:=(o9 n (qK n) ks A c _ (aF.later hr hB2) z3 z4).mono λ_ _ h=>zN.some h
  clear hr
  go_enter Tryz.func64,Tryz.ntmps64
  go_wp2_with fail
  refine hL.mono ?_
  rintro e w2 ⟨g,xs,rfl,hg1,hl2,hd,hb2⟩
  have hs:=hb2.size
  obtain⟨-,hf⟩:=aB hb2
  have r1:w2.heap[W.heap.size]?=some (.cells #[.int .i64 k,.string s,.int .i64 t.k,.string t.x,.string t.l,.string t.y,.slice A ks.length c] 67 (0,0)):=by rw[hb2.block _ (by simp;omega)];exact am W _ _
  have r2:w2.heap[W.heap.size+1]?=some (.cells #[.int .i64 0,.string ⟨#[]⟩,.int .i64 0,.string ⟨#[]⟩,.string ⟨#[]⟩,.string ⟨#[]⟩,.slice none 0 0] 67 (0,0)):=by rw[hb2.block _ (by simp)];exact ai W _ _
  have s6:w2.cell? ⟨W.heap.size,6,none⟩=some (.slice A ks.length c):=cell_of_row r1 rfl
  have t1:(w2.setCell ⟨W.heap.size,6,none⟩ (.slice (some ⟨g,0,none⟩) ks.length (ks.length+12))).heap[W.heap.size]?=some (.cells #[.int .i64 k,.string s,.int .i64 t.k,.string t.x,.string t.l,.string t.y,.slice (some ⟨g,0,none⟩) ks.length (ks.length+12)] 67 (0,0)):=by rw[heap_setCell_same _ _ _ _ _ _ r1];rfl
  have t2:(w2.setCell ⟨W.heap.size,6,none⟩ (.slice (some ⟨g,0,none⟩) ks.length (ks.length+12))).heap[W.heap.size+1]?=some (.cells #[.int .i64 0,.string ⟨#[]⟩,.int .i64 0,.string ⟨#[]⟩,.string ⟨#[]⟩,.string ⟨#[]⟩,.slice none 0 0] 67 (0,0)):=by rw[heap_setCell_other _ _ _ _ (by simp)];exact r2
  have u0:(w2.setCell ⟨W.heap.size,6,none⟩ (.slice (some ⟨g,0,none⟩) ks.length (ks.length+12))).cell? ⟨W.heap.size,0,none⟩=some (.int .i64 k):=cell_of_row t1 rfl
  have u1:(w2.setCell ⟨W.heap.size,6,none⟩ (.slice (some ⟨g,0,none⟩) ks.length (ks.length+12))).cell? ⟨W.heap.size,1,none⟩=some (.string s):=cell_of_row t1 rfl
  have u2:(w2.setCell ⟨W.heap.size,6,none⟩ (.slice (some ⟨g,0,none⟩) ks.length (ks.length+12))).cell? ⟨W.heap.size,2,none⟩=some (.int .i64 t.k):=cell_of_row t1 rfl
  have u3:(w2.setCell ⟨W.heap.size,6,none⟩ (.slice (some ⟨g,0,none⟩) ks.length (ks.length+12))).cell? ⟨W.heap.size,3,none⟩=some (.string t.x):=cell_of_row t1 rfl
  have u4:(w2.setCell ⟨W.heap.size,6,none⟩ (.slice (some ⟨g,0,none⟩) ks.length (ks.length+12))).cell? ⟨W.heap.size,4,none⟩=some (.string t.l):=cell_of_row t1 rfl
  have u5:(w2.setCell ⟨W.heap.size,6,none⟩ (.slice (some ⟨g,0,none⟩) ks.length (ks.length+12))).cell? ⟨W.heap.size,5,none⟩=some (.string t.y):=cell_of_row t1 rfl
  have u6:(w2.setCell ⟨W.heap.size,6,none⟩ (.slice (some ⟨g,0,none⟩) ks.length (ks.length+12))).cell? ⟨W.heap.size,6,none⟩=some (.slice (some ⟨g,0,none⟩) ks.length (ks.length+12)):=cell_of_row t1 rfl
  have x0:((w2.setCell ⟨W.heap.size,6,none⟩ (.slice (some ⟨g,0,none⟩) ks.length (ks.length+12))).setRow (W.heap.size+1) #[.int .i64 k,.string s,.int .i64 t.k,.string t.x,.string t.l,.string t.y,.slice (some ⟨g,0,none⟩) ks.length (ks.length+12)]).cell? ⟨W.heap.size+1,0,none⟩=some (.int .i64 k):=by rw[cell_setRow_same _ _ _ _ _ _ _ t2];rfl
  have x1:((w2.setCell ⟨W.heap.size,6,none⟩ (.slice (some ⟨g,0,none⟩) ks.length (ks.length+12))).setRow (W.heap.size+1) #[.int .i64 k,.string s,.int .i64 t.k,.string t.x,.string t.l,.string t.y,.slice (some ⟨g,0,none⟩) ks.length (ks.length+12)]).cell? ⟨W.heap.size+1,1,none⟩=some (.string s):=by rw[cell_setRow_same _ _ _ _ _ _ _ t2];rfl
  have x2:((w2.setCell ⟨W.heap.size,6,none⟩ (.slice (some ⟨g,0,none⟩) ks.length (ks.length+12))).setRow (W.heap.size+1) #[.int .i64 k,.string s,.int .i64 t.k,.string t.x,.string t.l,.string t.y,.slice (some ⟨g,0,none⟩) ks.length (ks.length+12)]).cell? ⟨W.heap.size+1,2,none⟩=some (.int .i64 t.k):=by rw[cell_setRow_same _ _ _ _ _ _ _ t2];rfl
  have x3:((w2.setCell ⟨W.heap.size,6,none⟩ (.slice (some ⟨g,0,none⟩) ks.length (ks.length+12))).setRow (W.heap.size+1) #[.int .i64 k,.string s,.int .i64 t.k,.string t.x,.string t.l,.string t.y,.slice (some ⟨g,0,none⟩) ks.length (ks.length+12)]).cell? ⟨W.heap.size+1,3,none⟩=some (.string t.x):=by rw[cell_setRow_same _ _ _ _ _ _ _ t2];rfl
  have x4:((w2.setCell ⟨W.heap.size,6,none⟩ (.slice (some ⟨g,0,none⟩) ks.length (ks.length+12))).setRow (W.heap.size+1) #[.int .i64 k,.string s,.int .i64 t.k,.string t.x,.string t.l,.string t.y,.slice (some ⟨g,0,none⟩) ks.length (ks.length+12)]).cell? ⟨W.heap.size+1,4,none⟩=some (.string t.l):=by rw[cell_setRow_same _ _ _ _ _ _ _ t2];rfl
  have x5:((w2.setCell ⟨W.heap.size,6,none⟩ (.slice (some ⟨g,0,none⟩) ks.length (ks.length+12))).setRow (W.heap.size+1) #[.int .i64 k,.string s,.int .i64 t.k,.string t.x,.string t.l,.string t.y,.slice (some ⟨g,0,none⟩) ks.length (ks.length+12)]).cell? ⟨W.heap.size+1,5,none⟩=some (.string t.y):=by rw[cell_setRow_same _ _ _ _ _ _ _ t2];rfl
  have x6:((w2.setCell ⟨W.heap.size,6,none⟩ (.slice (some ⟨g,0,none⟩) ks.length (ks.length+12))).setRow (W.heap.size+1) #[.int .i64 k,.string s,.int .i64 t.k,.string t.x,.string t.l,.string t.y,.slice (some ⟨g,0,none⟩) ks.length (ks.length+12)]).cell? ⟨W.heap.size+1,6,none⟩=some (.slice (some ⟨g,0,none⟩) ks.length (ks.length+12)):=by rw[cell_setRow_same _ _ _ _ _ _ _ t2];rfl
  have hEi:(Tryz.prog.info? 67).map (·.size)=some 7:=by kernel_rfl
  have T2:=Lib.hid t2
  have hg2:W.heap.size+2<=g:=by simp at hg1;omega
  have hd2:All 7 (dh n (W.heap.size+2) w2) xs ks:=hd.mono λ_ _ _ h=>h.lower (by simp)
  have HR:=Lib.hid (⟨hl2,hd2⟩:_/\_)
  have HB:=Lib.hid (below_setRow ((hB2.trans (hb2.mono (by simp;omega))).setCell (p:=⟨W.heap.size,6,none⟩) (Nat.le_refl _) (.slice (some ⟨g,0,none⟩) ks.length (ks.length+12))) (by omega:W.heap.size<=W.heap.size+1) #[.int .i64 k,.string s,.int .i64 t.k,.string t.x,.string t.l,.string t.y,.slice (some ⟨g,0,none⟩) ks.length (ks.length+12)])
  clear hL hd hd2 hl2 hb2 hB2 r1 r2 t1 t2
  go_wp2_with (refine wpList_store_row rfl 67 _ _ rfl rfl rfl hEi T2.out rfl rfl ?_)
  (try simp only[Act.put])
  refine bodyPost_ret (v:=.agg #[.int .i64 k,.string s,.int .i64 t.k,.string t.x,.string t.l,.string t.y,.slice (some ⟨g,0,none⟩) ks.length (ks.length+12)]) ?_ rfl ?_
  ·simp[results,Tryz.results64,go_sem,x0,x1,x2,x3,x4,x5,x6]
  ·have hst:aE (W.heap.size+2) w2 ((w2.setCell ⟨W.heap.size,6,none⟩ (.slice (some ⟨g,0,none⟩) ks.length (ks.length+12))).setRow (W.heap.size+1) #[.int .i64 k,.string s,.int .i64 t.k,.string t.x,.string t.l,.string t.y,.slice (some ⟨g,0,none⟩) ks.length (ks.length+12)]):=(aE.set (by omega)).trans (aE.setRow (by omega))
   exact⟨_,rfl,⟨g,xs,rfl,by omega,HR.out.1.stays hst hg2,HR.out.2.mono λ_ _ _ h=>(h.step hst).lower (by omega)⟩,HB.out⟩
def LnQ (n:Nat) (p d:Bool) (l f:Int) (vs:List ByteArray) (ps:List Pat) (fs:List (ExT n)) (os:List Ky) (W:World) (e:Ending) (w':World):Prop:=∃(g1 g2 g3 g4:Nat) (xs:List Value),
 e=.returned (.agg #[.bool p,.bool d,.slice (some ⟨g1,0,none⟩) vs.length (vs.length+12),.slice (some ⟨g2,0,none⟩) ps.length (ps.length+12),.slice (some ⟨g3,0,none⟩) fs.length (fs.length+12),.slice (some ⟨g4,0,none⟩) os.length (os.length+12),.int .i64 l,.int .i64 f])/\(W.heap.size+2<=g1/\W.heap.size+2<=g2/\W.heap.size+2<=g3/\W.heap.size+2<=g4)/\aG 9 w' g1 ((vs++marksOf (λi=>mkT 1 i)).map Value.string)/\aG 101 w' g2 ((ps++marksOf iM).flatMap cPat)/\(aG 67 w' g3 (xs++eJ)/\All 7 (dh n (W.heap.size+2) w') xs fs)/\aG 61 w' g4 ((os++marksOf iN).flatMap cKey)/\Below W.heap.size W w'
theorem yL (n:Nat) (p d:Bool) (l f:Int) (vs:List ByteArray) (ps:List Pat) (fs:List (ExT n)) (os:List Ky) (a1 a2 a3 a4:Option Addr) (c1 c2 c3 c4:Nat) (W:World)
  (h1:Rd W a1 (vs.map Value.string)) (h2:Rd W a2 (ps.flatMap cPat)) (h3:aF n W a3 fs) (h4:Rd W a4 (os.flatMap cKey))
  (z1:vs.length<=1048576) (z2:ps.length<=1048576) (z3:fs.length<=1353245080300) (z4:os.length<=1048576) (z5:∀x∈fs,szE n x) :
  Calls Tryz.prog 9 #[.agg #[.bool p,.bool d,.slice a1 vs.length c1,.slice a2 ps.length c2,.slice a3 fs.length c3,.slice a4 os.length c4,.int .i64 l,.int .i64 f]] W (LnQ n p d l f vs ps fs os W):=by
 have B0:Below W.heap.size W ((W.alloc (.cells #[.bool p,.bool d,.slice a1 vs.length c1,.slice a2 ps.length c2,.slice a3 fs.length c3,.slice a4 os.length c4,.int .i64 l,.int .i64 f] 30)).alloc (.cells #[.bool false,.bool false,.slice none 0 0,.slice none 0 0,.slice none 0 0,.slice none 0 0,.int .i64 0,.int .i64 0] 30)):=blw
 have hU0:W.heap.size+2<=((W.alloc (.cells #[.bool p,.bool d,.slice a1 vs.length c1,.slice a2 ps.length c2,.slice a3 fs.length c3,.slice a4 os.length c4,.int .i64 l,.int .i64 f] 30)).alloc (.cells #[.bool false,.bool false,.slice none 0 0,.slice none 0 0,.slice none 0 0,.slice none 0 0,.int .i64 0,.int .i64 0] 30)).heap.size:=by simp
 have R10:Hid (((W.alloc (.cells #[.bool p,.bool d,.slice a1 vs.length c1,.slice a2 ps.length c2,.slice a3 fs.length c3,.slice a4 os.length c4,.int .i64 l,.int .i64 f] 30)).alloc (.cells #[.bool false,.bool false,.slice none 0 0,.slice none 0 0,.slice none 0 0,.slice none 0 0,.int .i64 0,.int .i64 0] 30)).heap[W.heap.size]?=some (.cells #[.bool p,.bool d,.slice a1 vs.length c1,.slice a2 ps.length c2,.slice a3 fs.length c3,.slice a4 os.length c4,.int .i64 l,.int .i64 f] 30 (0,0))):=am W _ _
 have R20:Hid (((W.alloc (.cells #[.bool p,.bool d,.slice a1 vs.length c1,.slice a2 ps.length c2,.slice a3 fs.length c3,.slice a4 os.length c4,.int .i64 l,.int .i64 f] 30)).alloc (.cells #[.bool false,.bool false,.slice none 0 0,.slice none 0 0,.slice none 0 0,.slice none 0 0,.int .i64 0,.int .i64 0] 30)).heap[W.heap.size+1]?=some (.cells #[.bool false,.bool false,.slice none 0 0,.slice none 0 0,.slice none 0 0,.slice none 0 0,.int .i64 0,.int .i64 0] 30 (0,0))):=ai W _ _
 have hc0:=fa (nZ vs a1 c1 _ (h1.below B0 (Nat.le_refl _)) z1)
 go_enter Tryz.func9,Tryz.ntmps9
 go_wp2_with fail
 refine hc0.mono ?_
 rintro e w3 ⟨g1,rfl,gg1,L1,hb1⟩
 have gg1:=Nat.le_trans hU0 gg1
 have hh1:=hb1.size
 have hU0b:W.heap.size+2<=w3.heap.size:=Nat.le_trans hU0 hh1
 have hk1:=hb1.block W.heap.size (by omega)
 have hk2:=hb1.block (W.heap.size+1) (by omega)
 have Bb1:=B0.trans (hb1.mono (by omega))
 have r1:w3.heap[W.heap.size]?=some (.cells #[.bool p,.bool d,.slice a1 vs.length c1,.slice a2 ps.length c2,.slice a3 fs.length c3,.slice a4 os.length c4,.int .i64 l,.int .i64 f] 30 (0,0)):=hk1.trans R10.out
 have r2:w3.heap[W.heap.size+1]?=some (.cells #[.bool false,.bool false,.slice none 0 0,.slice none 0 0,.slice none 0 0,.slice none 0 0,.int .i64 0,.int .i64 0] 30 (0,0)):=hk2.trans R20.out
 have R11:Hid ((w3.setCell ⟨W.heap.size,2,none⟩ (.slice (some ⟨g1,0,none⟩) vs.length (vs.length+12))).heap[W.heap.size]?=some (.cells #[.bool p,.bool d,.slice (some ⟨g1,0,none⟩) vs.length (vs.length+12),.slice a2 ps.length c2,.slice a3 fs.length c3,.slice a4 os.length c4,.int .i64 l,.int .i64 f] 30 (0,0))):=by show _=_;rw[heap_setCell_same _ _ _ _ _ _ r1];rfl
 have R21:Hid ((w3.setCell ⟨W.heap.size,2,none⟩ (.slice (some ⟨g1,0,none⟩) vs.length (vs.length+12))).heap[W.heap.size+1]?=some (.cells #[.bool false,.bool false,.slice none 0 0,.slice none 0 0,.slice none 0 0,.slice none 0 0,.int .i64 0,.int .i64 0] 30 (0,0))):=by show _=_;rw[heap_setCell_other _ _ _ _ (by simp)];exact r2
 have B1:Below W.heap.size W (w3.setCell ⟨W.heap.size,2,none⟩ (.slice (some ⟨g1,0,none⟩) vs.length (vs.length+12))):=Bb1.setCell (p:=⟨W.heap.size,2,none⟩) (Nat.le_refl _) _
 have hU1:W.heap.size+2<=(w3.setCell ⟨W.heap.size,2,none⟩ (.slice (some ⟨g1,0,none⟩) vs.length (vs.length+12))).heap.size:=by simpa using hU0b
 have hs:aE (W.heap.size+2) w3 (w3.setCell ⟨W.heap.size,2,none⟩ (.slice (some ⟨g1,0,none⟩) vs.length (vs.length+12))):=aE.set (by omega)
 have hs0:aE (W.heap.size+2) ((W.alloc (.cells #[.bool p,.bool d,.slice a1 vs.length c1,.slice a2 ps.length c2,.slice a3 fs.length c3,.slice a4 os.length c4,.int .i64 l,.int .i64 f] 30)).alloc (.cells #[.bool false,.bool false,.slice none 0 0,.slice none 0 0,.slice none 0 0,.slice none 0 0,.int .i64 0,.int .i64 0] 30)) (w3.setCell ⟨W.heap.size,2,none⟩ (.slice (some ⟨g1,0,none⟩) vs.length (vs.length+12))):=(aE.below hb1).trans hs
 replace L1:=L1.stays hs gg1
 have hf:w3.frozen? ⟨W.heap.size,2,none⟩=false:=frozen_of_row r1
 have s0:w3.cell? ⟨W.heap.size,2,none⟩=some (.slice a1 vs.length c1):=cell_of_row r1 rfl
 have s1:(w3.setCell ⟨W.heap.size,2,none⟩ (.slice (some ⟨g1,0,none⟩) vs.length (vs.length+12))).cell? ⟨W.heap.size,3,none⟩=some (.slice a2 ps.length c2):=cell_of_row R11.out rfl
 have hc1:=fa (pc ps a2 c2 _ (h2.below B1 (Nat.le_refl _)) z2)
 have HH1:=Lib.hid (⟨L1,hs,hs0⟩:_/\_/\_)
 clear hc0 hb1 r1 r2 R10 R20 hk1 hk2 hs hs0 B0 Bb1 hU0 L1
 go_wp2_with fail
 refine hc1.mono ?_
 rintro e w4 ⟨g2,rfl,gg2,L2,hb2⟩
 obtain⟨L1,-,-⟩:=HH1.out
 have gg2:=Nat.le_trans hU1 gg2
 have hh2:=hb2.size
 have hU1b:W.heap.size+2<=w4.heap.size:=Nat.le_trans hU1 hh2
 have hk1:=hb2.block W.heap.size (by omega)
 have hk2:=hb2.block (W.heap.size+1) (by omega)
 have Bb2:=B1.trans (hb2.mono (by omega))
 have r1:w4.heap[W.heap.size]?=some (.cells #[.bool p,.bool d,.slice (some ⟨g1,0,none⟩) vs.length (vs.length+12),.slice a2 ps.length c2,.slice a3 fs.length c3,.slice a4 os.length c4,.int .i64 l,.int .i64 f] 30 (0,0)):=hk1.trans R11.out
 have r2:w4.heap[W.heap.size+1]?=some (.cells #[.bool false,.bool false,.slice none 0 0,.slice none 0 0,.slice none 0 0,.slice none 0 0,.int .i64 0,.int .i64 0] 30 (0,0)):=hk2.trans R21.out
 have R12:Hid ((w4.setCell ⟨W.heap.size,3,none⟩ (.slice (some ⟨g2,0,none⟩) ps.length (ps.length+12))).heap[W.heap.size]?=some (.cells #[.bool p,.bool d,.slice (some ⟨g1,0,none⟩) vs.length (vs.length+12),.slice (some ⟨g2,0,none⟩) ps.length (ps.length+12),.slice a3 fs.length c3,.slice a4 os.length c4,.int .i64 l,.int .i64 f] 30 (0,0))):=by show _=_;rw[heap_setCell_same _ _ _ _ _ _ r1];rfl
 have R22:Hid ((w4.setCell ⟨W.heap.size,3,none⟩ (.slice (some ⟨g2,0,none⟩) ps.length (ps.length+12))).heap[W.heap.size+1]?=some (.cells #[.bool false,.bool false,.slice none 0 0,.slice none 0 0,.slice none 0 0,.slice none 0 0,.int .i64 0,.int .i64 0] 30 (0,0))):=by show _=_;rw[heap_setCell_other _ _ _ _ (by simp)];exact r2
 have B2:Below W.heap.size W (w4.setCell ⟨W.heap.size,3,none⟩ (.slice (some ⟨g2,0,none⟩) ps.length (ps.length+12))):=Bb2.setCell (p:=⟨W.heap.size,3,none⟩) (Nat.le_refl _) _
 have hU2:W.heap.size+2<=(w4.setCell ⟨W.heap.size,3,none⟩ (.slice (some ⟨g2,0,none⟩) ps.length (ps.length+12))).heap.size:=by simpa using hU1b
 have hs:aE (W.heap.size+2) w4 (w4.setCell ⟨W.heap.size,3,none⟩ (.slice (some ⟨g2,0,none⟩) ps.length (ps.length+12))):=aE.set (by omega)
 have hs0:aE (W.heap.size+2) (w3.setCell ⟨W.heap.size,2,none⟩ (.slice (some ⟨g1,0,none⟩) vs.length (vs.length+12))) (w4.setCell ⟨W.heap.size,3,none⟩ (.slice (some ⟨g2,0,none⟩) ps.length (ps.length+12))):=(aE.below hb2).trans hs
 replace L1:=L1.stays hs0 gg1
 replace L2:=L2.stays hs gg2
 have hf:w4.frozen? ⟨W.heap.size,3,none⟩=false:=frozen_of_row r1
 have s0:w4.cell? ⟨W.heap.size,3,none⟩=some (.slice a2 ps.length c2):=cell_of_row r1 rfl
 have s1:(w4.setCell ⟨W.heap.size,3,none⟩ (.slice (some ⟨g2,0,none⟩) ps.length (ps.length+12))).cell? ⟨W.heap.size,4,none⟩=some (.slice a3 fs.length c3):=cell_of_row R12.out rfl
 have hc2:=((o9 n (qK n) fs a3 c3 _ (aF.later h3 B2) z3 z5).mono λ_ _ h=>zN.some h)
 have HH2:=Lib.hid (⟨L1,L2,hs,hs0⟩:_/\_/\_/\_)
 clear hc1 hb2 r1 r2 R11 R21 hk1 hk2 hs hs0 B1 Bb2 hU1 L1 L2
 go_wp2_with fail
 refine hc2.mono ?_
 rintro e w5 ⟨g3,xs,rfl,gg3,L3,M3,hb3⟩
 obtain⟨L1,L2,-,-⟩:=HH2.out
 have gg3:=Nat.le_trans hU2 gg3
 have hh3:=hb3.size
 have hU2b:W.heap.size+2<=w5.heap.size:=Nat.le_trans hU2 hh3
 have hk1:=hb3.block W.heap.size (by omega)
 have hk2:=hb3.block (W.heap.size+1) (by omega)
 have Bb3:=B2.trans (hb3.mono (by omega))
 replace M3:All 7 (dh n (W.heap.size+2) w5) xs fs:=M3.mono λ_ _ _ h=>h.lower hU2
 have r1:w5.heap[W.heap.size]?=some (.cells #[.bool p,.bool d,.slice (some ⟨g1,0,none⟩) vs.length (vs.length+12),.slice (some ⟨g2,0,none⟩) ps.length (ps.length+12),.slice a3 fs.length c3,.slice a4 os.length c4,.int .i64 l,.int .i64 f] 30 (0,0)):=hk1.trans R12.out
 have r2:w5.heap[W.heap.size+1]?=some (.cells #[.bool false,.bool false,.slice none 0 0,.slice none 0 0,.slice none 0 0,.slice none 0 0,.int .i64 0,.int .i64 0] 30 (0,0)):=hk2.trans R22.out
 have R13:Hid ((w5.setCell ⟨W.heap.size,4,none⟩ (.slice (some ⟨g3,0,none⟩) fs.length (fs.length+12))).heap[W.heap.size]?=some (.cells #[.bool p,.bool d,.slice (some ⟨g1,0,none⟩) vs.length (vs.length+12),.slice (some ⟨g2,0,none⟩) ps.length (ps.length+12),.slice (some ⟨g3,0,none⟩) fs.length (fs.length+12),.slice a4 os.length c4,.int .i64 l,.int .i64 f] 30 (0,0))):=by show _=_;rw[heap_setCell_same _ _ _ _ _ _ r1];rfl
 have R23:Hid ((w5.setCell ⟨W.heap.size,4,none⟩ (.slice (some ⟨g3,0,none⟩) fs.length (fs.length+12))).heap[W.heap.size+1]?=some (.cells #[.bool false,.bool false,.slice none 0 0,.slice none 0 0,.slice none 0 0,.slice none 0 0,.int .i64 0,.int .i64 0] 30 (0,0))):=by show _=_;rw[heap_setCell_other _ _ _ _ (by simp)];exact r2
 have B3:Below W.heap.size W (w5.setCell ⟨W.heap.size,4,none⟩ (.slice (some ⟨g3,0,none⟩) fs.length (fs.length+12))):=Bb3.setCell (p:=⟨W.heap.size,4,none⟩) (Nat.le_refl _) _
 have hU3:W.heap.size+2<=(w5.setCell ⟨W.heap.size,4,none⟩ (.slice (some ⟨g3,0,none⟩) fs.length (fs.length+12))).heap.size:=by simpa using hU2b
 have hs:aE (W.heap.size+2) w5 (w5.setCell ⟨W.heap.size,4,none⟩ (.slice (some ⟨g3,0,none⟩) fs.length (fs.length+12))):=aE.set (by omega)
 have hs0:aE (W.heap.size+2) (w4.setCell ⟨W.heap.size,3,none⟩ (.slice (some ⟨g2,0,none⟩) ps.length (ps.length+12))) (w5.setCell ⟨W.heap.size,4,none⟩ (.slice (some ⟨g3,0,none⟩) fs.length (fs.length+12))):=(aE.below hb3).trans hs
 replace L1:=L1.stays hs0 gg1
 replace L2:=L2.stays hs0 gg2
 replace L3:=L3.stays hs gg3
 replace M3:All 7 (dh n (W.heap.size+2) (w5.setCell ⟨W.heap.size,4,none⟩ (.slice (some ⟨g3,0,none⟩) fs.length (fs.length+12)))) xs fs:=M3.mono λ_ _ _ h=>h.step hs
 have hf:w5.frozen? ⟨W.heap.size,4,none⟩=false:=frozen_of_row r1
 have s0:w5.cell? ⟨W.heap.size,4,none⟩=some (.slice a3 fs.length c3):=cell_of_row r1 rfl
 have s1:(w5.setCell ⟨W.heap.size,4,none⟩ (.slice (some ⟨g3,0,none⟩) fs.length (fs.length+12))).cell? ⟨W.heap.size,5,none⟩=some (.slice a4 os.length c4):=cell_of_row R13.out rfl
 have hc3:=fa (yH os a4 c4 _ (h4.below B3 (Nat.le_refl _)) z4)
 have HH3:=Lib.hid (⟨L1,L2,L3,M3,hs,hs0⟩:_/\_/\_/\_/\_/\_)
 clear hc2 hb3 r1 r2 R12 R22 hk1 hk2 hs hs0 B2 Bb3 hU2 L1 L2 L3 M3
 go_wp2_with fail
 refine hc3.mono ?_
 rintro e w6 ⟨g4,rfl,gg4,L4,hb4⟩
 obtain⟨L1,L2,L3,M3,-,-⟩:=HH3.out
 have gg4:=Nat.le_trans hU3 gg4
 have hh4:=hb4.size
 have hU3b:W.heap.size+2<=w6.heap.size:=Nat.le_trans hU3 hh4
 have hk1:=hb4.block W.heap.size (by omega)
 have hk2:=hb4.block (W.heap.size+1) (by omega)
 have Bb4:=B3.trans (hb4.mono (by omega))
 have r1:w6.heap[W.heap.size]?=some (.cells #[.bool p,.bool d,.slice (some ⟨g1,0,none⟩) vs.length (vs.length+12),.slice (some ⟨g2,0,none⟩) ps.length (ps.length+12),.slice (some ⟨g3,0,none⟩) fs.length (fs.length+12),.slice a4 os.length c4,.int .i64 l,.int .i64 f] 30 (0,0)):=hk1.trans R13.out
 have r2:w6.heap[W.heap.size+1]?=some (.cells #[.bool false,.bool false,.slice none 0 0,.slice none 0 0,.slice none 0 0,.slice none 0 0,.int .i64 0,.int .i64 0] 30 (0,0)):=hk2.trans R23.out
 have R14:Hid ((w6.setCell ⟨W.heap.size,5,none⟩ (.slice (some ⟨g4,0,none⟩) os.length (os.length+12))).heap[W.heap.size]?=some (.cells #[.bool p,.bool d,.slice (some ⟨g1,0,none⟩) vs.length (vs.length+12),.slice (some ⟨g2,0,none⟩) ps.length (ps.length+12),.slice (some ⟨g3,0,none⟩) fs.length (fs.length+12),.slice (some ⟨g4,0,none⟩) os.length (os.length+12),.int .i64 l,.int .i64 f] 30 (0,0))):=by show _=_;rw[heap_setCell_same _ _ _ _ _ _ r1];rfl
 have R24:Hid ((w6.setCell ⟨W.heap.size,5,none⟩ (.slice (some ⟨g4,0,none⟩) os.length (os.length+12))).heap[W.heap.size+1]?=some (.cells #[.bool false,.bool false,.slice none 0 0,.slice none 0 0,.slice none 0 0,.slice none 0 0,.int .i64 0,.int .i64 0] 30 (0,0))):=by show _=_;rw[heap_setCell_other _ _ _ _ (by simp)];exact r2
 have B4:Below W.heap.size W (w6.setCell ⟨W.heap.size,5,none⟩ (.slice (some ⟨g4,0,none⟩) os.length (os.length+12))):=Bb4.setCell (p:=⟨W.heap.size,5,none⟩) (Nat.le_refl _) _
 have hU4:W.heap.size+2<=(w6.setCell ⟨W.heap.size,5,none⟩ (.slice (some ⟨g4,0,none⟩) os.length (os.length+12))).heap.size:=by simpa using hU3b
 have hs:aE (W.heap.size+2) w6 (w6.setCell ⟨W.heap.size,5,none⟩ (.slice (some ⟨g4,0,none⟩) os.length (os.length+12))):=aE.set (by omega)
 have hs0:aE (W.heap.size+2) (w5.setCell ⟨W.heap.size,4,none⟩ (.slice (some ⟨g3,0,none⟩) fs.length (fs.length+12))) (w6.setCell ⟨W.heap.size,5,none⟩ (.slice (some ⟨g4,0,none⟩) os.length (os.length+12))):=(aE.below hb4).trans hs
 replace L1:=L1.stays hs0 gg1
 replace L2:=L2.stays hs0 gg2
 replace L3:=L3.stays hs0 gg3
 replace M3:All 7 (dh n (W.heap.size+2) (w6.setCell ⟨W.heap.size,5,none⟩ (.slice (some ⟨g4,0,none⟩) os.length (os.length+12)))) xs fs:=M3.mono λ_ _ _ h=>h.step hs0
 replace L4:=L4.stays hs gg4
 have hf:w6.frozen? ⟨W.heap.size,5,none⟩=false:=frozen_of_row r1
 have s0:w6.cell? ⟨W.heap.size,5,none⟩=some (.slice a4 os.length c4):=cell_of_row r1 rfl
 have y0:(w6.setCell ⟨W.heap.size,5,none⟩ (.slice (some ⟨g4,0,none⟩) os.length (os.length+12))).cell? ⟨W.heap.size,0,none⟩=some (.bool p):=cell_of_row R14.out rfl
 have x0:((w6.setCell ⟨W.heap.size,5,none⟩ (.slice (some ⟨g4,0,none⟩) os.length (os.length+12))).setRow (W.heap.size+1) #[.bool p,.bool d,.slice (some ⟨g1,0,none⟩) vs.length (vs.length+12),.slice (some ⟨g2,0,none⟩) ps.length (ps.length+12),.slice (some ⟨g3,0,none⟩) fs.length (fs.length+12),.slice (some ⟨g4,0,none⟩) os.length (os.length+12),.int .i64 l,.int .i64 f]).cell? ⟨W.heap.size+1,0,none⟩=some (.bool p):=by rw[cell_setRow_same _ _ _ _ _ _ _ R24.out];rfl
 have y1:(w6.setCell ⟨W.heap.size,5,none⟩ (.slice (some ⟨g4,0,none⟩) os.length (os.length+12))).cell? ⟨W.heap.size,1,none⟩=some (.bool d):=cell_of_row R14.out rfl
 have x1:((w6.setCell ⟨W.heap.size,5,none⟩ (.slice (some ⟨g4,0,none⟩) os.length (os.length+12))).setRow (W.heap.size+1) #[.bool p,.bool d,.slice (some ⟨g1,0,none⟩) vs.length (vs.length+12),.slice (some ⟨g2,0,none⟩) ps.length (ps.length+12),.slice (some ⟨g3,0,none⟩) fs.length (fs.length+12),.slice (some ⟨g4,0,none⟩) os.length (os.length+12),.int .i64 l,.int .i64 f]).cell? ⟨W.heap.size+1,1,none⟩=some (.bool d):=by rw[cell_setRow_same _ _ _ _ _ _ _ R24.out];rfl
 have y2:(w6.setCell ⟨W.heap.size,5,none⟩ (.slice (some ⟨g4,0,none⟩) os.length (os.length+12))).cell? ⟨W.heap.size,2,none⟩=some (.slice (some ⟨g1,0,none⟩) vs.length (vs.length+12)):=cell_of_row R14.out rfl
 have x2:((w6.setCell ⟨W.heap.size,5,none⟩ (.slice (some ⟨g4,0,none⟩) os.length (os.length+12))).setRow (W.heap.size+1) #[.bool p,.bool d,.slice (some ⟨g1,0,none⟩) vs.length (vs.length+12),.slice (some ⟨g2,0,none⟩) ps.length (ps.length+12),.slice (some ⟨g3,0,none⟩) fs.length (fs.length+12),.slice (some ⟨g4,0,none⟩) os.length (os.length+12),.int .i64 l,.int .i64 f]).cell? ⟨W.heap.size+1,2,none⟩=some (.slice (some ⟨g1,0,none⟩) vs.length (vs.length+12)):=by rw[cell_setRow_same _ _ _ _ _ _ _ R24.out];rfl
 have y3:(w6.setCell ⟨W.heap.size,5,none⟩ (.slice (some ⟨g4,0,none⟩) os.length (os.length+12))).cell? ⟨W.heap.size,3,none⟩=some (.slice (some ⟨g2,0,none⟩) ps.length (ps.length+12)):=cell_of_row R14.out rfl
 have x3:((w6.setCell ⟨W.heap.size,5,none⟩ (.slice (some ⟨g4,0,none⟩) os.length (os.length+12))).setRow (W.heap.size+1) #[.bool p,.bool d,.slice (some ⟨g1,0,none⟩) vs.length (vs.length+12),.slice (some ⟨g2,0,none⟩) ps.length (ps.length+12),.slice (some ⟨g3,0,none⟩) fs.length (fs.length+12),.slice (some ⟨g4,0,none⟩) os.length (os.length+12),.int .i64 l,.int .i64 f]).cell? ⟨W.heap.size+1,3,none⟩=some (.slice (some ⟨g2,0,none⟩) ps.length (ps.length+12)):=by rw[cell_setRow_same _ _ _ _ _ _ _ R24.out];rfl
 have y4:(w6.setCell ⟨W.heap.size,5,none⟩ (.slice (some ⟨g4,0,none⟩) os.length (os.length+12))).cell? ⟨W.heap.size,4,none⟩=some (.slice (some ⟨g3,0,none⟩) fs.length (fs.length+12)):=cell_of_row R14.out rfl
 have x4:((w6.setCell ⟨W.heap.size,5,none⟩ (.slice (some ⟨g4,0,none⟩) os.length (os.length+12))).setRow (W.heap.size+1) #[.bool p,.bool d,.slice (some ⟨g1,0,none⟩) vs.length (vs.length+12),.slice (some ⟨g2,0,none⟩) ps.length (ps.length+12),.slice (some ⟨g3,0,none⟩) fs.length (fs.length+12),.slice (some ⟨g4,0,none⟩) os.length (os.length+12),.int .i64 l,.int .i64 f]).cell? ⟨W.heap.size+1,4,none⟩=some (.slice (some ⟨g3,0,none⟩) fs.length (fs.length+12)):=by rw[cell_setRow_same _ _ _ _ _ _ _ R24.out];rfl
 have y5:(w6.setCell ⟨W.heap.size,5,none⟩ (.slice (some ⟨g4,0,none⟩) os.length (os.length+12))).cell? ⟨W.heap.size,5,none⟩=some (.slice (some ⟨g4,0,none⟩) os.length (os.length+12)):=cell_of_row R14.out rfl
 have x5:((w6.setCell ⟨W.heap.size,5,none⟩ (.slice (some ⟨g4,0,none⟩) os.length (os.length+12))).setRow (W.heap.size+1) #[.bool p,.bool d,.slice (some ⟨g1,0,none⟩) vs.length (vs.length+12),.slice (some ⟨g2,0,none⟩) ps.length (ps.length+12),.slice (some ⟨g3,0,none⟩) fs.length (fs.length+12),.slice (some ⟨g4,0,none⟩) os.length (os.length+12),.int .i64 l,.int .i64 f]).cell? ⟨W.heap.size+1,5,none⟩=some (.slice (some ⟨g4,0,none⟩) os.length (os.length+12)):=by rw[cell_setRow_same _ _ _ _ _ _ _ R24.out];rfl
 have y6:(w6.setCell ⟨W.heap.size,5,none⟩ (.slice (some ⟨g4,0,none⟩) os.length (os.length+12))).cell? ⟨W.heap.size,6,none⟩=some (.int .i64 l):=cell_of_row R14.out rfl
 have x6:((w6.setCell ⟨W.heap.size,5,none⟩ (.slice (some ⟨g4,0,none⟩) os.length (os.length+12))).setRow (W.heap.size+1) #[.bool p,.bool d,.slice (some ⟨g1,0,none⟩) vs.length (vs.length+12),.slice (some ⟨g2,0,none⟩) ps.length (ps.length+12),.slice (some ⟨g3,0,none⟩) fs.length (fs.length+12),.slice (some ⟨g4,0,none⟩) os.length (os.length+12),.int .i64 l,.int .i64 f]).cell? ⟨W.heap.size+1,6,none⟩=some (.int .i64 l):=by rw[cell_setRow_same _ _ _ _ _ _ _ R24.out];rfl
 have y7:(w6.setCell ⟨W.heap.size,5,none⟩ (.slice (some ⟨g4,0,none⟩) os.length (os.length+12))).cell? ⟨W.heap.size,7,none⟩=some (.int .i64 f):=cell_of_row R14.out rfl
 have x7:((w6.setCell ⟨W.heap.size,5,none⟩ (.slice (some ⟨g4,0,none⟩) os.length (os.length+12))).setRow (W.heap.size+1) #[.bool p,.bool d,.slice (some ⟨g1,0,none⟩) vs.length (vs.length+12),.slice (some ⟨g2,0,none⟩) ps.length (ps.length+12),.slice (some ⟨g3,0,none⟩) fs.length (fs.length+12),.slice (some ⟨g4,0,none⟩) os.length (os.length+12),.int .i64 l,.int .i64 f]).cell? ⟨W.heap.size+1,7,none⟩=some (.int .i64 f):=by rw[cell_setRow_same _ _ _ _ _ _ _ R24.out];rfl
 have HH4:=Lib.hid (⟨L1,L2,L3,L4,M3,hs,hs0⟩:_/\_/\_/\_/\_/\_/\_)
 clear hc3 hb4 r1 r2 R13 R23 hk1 hk2 hs hs0 B3 Bb4 hU3 L1 L2 L3 L4 M3
 have hEi:(Tryz.prog.info? 30).map (·.size)=some 8:=by kernel_rfl
 have T2:=R24
 have HB:=Lib.hid (below_setRow B4 (by omega:W.heap.size<=W.heap.size+1) #[.bool p,.bool d,.slice (some ⟨g1,0,none⟩) vs.length (vs.length+12),.slice (some ⟨g2,0,none⟩) ps.length (ps.length+12),.slice (some ⟨g3,0,none⟩) fs.length (fs.length+12),.slice (some ⟨g4,0,none⟩) os.length (os.length+12),.int .i64 l,.int .i64 f])
 clear B4 R24 R14
 go_wp2_with (refine wpList_store_row rfl 30 _ _ rfl rfl rfl hEi T2.out rfl rfl ?_)
 (try simp only[Act.put])
 refine bodyPost_ret (v:=.agg #[.bool p,.bool d,.slice (some ⟨g1,0,none⟩) vs.length (vs.length+12),.slice (some ⟨g2,0,none⟩) ps.length (ps.length+12),.slice (some ⟨g3,0,none⟩) fs.length (fs.length+12),.slice (some ⟨g4,0,none⟩) os.length (os.length+12),.int .i64 l,.int .i64 f]) ?_ rfl ?_
 ·simp[results,Tryz.results9,go_sem,x0,x1,x2,x3,x4,x5,x6,x7]
 ·obtain⟨L1,L2,L3,L4,M3,-,-⟩:=HH4.out
  have hst:aE (W.heap.size+2) (w6.setCell ⟨W.heap.size,5,none⟩ (.slice (some ⟨g4,0,none⟩) os.length (os.length+12))) ((w6.setCell ⟨W.heap.size,5,none⟩ (.slice (some ⟨g4,0,none⟩) os.length (os.length+12))).setRow (W.heap.size+1) #[.bool p,.bool d,.slice (some ⟨g1,0,none⟩) vs.length (vs.length+12),.slice (some ⟨g2,0,none⟩) ps.length (ps.length+12),.slice (some ⟨g3,0,none⟩) fs.length (fs.length+12),.slice (some ⟨g4,0,none⟩) os.length (os.length+12),.int .i64 l,.int .i64 f]):=aE.setRow (by omega)
  exact⟨g1,g2,g3,g4,xs,rfl,⟨gg1,gg2,gg3,gg4⟩,L1.stays hst gg1,L2.stays hst gg2,⟨L3.stays hst gg3,M3.mono λ_ _ _ h=>h.step hst⟩,L4.stays hst gg4,HB.out⟩
end Go.Proofs.YtjldjeenfnahoaaGreatDoor
