/- The kit's copy of a query (printed by gen/copyq.py). The kit -/
import Derived.Test.YtoaemihcbmlkgaaGreatDoorJLent3
namespace Go.Proofs.YtoaemihcbmlkgaaGreatDoor
open Go Go.RowKit Um Fm Mt
theorem CM.belowOld {T:Nat} {w w':World} (h:Below w.heap.size w w'):CM (wo (oldB T) w) (wo (oldB T) w'):=λp u x=>by
 obtain⟨h1,h2⟩:=old_cell.1 x
 exact old_cell.2 ⟨cell_on h1 h,h2⟩
theorem frozen_of_row {w:World} {g j:Nat} {cs:Array Value} {t:TypeId} (h:w.heap[g]?=some (.cells cs t (0,0))):w.frozen? ⟨g,j,none⟩=false:=by
 simp[World.frozen?,h]
abbrev hO (S g:Nat):Nat->Obj->Bool:=λk _=>decide (k<S) || k == g
theorem wo_cellO {S g:Nat} {w:World} {p:Addr} {u:Value}:(wo (hO S g) w).cell? p=some u↔(w.cell? p=some u/\S<=p.block/\p.block≠g):=by
 rw[wo_cellN (h:=λk=>decide (k<S) || k == g)]
 simp
theorem CM.belowO {S g:Nat} {w w':World} (h:Below w.heap.size w w'):CM (wo (hO S g) w) (wo (hO S g) w'):=λp u x=>by
 obtain⟨h1,h2⟩:=wo_cellO.1 x
 exact wo_cellO.2 ⟨cell_on h1 h,h2⟩
theorem CM.setO {S g b i:Nat} {v:Value} {w:World} (hb:b<S):CM (wo (hO S g) w) (wo (hO S g) (w.setCell ⟨b,i,none⟩ v)):=λp u x=>by
 obtain⟨h1,h2,h3⟩:=wo_cellO.1 x
 refine wo_cellO.2 ⟨?_,h2,h3⟩
 rw[World.cell?,Below.heap_setCell _ _ _ _ (by simp;omega)];exact h1
theorem CM.rowO {S g b:Nat} {vs:Array Value} {w:World} (hb:b<S):CM (wo (hO S g) w) (wo (hO S g) (w.setRow b vs)):=λp u x=>by
 obtain⟨h1,h2,h3⟩:=wo_cellO.1 x
 refine wo_cellO.2 ⟨?_,h2,h3⟩
 rw[World.cell?,setRow_other _ _ _ _ (by omega)];exact h1
theorem CM.underO {S S' g:Nat} {w w':World} (hw:w.heap.size<=S') (hb:Below w.heap.size w w') (hg:S'<=g):CM (wo (oldB S) w) (wo (hO S g) w'):=λp u x=>by
 obtain⟨h1,h2⟩:=old_cell.1 x
 have:=cell_lt h1
 exact wo_cellO.2 ⟨cell_on h1 hb,h2,by omega⟩
theorem CM.overO {S S' g:Nat} {w:World} (hg:g<S') (hS:S<=S'):CM (wo (oldB S') w) (wo (hO S g) w):=λp u x=>by
 obtain⟨h1,h2⟩:=old_cell.1 x
 exact wo_cellO.2 ⟨h1,by omega,by omega⟩
def CpQ (n:Nat) (p d:Bool) (l f:Int) (vs:List ByteArray) (ps:List Pat) (fs:List (ExT n)) (os:List Ky) (W:World) (e:Ending) (w':World):Prop:=∃(b1 b2 b3 b4:Option Addr) (e1 e2 e3 e4:Nat),
 e=.returned (.agg #[.bool p,.bool d,.slice b1 vs.length e1,.slice b2 ps.length e2,.slice b3 fs.length e3,.slice b4 os.length e4,.int .i64 l,.int .i64 f]) /\
 (vs.length<=e1/\ps.length<=e2/\fs.length<=e3/\os.length<=e4)/\Rd w' b1 (vs.map Value.string)/\Rd w' b2 (ps.flatMap cPat)/\RdEs n w' b3 fs/\Rd w' b4 (os.flatMap cKey)/\w'.ownsRow (W.heap.size+2) 43 15 (.slice b2 ps.length e2) ps.length (ps.flatMap cPat) /\
 (∀g,(Value.slice b2 ps.length e2).ownBlock=some g->Rd (wo (hO (W.heap.size+2) g) w') b1 (vs.map Value.string)/\RdEs n (wo (hO (W.heap.size+2) g) w') b3 fs/\Rd (wo (hO (W.heap.size+2) g) w') b4 (os.flatMap cKey))/\Below W.heap.size W w'
set_option maxRecDepth 20000 in
set_option maxHeartbeats 4000000 in
theorem kitCopyRun (n:Nat) (p d:Bool) (l f:Int) (vs:List ByteArray) (ps:List Pat) (fs:List (ExT n)) (os:List Ky) (a1 a2 a3 a4:Option Addr) (c1 c2 c3 c4:Nat) (W:World)
  (h1:Rd W a1 (vs.map Value.string)) (h2:Rd W a2 (ps.flatMap cPat)) (h3:RdEs n W a3 fs) (h4:Rd W a4 (os.flatMap cKey))
  (z1:vs.length<=1048576) (z2:ps.length<=1048576) (z3:fs.length<=1353245080300) (z4:os.length<=1048576) (z5:∀x∈fs,szE n x) :
  Calls Tryz.prog 17 #[.agg #[.bool p,.bool d,.slice a1 vs.length c1,.slice a2 ps.length c2,.slice a3 fs.length c3,.slice a4 os.length c4,.int .i64 l,.int .i64 f]] W (CpQ n p d l f vs ps fs os W):=by
 have B0:Below W.heap.size W ((W.alloc (.cells #[.bool p,.bool d,.slice a1 vs.length c1,.slice a2 ps.length c2,.slice a3 fs.length c3,.slice a4 os.length c4,.int .i64 l,.int .i64 f] 50)).alloc (.cells #[.bool false,.bool false,.slice none 0 0,.slice none 0 0,.slice none 0 0,.slice none 0 0,.int .i64 0,.int .i64 0] 50)):=blw
 have hT0:W.heap.size+2<=((W.alloc (.cells #[.bool p,.bool d,.slice a1 vs.length c1,.slice a2 ps.length c2,.slice a3 fs.length c3,.slice a4 os.length c4,.int .i64 l,.int .i64 f] 50)).alloc (.cells #[.bool false,.bool false,.slice none 0 0,.slice none 0 0,.slice none 0 0,.slice none 0 0,.int .i64 0,.int .i64 0] 50)).heap.size:=by simp
 have hc0:=copyTexts vs a1 c1 _ z1 (h1.below B0 (Nat.le_refl _))
 have r10:((W.alloc (.cells #[.bool p,.bool d,.slice a1 vs.length c1,.slice a2 ps.length c2,.slice a3 fs.length c3,.slice a4 os.length c4,.int .i64 l,.int .i64 f] 50)).alloc (.cells #[.bool false,.bool false,.slice none 0 0,.slice none 0 0,.slice none 0 0,.slice none 0 0,.int .i64 0,.int .i64 0] 50)).heap[W.heap.size]?=some (.cells #[.bool p,.bool d,.slice a1 vs.length c1,.slice a2 ps.length c2,.slice a3 fs.length c3,.slice a4 os.length c4,.int .i64 l,.int .i64 f] 50 (0,0)):=heap_two_1 W _ _
 have r20:((W.alloc (.cells #[.bool p,.bool d,.slice a1 vs.length c1,.slice a2 ps.length c2,.slice a3 fs.length c3,.slice a4 os.length c4,.int .i64 l,.int .i64 f] 50)).alloc (.cells #[.bool false,.bool false,.slice none 0 0,.slice none 0 0,.slice none 0 0,.slice none 0 0,.int .i64 0,.int .i64 0] 50)).heap[W.heap.size+1]?=some (.cells #[.bool false,.bool false,.slice none 0 0,.slice none 0 0,.slice none 0 0,.slice none 0 0,.int .i64 0,.int .i64 0] 50 (0,0)):=heap_two_2 W _ _
 have R10:=Lib.hid r10
 have R20:=Lib.hid r20
 clear r10 r20
 go_enter Tryz.func17,Tryz.ntmps17
 go_wp2_with fail
 refine hc0.mono ?_
 rintro e w3 ⟨b1,e1,rfl,g1,S1,hb1⟩
 have hs1:=hb1.size
 have hT1:W.heap.size+2<=w3.heap.size:=Nat.le_trans hT0 hb1.size
 have r1:w3.heap[W.heap.size]?=some (.cells #[.bool p,.bool d,.slice a1 vs.length c1,.slice a2 ps.length c2,.slice a3 fs.length c3,.slice a4 os.length c4,.int .i64 l,.int .i64 f] 50 (0,0)):=by rw[hb1.block _ (by omega)];exact R10.out
 have r2:w3.heap[W.heap.size+1]?=some (.cells #[.bool false,.bool false,.slice none 0 0,.slice none 0 0,.slice none 0 0,.slice none 0 0,.int .i64 0,.int .i64 0] 50 (0,0)):=by rw[hb1.block _ (by omega)];exact R20.out
 have t1:(w3.setCell ⟨W.heap.size,2,none⟩ (.slice b1 vs.length e1)).heap[W.heap.size]?=some (.cells #[.bool p,.bool d,.slice b1 vs.length e1,.slice a2 ps.length c2,.slice a3 fs.length c3,.slice a4 os.length c4,.int .i64 l,.int .i64 f] 50 (0,0)):=by rw[heap_setCell_same _ _ _ _ _ _ r1];rfl
 have t2:(w3.setCell ⟨W.heap.size,2,none⟩ (.slice b1 vs.length e1)).heap[W.heap.size+1]?=some (.cells #[.bool false,.bool false,.slice none 0 0,.slice none 0 0,.slice none 0 0,.slice none 0 0,.int .i64 0,.int .i64 0] 50 (0,0)):=by rw[heap_setCell_other _ _ _ _ (by simp)];exact r2
 have B1:Below W.heap.size W (w3.setCell ⟨W.heap.size,2,none⟩ (.slice b1 vs.length e1)):=(B0.trans (hb1.mono (by omega))).setCell (p:=⟨W.heap.size,2,none⟩) (Nat.le_refl _) _
 have M1:CM (wo (oldB (W.heap.size+2)) w3) (wo (oldB (W.heap.size+2)) (w3.setCell ⟨W.heap.size,2,none⟩ (.slice b1 vs.length e1))):=CM.setOld (CM.refl _) (by simp)
 replace S1:=S1.cm (CM.trans (CM.lower hT0) M1)
 have hf:w3.frozen? ⟨W.heap.size,2,none⟩=false:=frozen_of_row r1
 have s0:w3.cell? ⟨W.heap.size,2,none⟩=some (.slice a1 vs.length c1):=cell_of_row r1 rfl
 have s1:(w3.setCell ⟨W.heap.size,2,none⟩ (.slice b1 vs.length e1)).cell? ⟨W.heap.size,3,none⟩=some (.slice a2 ps.length c2):=cell_of_row t1 rfl
 have hc1:=copyPats ps a2 c2 _ z2 (h2.below B1 (Nat.le_refl _))
 have hU1:W.heap.size+2<=(w3.setCell ⟨W.heap.size,2,none⟩ (.slice b1 vs.length e1)).heap.size:=by simpa using hT1
 clear hc0 hb1 r1 r2 R10 R20 M1 hT0 hT1 B0
 have R11:=Lib.hid t1
 have R21:=Lib.hid t2
 clear t1 t2
 go_wp2_with fail
 refine hc1.mono ?_
 rintro e w4 ⟨b2,e2,rfl,g2,S2,O2,hb2⟩
 have hs2:=hb2.size
 have hT2:W.heap.size+2<=w4.heap.size:=Nat.le_trans hU1 hb2.size
 have r1:w4.heap[W.heap.size]?=some (.cells #[.bool p,.bool d,.slice b1 vs.length e1,.slice a2 ps.length c2,.slice a3 fs.length c3,.slice a4 os.length c4,.int .i64 l,.int .i64 f] 50 (0,0)):=by rw[hb2.block _ (by omega)];exact R11.out
 have r2:w4.heap[W.heap.size+1]?=some (.cells #[.bool false,.bool false,.slice none 0 0,.slice none 0 0,.slice none 0 0,.slice none 0 0,.int .i64 0,.int .i64 0] 50 (0,0)):=by rw[hb2.block _ (by omega)];exact R21.out
 have t1:(w4.setCell ⟨W.heap.size,3,none⟩ (.slice b2 ps.length e2)).heap[W.heap.size]?=some (.cells #[.bool p,.bool d,.slice b1 vs.length e1,.slice b2 ps.length e2,.slice a3 fs.length c3,.slice a4 os.length c4,.int .i64 l,.int .i64 f] 50 (0,0)):=by rw[heap_setCell_same _ _ _ _ _ _ r1];rfl
 have t2:(w4.setCell ⟨W.heap.size,3,none⟩ (.slice b2 ps.length e2)).heap[W.heap.size+1]?=some (.cells #[.bool false,.bool false,.slice none 0 0,.slice none 0 0,.slice none 0 0,.slice none 0 0,.int .i64 0,.int .i64 0] 50 (0,0)):=by rw[heap_setCell_other _ _ _ _ (by simp)];exact r2
 have B2:Below W.heap.size W (w4.setCell ⟨W.heap.size,3,none⟩ (.slice b2 ps.length e2)):=(B1.trans (hb2.mono (by omega))).setCell (p:=⟨W.heap.size,3,none⟩) (Nat.le_refl _) _
 have M2:CM (wo (oldB (W.heap.size+2)) w4) (wo (oldB (W.heap.size+2)) (w4.setCell ⟨W.heap.size,3,none⟩ (.slice b2 ps.length e2))):=CM.setOld (CM.refl _) (by simp)
 have T1:∀g,(Value.slice b2 ps.length e2).ownBlock=some g->Rd (wo (hO (W.heap.size+2) g) (w4.setCell ⟨W.heap.size,3,none⟩ (.slice b2 ps.length e2))) b1 (vs.map Value.string):=λg hg=>S1.cm (CM.trans (CM.underO (Nat.le_refl _) hb2 (O2.lt g hg).1) (CM.setO (by omega)))
 have hgl:∀g,(Value.slice b2 ps.length e2).ownBlock=some g->g<(w4.setCell ⟨W.heap.size,3,none⟩ (.slice b2 ps.length e2)).heap.size:=λg hg=>by have:=(O2.lt g hg).2;simpa using this
 replace S1:=S1.cm (CM.trans (CM.belowOld hb2) M2)
 replace S2:=S2.cm (CM.trans (CM.lower hU1) M2)
 replace O2:=own_set (u:=.slice b2 ps.length e2) (own_down O2 hU1) (by omega:W.heap.size<W.heap.size+2) 3
 have hf:w4.frozen? ⟨W.heap.size,3,none⟩=false:=frozen_of_row r1
 have s0:w4.cell? ⟨W.heap.size,3,none⟩=some (.slice a2 ps.length c2):=cell_of_row r1 rfl
 have s1:(w4.setCell ⟨W.heap.size,3,none⟩ (.slice b2 ps.length e2)).cell? ⟨W.heap.size,4,none⟩=some (.slice a3 fs.length c3):=cell_of_row t1 rfl
 have hc2:=copyExprs n (kitCopyE n) fs a3 c3 _ (RdEs.later h3 B2) z3 z5
 have hU2:W.heap.size+2<=(w4.setCell ⟨W.heap.size,3,none⟩ (.slice b2 ps.length e2)).heap.size:=by simpa using hT2
 clear hc1 hb2 r1 r2 R11 R21 M2 hU1 hT2 B1
 have R12:=Lib.hid t1
 have R22:=Lib.hid t2
 clear t1 t2
 go_wp2_with fail
 refine hc2.mono ?_
 rintro e w5 ⟨b3,e3,rfl,g3,S3,hb3⟩
 have hs3:=hb3.size
 have hT3:W.heap.size+2<=w5.heap.size:=Nat.le_trans hU2 hb3.size
 have r1:w5.heap[W.heap.size]?=some (.cells #[.bool p,.bool d,.slice b1 vs.length e1,.slice b2 ps.length e2,.slice a3 fs.length c3,.slice a4 os.length c4,.int .i64 l,.int .i64 f] 50 (0,0)):=by rw[hb3.block _ (by omega)];exact R12.out
 have r2:w5.heap[W.heap.size+1]?=some (.cells #[.bool false,.bool false,.slice none 0 0,.slice none 0 0,.slice none 0 0,.slice none 0 0,.int .i64 0,.int .i64 0] 50 (0,0)):=by rw[hb3.block _ (by omega)];exact R22.out
 have t1:(w5.setCell ⟨W.heap.size,4,none⟩ (.slice b3 fs.length e3)).heap[W.heap.size]?=some (.cells #[.bool p,.bool d,.slice b1 vs.length e1,.slice b2 ps.length e2,.slice b3 fs.length e3,.slice a4 os.length c4,.int .i64 l,.int .i64 f] 50 (0,0)):=by rw[heap_setCell_same _ _ _ _ _ _ r1];rfl
 have t2:(w5.setCell ⟨W.heap.size,4,none⟩ (.slice b3 fs.length e3)).heap[W.heap.size+1]?=some (.cells #[.bool false,.bool false,.slice none 0 0,.slice none 0 0,.slice none 0 0,.slice none 0 0,.int .i64 0,.int .i64 0] 50 (0,0)):=by rw[heap_setCell_other _ _ _ _ (by simp)];exact r2
 have B3:Below W.heap.size W (w5.setCell ⟨W.heap.size,4,none⟩ (.slice b3 fs.length e3)):=(B2.trans (hb3.mono (by omega))).setCell (p:=⟨W.heap.size,4,none⟩) (Nat.le_refl _) _
 have M3:CM (wo (oldB (W.heap.size+2)) w5) (wo (oldB (W.heap.size+2)) (w5.setCell ⟨W.heap.size,4,none⟩ (.slice b3 fs.length e3))):=CM.setOld (CM.refl _) (by simp)
 replace T1:=λg hg=>(T1 g hg).cm (CM.trans (CM.belowO hb3) (CM.setO (i:=4) (v:=.slice b3 fs.length e3) (by omega:W.heap.size<W.heap.size+2)))
 have T3:∀g,(Value.slice b2 ps.length e2).ownBlock=some g->RdEs n (wo (hO (W.heap.size+2) g) (w5.setCell ⟨W.heap.size,4,none⟩ (.slice b3 fs.length e3))) b3 fs:=λg hg=>RdEs.cm S3 (CM.trans (CM.overO (hgl g hg) hU2) (CM.setO (by omega)))
 have hgl2:∀g,(Value.slice b2 ps.length e2).ownBlock=some g->g<(w5.setCell ⟨W.heap.size,4,none⟩ (.slice b3 fs.length e3)).heap.size:=λg hg=>by have:=hgl g hg;have:=hb3.size;simp at *;omega
 replace S1:=S1.cm (CM.trans (CM.belowOld hb3) M3)
 replace S2:=S2.cm (CM.trans (CM.belowOld hb3) M3)
 replace S3:=RdEs.cm S3 (CM.trans (CM.lower hU2) M3)
 replace O2:=own_set (u:=.slice b3 fs.length e3) (own_below O2 hb3 (Nat.le_refl _)) (by omega:W.heap.size<W.heap.size+2) 4
 have hf:w5.frozen? ⟨W.heap.size,4,none⟩=false:=frozen_of_row r1
 have s0:w5.cell? ⟨W.heap.size,4,none⟩=some (.slice a3 fs.length c3):=cell_of_row r1 rfl
 have s1:(w5.setCell ⟨W.heap.size,4,none⟩ (.slice b3 fs.length e3)).cell? ⟨W.heap.size,5,none⟩=some (.slice a4 os.length c4):=cell_of_row t1 rfl
 have hc3:=copyKeys os a4 c4 _ z4 (h4.below B3 (Nat.le_refl _))
 have hU3:W.heap.size+2<=(w5.setCell ⟨W.heap.size,4,none⟩ (.slice b3 fs.length e3)).heap.size:=by simpa using hT3
 clear hc2 hb3 r1 r2 R12 R22 M3 hU2 hT3 B2
 have R13:=Lib.hid t1
 have R23:=Lib.hid t2
 clear t1 t2
 go_wp2_with fail
 refine hc3.mono ?_
 rintro e w6 ⟨b4,e4,rfl,g4,S4,hb4⟩
 have hs4:=hb4.size
 have hT4:W.heap.size+2<=w6.heap.size:=Nat.le_trans hU3 hb4.size
 have r1:w6.heap[W.heap.size]?=some (.cells #[.bool p,.bool d,.slice b1 vs.length e1,.slice b2 ps.length e2,.slice b3 fs.length e3,.slice a4 os.length c4,.int .i64 l,.int .i64 f] 50 (0,0)):=by rw[hb4.block _ (by omega)];exact R13.out
 have r2:w6.heap[W.heap.size+1]?=some (.cells #[.bool false,.bool false,.slice none 0 0,.slice none 0 0,.slice none 0 0,.slice none 0 0,.int .i64 0,.int .i64 0] 50 (0,0)):=by rw[hb4.block _ (by omega)];exact R23.out
 have t1:(w6.setCell ⟨W.heap.size,5,none⟩ (.slice b4 os.length e4)).heap[W.heap.size]?=some (.cells #[.bool p,.bool d,.slice b1 vs.length e1,.slice b2 ps.length e2,.slice b3 fs.length e3,.slice b4 os.length e4,.int .i64 l,.int .i64 f] 50 (0,0)):=by rw[heap_setCell_same _ _ _ _ _ _ r1];rfl
 have t2:(w6.setCell ⟨W.heap.size,5,none⟩ (.slice b4 os.length e4)).heap[W.heap.size+1]?=some (.cells #[.bool false,.bool false,.slice none 0 0,.slice none 0 0,.slice none 0 0,.slice none 0 0,.int .i64 0,.int .i64 0] 50 (0,0)):=by rw[heap_setCell_other _ _ _ _ (by simp)];exact r2
 have B4:Below W.heap.size W (w6.setCell ⟨W.heap.size,5,none⟩ (.slice b4 os.length e4)):=(B3.trans (hb4.mono (by omega))).setCell (p:=⟨W.heap.size,5,none⟩) (Nat.le_refl _) _
 have M4:CM (wo (oldB (W.heap.size+2)) w6) (wo (oldB (W.heap.size+2)) (w6.setCell ⟨W.heap.size,5,none⟩ (.slice b4 os.length e4))):=CM.setOld (CM.refl _) (by simp)
 replace T1:=λg hg=>(T1 g hg).cm (CM.trans (CM.belowO hb4) (CM.setO (i:=5) (v:=.slice b4 os.length e4) (by omega:W.heap.size<W.heap.size+2)))
 replace T3:=λg hg=>RdEs.cm (T3 g hg) (CM.trans (CM.belowO hb4) (CM.setO (i:=5) (v:=.slice b4 os.length e4) (by omega:W.heap.size<W.heap.size+2)))
 have T4:∀g,(Value.slice b2 ps.length e2).ownBlock=some g->Rd (wo (hO (W.heap.size+2) g) (w6.setCell ⟨W.heap.size,5,none⟩ (.slice b4 os.length e4))) b4 (os.flatMap cKey):=λg hg=>S4.cm (CM.trans (CM.overO (hgl2 g hg) hU3) (CM.setO (by omega)))
 replace S1:=S1.cm (CM.trans (CM.belowOld hb4) M4)
 replace S2:=S2.cm (CM.trans (CM.belowOld hb4) M4)
 replace S3:=RdEs.cm S3 (CM.trans (CM.belowOld hb4) M4)
 replace S4:=S4.cm (CM.trans (CM.lower hU3) M4)
 replace O2:=own_set (u:=.slice b4 os.length e4) (own_below O2 hb4 (Nat.le_refl _)) (by omega:W.heap.size<W.heap.size+2) 5
 have hf:w6.frozen? ⟨W.heap.size,5,none⟩=false:=frozen_of_row r1
 have s0:w6.cell? ⟨W.heap.size,5,none⟩=some (.slice a4 os.length c4):=cell_of_row r1 rfl
 have u0:(w6.setCell ⟨W.heap.size,5,none⟩ (.slice b4 os.length e4)).cell? ⟨W.heap.size,0,none⟩=some (.bool p):=cell_of_row t1 rfl
 have u1:(w6.setCell ⟨W.heap.size,5,none⟩ (.slice b4 os.length e4)).cell? ⟨W.heap.size,1,none⟩=some (.bool d):=cell_of_row t1 rfl
 have u2:(w6.setCell ⟨W.heap.size,5,none⟩ (.slice b4 os.length e4)).cell? ⟨W.heap.size,2,none⟩=some (.slice b1 vs.length e1):=cell_of_row t1 rfl
 have u3:(w6.setCell ⟨W.heap.size,5,none⟩ (.slice b4 os.length e4)).cell? ⟨W.heap.size,3,none⟩=some (.slice b2 ps.length e2):=cell_of_row t1 rfl
 have u4:(w6.setCell ⟨W.heap.size,5,none⟩ (.slice b4 os.length e4)).cell? ⟨W.heap.size,4,none⟩=some (.slice b3 fs.length e3):=cell_of_row t1 rfl
 have u5:(w6.setCell ⟨W.heap.size,5,none⟩ (.slice b4 os.length e4)).cell? ⟨W.heap.size,5,none⟩=some (.slice b4 os.length e4):=cell_of_row t1 rfl
 have u6:(w6.setCell ⟨W.heap.size,5,none⟩ (.slice b4 os.length e4)).cell? ⟨W.heap.size,6,none⟩=some (.int .i64 l):=cell_of_row t1 rfl
 have u7:(w6.setCell ⟨W.heap.size,5,none⟩ (.slice b4 os.length e4)).cell? ⟨W.heap.size,7,none⟩=some (.int .i64 f):=cell_of_row t1 rfl
 have x0:((w6.setCell ⟨W.heap.size,5,none⟩ (.slice b4 os.length e4)).setRow (W.heap.size+1) #[.bool p,.bool d,.slice b1 vs.length e1,.slice b2 ps.length e2,.slice b3 fs.length e3,.slice b4 os.length e4,.int .i64 l,.int .i64 f]).cell? ⟨W.heap.size+1,0,none⟩=some (.bool p):=by rw[cell_setRow_same _ _ _ _ _ _ _ t2];rfl
 have x1:((w6.setCell ⟨W.heap.size,5,none⟩ (.slice b4 os.length e4)).setRow (W.heap.size+1) #[.bool p,.bool d,.slice b1 vs.length e1,.slice b2 ps.length e2,.slice b3 fs.length e3,.slice b4 os.length e4,.int .i64 l,.int .i64 f]).cell? ⟨W.heap.size+1,1,none⟩=some (.bool d):=by rw[cell_setRow_same _ _ _ _ _ _ _ t2];rfl
 have x2:((w6.setCell ⟨W.heap.size,5,none⟩ (.slice b4 os.length e4)).setRow (W.heap.size+1) #[.bool p,.bool d,.slice b1 vs.length e1,.slice b2 ps.length e2,.slice b3 fs.length e3,.slice b4 os.length e4,.int .i64 l,.int .i64 f]).cell? ⟨W.heap.size+1,2,none⟩=some (.slice b1 vs.length e1):=by rw[cell_setRow_same _ _ _ _ _ _ _ t2];rfl
 have x3:((w6.setCell ⟨W.heap.size,5,none⟩ (.slice b4 os.length e4)).setRow (W.heap.size+1) #[.bool p,.bool d,.slice b1 vs.length e1,.slice b2 ps.length e2,.slice b3 fs.length e3,.slice b4 os.length e4,.int .i64 l,.int .i64 f]).cell? ⟨W.heap.size+1,3,none⟩=some (.slice b2 ps.length e2):=by rw[cell_setRow_same _ _ _ _ _ _ _ t2];rfl
 have x4:((w6.setCell ⟨W.heap.size,5,none⟩ (.slice b4 os.length e4)).setRow (W.heap.size+1) #[.bool p,.bool d,.slice b1 vs.length e1,.slice b2 ps.length e2,.slice b3 fs.length e3,.slice b4 os.length e4,.int .i64 l,.int .i64 f]).cell? ⟨W.heap.size+1,4,none⟩=some (.slice b3 fs.length e3):=by rw[cell_setRow_same _ _ _ _ _ _ _ t2];rfl
 have x5:((w6.setCell ⟨W.heap.size,5,none⟩ (.slice b4 os.length e4)).setRow (W.heap.size+1) #[.bool p,.bool d,.slice b1 vs.length e1,.slice b2 ps.length e2,.slice b3 fs.length e3,.slice b4 os.length e4,.int .i64 l,.int .i64 f]).cell? ⟨W.heap.size+1,5,none⟩=some (.slice b4 os.length e4):=by rw[cell_setRow_same _ _ _ _ _ _ _ t2];rfl
 have x6:((w6.setCell ⟨W.heap.size,5,none⟩ (.slice b4 os.length e4)).setRow (W.heap.size+1) #[.bool p,.bool d,.slice b1 vs.length e1,.slice b2 ps.length e2,.slice b3 fs.length e3,.slice b4 os.length e4,.int .i64 l,.int .i64 f]).cell? ⟨W.heap.size+1,6,none⟩=some (.int .i64 l):=by rw[cell_setRow_same _ _ _ _ _ _ _ t2];rfl
 have x7:((w6.setCell ⟨W.heap.size,5,none⟩ (.slice b4 os.length e4)).setRow (W.heap.size+1) #[.bool p,.bool d,.slice b1 vs.length e1,.slice b2 ps.length e2,.slice b3 fs.length e3,.slice b4 os.length e4,.int .i64 l,.int .i64 f]).cell? ⟨W.heap.size+1,7,none⟩=some (.int .i64 f):=by rw[cell_setRow_same _ _ _ _ _ _ _ t2];rfl
 have hQi:(Tryz.prog.info? 50).map (·.size)=some 8:=by kernel_rfl
 have T2:=Lib.hid t2
 have MR:CM (wo (oldB (W.heap.size+2)) (w6.setCell ⟨W.heap.size,5,none⟩ (.slice b4 os.length e4))) ((w6.setCell ⟨W.heap.size,5,none⟩ (.slice b4 os.length e4)).setRow (W.heap.size+1) #[.bool p,.bool d,.slice b1 vs.length e1,.slice b2 ps.length e2,.slice b3 fs.length e3,.slice b4 os.length e4,.int .i64 l,.int .i64 f]):=CM.trans (CM.rowOld (CM.refl _) (by simp)) CM.new_all
 have H:=Lib.hid (⟨And.intro g1 (And.intro g2 (And.intro g3 g4)),S1.cm MR,S2.cm MR,RdEs.cm S3 MR,S4.cm MR,own_row (g:=W.heap.size+1) (vs:=#[.bool p,.bool d,.slice b1 vs.length e1,.slice b2 ps.length e2,.slice b3 fs.length e3,.slice b4 os.length e4,.int .i64 l,.int .i64 f]) O2 (λe=>by have:=(O2.lt _ e).1;omega),λg (hg:(Value.slice b2 ps.length e2).ownBlock=some g)=>And.intro ((T1 g hg).cm (CM.rowO (b:=W.heap.size+1) (vs:=#[.bool p,.bool d,.slice b1 vs.length e1,.slice b2 ps.length e2,.slice b3 fs.length e3,.slice b4 os.length e4,.int .i64 l,.int .i64 f]) (by omega))) (And.intro (RdEs.cm (T3 g hg) (CM.rowO (b:=W.heap.size+1) (vs:=#[.bool p,.bool d,.slice b1 vs.length e1,.slice b2 ps.length e2,.slice b3 fs.length e3,.slice b4 os.length e4,.int .i64 l,.int .i64 f]) (by omega))) ((T4 g hg).cm (CM.rowO (b:=W.heap.size+1) (vs:=#[.bool p,.bool d,.slice b1 vs.length e1,.slice b2 ps.length e2,.slice b3 fs.length e3,.slice b4 os.length e4,.int .i64 l,.int .i64 f]) (by omega)))),below_setRow B4 (by omega:W.heap.size<=W.heap.size+1) #[.bool p,.bool d,.slice b1 vs.length e1,.slice b2 ps.length e2,.slice b3 fs.length e3,.slice b4 os.length e4,.int .i64 l,.int .i64 f]⟩:_/\_/\_/\_/\_/\_/\_/\_)
 clear hc3 hb4 r1 r2 R13 R23 M4 hU3 hT4 B3 B4 MR S1 S2 S3 S4 O2 T1 T3 T4 hgl hgl2 h1 h2 h3 h4 t1 t2
 go_wp2_with (refine wpList_store_row rfl 50 _ _ rfl rfl rfl hQi T2.out rfl rfl ?_)
 (try simp only[Act.put])
 refine bodyPost_ret (v:=.agg #[.bool p,.bool d,.slice b1 vs.length e1,.slice b2 ps.length e2,.slice b3 fs.length e3,.slice b4 os.length e4,.int .i64 l,.int .i64 f]) ?_ rfl ?_
 ·simp[results,Tryz.results17,go_sem,x0,x1,x2,x3,x4,x5,x6,x7]
 ·obtain⟨G,Q1,Q2,Q3,Q4,Q6,Q7,Q5⟩:=H.out
  exact⟨b1,b2,b3,b4,e1,e2,e3,e4,rfl,G,Q1,Q2,Q3,Q4,Q6,Q7,Q5⟩
open Lx Tx Om Mp
theorem right_of {names:List ByteArray} {l:List (List Tm)} (h:names.Nodup) (hl:∀r∈l,r.length=names.length):rightT names l=true:=by
 unfold rightT
 simp only[Bool.and_eq_true,decide_eq_true_iff,Bool.not_eq_true',List.any_eq_false]
 exact⟨h,λr hr=>by simp[hl r hr]⟩
end Go.Proofs.YtoaemihcbmlkgaaGreatDoor
