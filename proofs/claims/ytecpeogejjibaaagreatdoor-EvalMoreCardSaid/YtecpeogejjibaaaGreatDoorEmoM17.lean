/- ops.groups. ops.made: Sort, Join, Group. -/
import Derived.Test.YtecpeogejjibaaaGreatDoorEmoM15
import Derived.Test.YtecpeogejjibaaaGreatDoorEmoM16
import Derived.Test.YtecpeogejjibaaaGreatDoorEmoM3
import Derived.Test.YtecpeogejjibaaaGreatDoorEmoM8
import Derived.StillTailTactics
import Derived.Lib.MinMax
import Derived.Deep.CutRange
import Derived.Test.YtecpeogejjibaaaGreatDoorEmoM13
set_option linter.unusedSimpArgs false
set_option linter.unusedVariables false
set_option maxRecDepth 100000
set_option maxHeartbeats 16000000
namespace Go.Proofs.YtecpeogejjibaaaGreatDoor
open Go.Lib renaming hid → Fx
open _root_.Nat renaming le_refl → Fy, le_trans → FD, zero_le → FF
open _root_.List renaming length_append → Fz, getElem?_eq_getElem → FA, getElem_mem → FE, length_take → FH, getD_eq_getElem?_getD → FJ
open Go.World renaming block_lt_of_cell? → FC, news_of_block → FI
open aa renaming refl → FK
open ao renaming new → FL
open Go.Value renaming string → FM, slice → FN, int → FR
open Go.Ending renaming returned → FP
open Go.Obj renaming cells → FQ
open Go.IntKind renaming i64 → FS
section
open Go.RowKit Go.BigFrame
attribute [local go_sem] ag ab ae af KW.cell
def jD (p:Vl×Vl):Array Value:= #[FR FS p.1.kind,FR FS p.1.num,FM (bs p.1.word),FR FS p.2.kind,FR FS p.2.num,FM (bs p.2.word)]
def gV (g:Nat):Value:=FN (some ⟨g,0,none⟩) 2 2
def tP (base:Nat) (W:World) (v:Value) (gs:List (Vl×Vl)):Prop :=
 ∃ G:List Nat,G.length=gs.length∧G.Nodup∧W.ownsRow base 89 1 v gs.length (G.map gV)∧∀ i (h:i<G.length) (h':i<gs.length),base≤G[i]∧ao W G[i] 46 (jD gs[i])
theorem tP.nil (base:Nat) (W:World):tP base W (FN none 0 0) []:=⟨[],rfl,List.nodup_nil,World.ownsRow_nil _ _ _ _,fun i h=>by cases h⟩
theorem tP.keep {base:Nat} {W W':World} {v:Value} {gs:List (Vl×Vl)} (h:tP base W v gs) (D:aa [] W W'):tP base W' v gs:=by
 obtain ⟨G,M,N,J,I⟩:=h;exact ⟨G,M,N,aC J D (fun _ _=>by simp),fun i a b=>⟨(I i a b).1,(I i a b).2.keep D (by simp)⟩⟩
theorem tP.last {base:Nat} {W:World} {v:Value} {gs:List (Vl×Vl)} {z:Vl×Vl} (h:tP base W v (gs++[z])):∃ gv cap I,v=FN (some ⟨gv,0,none⟩) (gs.length+1) cap∧gv<W.heap.size∧base≤I∧W.cell? ⟨gv,gs.length,none⟩=some (gV I)∧ao W I 46 (jD z) ∧
  ∀ n,tP base (W.setCell ⟨I,4,none⟩ (FR FS n)) v (gs++[(z.1,⟨z.2.kind,n,z.2.word⟩)]):=by
 obtain ⟨G,Z,O,J,U⟩:=h;have hl:G.length=gs.length+1:=by rw[Z];simp
 obtain ⟨b4,M⟩:=U gs.length (by omega) (by simp);have hz:(gs++[z])[gs.length]'(by simp)=z:=by simp
 rw[hz] at M;have h3':=J;rw[Fz,List.length_singleton] at J;rcases J.2 with ⟨_,h0⟩|⟨gv,cap,cur,rfl,hb,hh,hc,_⟩
 ·omega
 have D:=J.cells (g:=gv) rfl gs.length (gV G[gs.length]) (by rw[List.getElem?_map,FA (by omega)];rfl);rw[cJ,Nat.zero_add] at D;refine ⟨gv,cap,G[gs.length],rfl,(Array.getElem?_eq_some_iff.1 hh).1,b4,D,M,fun n=>⟨G,by rw[Z];simp,O,?_,fun i a b=>?_⟩⟩
 ·have:=rL (i:=4) (u:=FR FS n) h3' M (by decide)
  rw[Fz,List.length_singleton] at this ⊢;exact this
 have hi:i<gs.length+1:=by rw[←hl];exact a
 obtain ⟨c1,c2⟩:=U i a (by simpa using hi);refine ⟨c1,?_⟩;by_cases he:i=gs.length
 ·subst he
  have:=M.set 4 (FR FS n);refine this.congr ?_;simp[jD]
 have N:G[i]≠G[gs.length]:=by
  rw[List.nodup_iff_pairwise_ne,List.pairwise_iff_getElem] at O;exact O i gs.length a (by omega) (by omega)
 have e1:(gs++[(z.1,(⟨z.2.kind,n,z.2.word⟩:Vl))])[i]'b=(gs++[z])[i]'(by simpa using hi):=by
  rw[List.getElem_append_left (by omega),List.getElem_append_left (by omega)]
 rw[e1];exact c2.far N _
theorem tP.snoc {base:Nat} {y Y W:World} {v:Value} {gs:List (Vl×Vl)} {p:Vl×Vl} {G:List Nat} {bn gw cap:Nat} (h1:G.length=gs.length) (O:G.Nodup) (h4:∀ i (h:i<G.length) (h':i<gs.length),base≤G[i]∧ao y G[i] 46 (jD gs[i])) (hv:Y.ownsRow base 89 1 v gs.length (G.map gV)) (hk:aa [] y Y) (ad:y.heap.size≤bn) (Z:base≤y.heap.size) (hb:ao Y bn 46 (jD p)) (U:Y.grownBy W v.ownBlock)
  (J:W.ownsRow base 89 1 (FN (some ⟨gw,0,none⟩) (gs.length+1) cap) (gs.length+1) (G.map gV++[gV bn])):tP base W (FN (some ⟨gw,0,none⟩) (gs.length+1) cap) (gs++[p]):=by
 have I:=fun g U=>tt hv g U
 have D:∀ g cs,ao Y g 46 cs→ao W g 46 cs:=fun g cs hB=>by
  refine (U.block g hB.lt fun e=>?_).trans hB;obtain ⟨cs',fz,M⟩:=I g e.symm;rw[hB] at M;injection M with M;injection M with _ O;revert O
  decide
 refine ⟨G++[bn],by simp[h1],List.nodup_append.2 ⟨O,by simp,fun a ha b hb' e=>?_⟩,by simpa using J,fun i a b=>?_⟩
 ·rw[List.mem_singleton] at hb'
  obtain ⟨i,N,rfl⟩:=List.getElem_of_mem ha;have:=(h4 i N (by omega)).2.lt;omega
 by_cases N:i<G.length
 ·rw[List.getElem_append_left N,List.getElem_append_left (by omega)]
  obtain ⟨c1,c2⟩:=h4 i N (by omega);exact ⟨c1,D _ _ (c2.keep hk (by simp))⟩
 have hi':i=G.length:=by simp at a;omega
 subst hi';rw[List.getElem_append_right (Fy _),List.getElem_append_right (by omega)];simp only[Nat.sub_self,h1,List.getElem_cons_zero];exact ⟨FD Z ad,D _ _ hb⟩
theorem tP.rows {base:Nat} {W:World} {v:Value} {gs:List (Vl×Vl)} (h:tP base W v gs):cF W v (dO gs):=by
 obtain ⟨G,h1,h2,I,Z⟩:=h;have J:(dO gs).length=gs.length:=by simp[dO]
 rw[←J] at I;obtain ⟨A,c,e,U,M⟩:=iD I;refine ⟨A,c,e,U,G.map gV,by rw[List.length_map,J,h1],M,fun i a b=>?_⟩;have hi:i<G.length:=by simpa using a
 obtain ⟨_,D⟩:=Z i hi (by omega);rw[List.getElem_map];have N:(dO gs)[i]'b=[(gs[i]'(by omega)).1,(gs[i]'(by omega)).2]:=by simp[dO]
 rw[N];refine ⟨_,2,rfl,Fy _,rfl,fun _=>⟨_,rfl,by simp,D.lt,fun j u O=>?_⟩⟩;rw[cJ,Nat.zero_add,D.cell j];simpa[jD,al,eH] using O
theorem yK (op:Bs) (k m:Nat) (l:List (List Vl)) (r:List Vl):aM op k m (l++[r])=ip op k m (aM op k m l) r:=by unfold aM;rw[List.foldl_append];rfl
theorem tQ (op:Bs) (k m:Nat) (l:List (List Vl)):(aM op k m l).length≤l.length:=by
 refine gL (p:=fun l=>(aM op k m l).length≤l.length) (Fy _) (fun l r ih=>?_) l;rw[yK,Fz,List.length_singleton];unfold ip;split
 ·simp;omega
 split
 ·simp;omega
 simp;omega
def pV (g:List (Vl×Vl)):Option (List (List Vl)):=if (g.any fun p=> !eS p.2)=true then none else some (dO g)
def tR (n:Nat) (gs:List (Vl×Vl)):Prop:=∀ p∈gs,-((n:Int)*1000000000)≤p.2.num∧p.2.num≤(n:Int)*1000000000
theorem tR.add {n:Nat} {gs:List (Vl×Vl)} (h:tR n gs) {p:Vl×Vl} (I : -(((n+1:Nat):Int)*1000000000)≤p.2.num∧p.2.num≤((n+1:Nat):Int)*1000000000):tR (n+1) (gs++[p]):=fun q D=>by
 rcases List.mem_append.1 D with D|D
 ·have:=h q D
  omega
 rw[List.mem_singleton.1 D];exact I
theorem vI (t:Tb) (n1 n2:Bs) (k m:Nat) (hk:an t.cols n1=some k) (hm:an t.cols n2=some m) (cu code a2 lk ln rk rn:Int) (no:Nat) (op lc lw rc cj:Bs) (Ao:Option Addr) (co:Nat) (Ai:Option Addr) (ni ci:Nat) (bc oc:Nat) (cc:Nat) (hM:2≤cc) (A B:Option Addr) (c d:Nat) (w:World)
  (s0:w.cell? ⟨bc,oc,none⟩=some (FM (bs n1))) (s1:w.cell? ⟨bc,oc+1,none⟩=some (FM (bs n2))) (hT:aZ w t A B c d) (d3:∀ r∈t.rows,r.length=t.cols.length) (cy:∀ r∈t.rows,-1000000000≤(r.getD m zV).num∧(r.getD m zV).num≤1000000000) (hz:t.rows.length≤100) :
  Calls Tryz.prog 104 #[.agg #[FR FS cu,FR FS code,FN Ao no co,FN Ai ni ci,FN (some ⟨bc,oc,none⟩) 2 cc,FM (bs op),FM (bs lc),FR FS lk,FR FS ln,FM (bs lw),FM (bs rc),FR FS rk,FR FS rn,FM (bs cj),FR FS a2],.agg #[FN A t.cols.length c,FN B t.rows.length d]] w fun e w'=>jC (pV (aM op k m (cN t [n1]))) e w'∧aa [] w w':=by
 obtain ⟨ir,hI,en,e4,eX⟩:=info_parts jw;have ff:Hid (∀ W,aa [] w W→Calls Tryz.prog 89 #[FN A t.cols.length c,FM (bs n1)] W fun e W'=>e=FP (FR FS (k:Int))∧aa [] W W'):=Fx fun W q=>by
  have h:=bU t.cols n1 A c W (hT.cols.keep q) hT.ln;rw[hk] at h;exact h
 have fn:Hid (∀ W,aa [] w W→Calls Tryz.prog 89 #[FN A t.cols.length c,FM (bs n2)] W fun e W'=>e=FP (FR FS (m:Int))∧aa [] W W'):=Fx fun W q=>by
  have h:=bU t.cols n2 A c W (hT.cols.keep q) hT.ln;rw[hm] at h;exact h
 have b9:k<t.cols.length:=(List.findIdx?_eq_some_iff_getElem.1 hk).1;have fS:m<t.cols.length:=(List.findIdx?_eq_some_iff_getElem.1 hm).1;have g4:=Fx (And.intro b9 fS);have ev:Hid (∀ W,aa [] w W→Calls Tryz.prog 100 #[.agg #[FR FS 0,FR FS 0,FN none 0 0,FN none 0 0,FN (some ⟨bc,oc,none⟩) 1 cc,FM ⟨#[]⟩,FM ⟨#[]⟩,FR FS 0,FR FS 0,FM ⟨#[]⟩,FM ⟨#[]⟩,FR FS 0,FR FS 0,FM ⟨#[]⟩,FR FS 0],.agg #[FN A t.cols.length c,FN B t.rows.length d]] W fun e w'=>(∃ v,e=FP v∧cF w' v (cN t [n1]))∧aa [] W w'):=Fx fun W q =>
  pa (⟨0,0,[],[],[n1],[],⟨[],zV⟩,⟨[],zV⟩,0⟩:Jb) t none 0 none 0 0 (some ⟨bc,oc,none⟩) cc A B c d W (hT.quiet q) ⟨rfl,fun _=>⟨_,rfl,by simp,Nat.lt_of_lt_of_le (FC _ _ s0) q.size,fun j u hu=>by
   have hj:j=0:=by
    have:=(List.getElem?_eq_some_iff.1 hu).1;simp[strs] at this;omega
   subst hj;rw[cJ,Nat.add_zero];have hu':some (Value.string (bs n1))=some u:=hu;exact (q.cell_of s0 (by simp)).trans hu'⟩⟩ (by simp) (fun n hn=>by rw[List.mem_singleton.1 hn];exact ⟨k,hk⟩) d3 (by omega) 0
 have f6:Hid (∀ r∈cN t [n1],r.length=t.cols.length∧ -1000000000≤(r.getD m zV).num∧(r.getD m zV).num≤1000000000):=Fx fun r hr=>by
  have hr':=(gK _).mem_iff.1 hr;exact ⟨d3 r hr',cy r hr'⟩
 have d1:Hid ((cN t [n1]).length≤100):=Fx (by unfold cN;rw[bJ];exact hz);have et:=Fx s0;have fs:=Fx s1;obtain ⟨w2,b8⟩:∃ w2,((w.alloc (FQ #[FR FS cu,FR FS code,FN Ao no co,FN Ai ni ci,FN (some ⟨bc,oc,none⟩) 2 cc,FM (bs op),FM (bs lc),FR FS lk,FR FS ln,FM (bs lw),FM (bs rc),FR FS rk,FR FS rn,FM (bs cj),FR FS a2] 50)).alloc (FQ #[FN A t.cols.length c,FN B t.rows.length d] 54))=w2:=⟨_,rfl⟩
 have bq:Hid (aa [] w w2):=Fx (by rw[←b8];exact ((FK _ _).alloc _).alloc _);have ca:Hid (ao w2 w.heap.size 50 #[FR FS cu,FR FS code,FN Ao no co,FN Ai ni ci,FN (some ⟨bc,oc,none⟩) 2 cc,FM (bs op),FM (bs lc),FR FS lk,FR FS ln,FM (bs lw),FM (bs rc),FR FS rk,FR FS rn,FM (bs cj),FR FS a2]):=Fx (by rw[←b8];exact (FL _ _ _).alloc _);have cg:Hid (ao w2 (w.heap.size+1) 54 #[FN A t.cols.length c,FN B t.rows.length d]):=Fx (by
  rw[←b8];have h:=FL (w.alloc (FQ #[FR FS cu,FR FS code,FN Ao no co,FN Ai ni ci,FN (some ⟨bc,oc,none⟩) 2 cc,FM (bs op),FM (bs lc),FR FS lk,FR FS ln,FM (bs lw),FM (bs rc),FR FS rk,FR FS rn,FM (bs cj),FR FS a2] 50)) 54 #[FN A t.cols.length c,FN B t.rows.length d];rw[ap] at h;exact h)
 have HW:=Fx b8;clear hT d3 b8 s0 s1 cy b9 fS;generalize cN t [n1]=M at *;go_enter Tryz.func104,Tryz.ntmps104
 go_upto_region 1 with (fail)
 rw[HW.out];have y4:w2.cell? ⟨w.heap.size,4,none⟩=some (FN (some ⟨bc,oc,none⟩) 2 cc):=ca.out.cell 4;have e0:=bq.out.cell_of et.out (by simp);have e1:=bq.out.cell_of fs.out (by simp);have a0:w2.cell? ⟨w.heap.size+1,0,none⟩=some (FN A t.cols.length c):=cg.out.cell 0;have br:w.heap.size<w2.heap.size:=ca.out.lt;have g2:bc<w2.heap.size:=FC _ _ e0;have d4:w.heap.size+1<w2.heap.size:=cg.out.lt;have HF1':=Fx (fun W (q:aa [] w2 W)=>ff.out W (bq.out.trans q));have HF2':=Fx (fun W (q:aa [] w2 W)=>fn.out W (bq.out.trans q));clear ff fn HW et fs;generalize w.heap.size=bx at *;refine ah (by kernel_rfl) (by kernel_rfl) ?_;repeat (go_big_quiet_step (first|with_reducible exact KW.of HF1'.out _|with_reducible exact KW.of HF2'.out _))
 refine wpQuiet_nil ?_;intro wq cn;have dB:=Fx (bq.out.trans cn);have bl:=Fx (ca.out.keep cn (by simp));have bk:=Fx (cg.out.keep cn (by simp));clear cn y4 e0 e1 a0 br g2 d4 HF1' HF2' ca cg bq;have y4:wq.cell? ⟨bx,4,none⟩=some (FN (some ⟨bc,oc,none⟩) 2 cc):=bl.out.cell 4;have a0:wq.cell? ⟨bx+1,0,none⟩=some (FN A t.cols.length c):=bk.out.cell 0;have a1:wq.cell? ⟨bx+1,1,none⟩=some (FN B t.rows.length d):=bk.out.cell 1;have br:bx<wq.heap.size:=bl.out.lt;have d4:bx+1<wq.heap.size:=bk.out.lt;have ht:∀ W,(Instr.slice 44 (FN (some ⟨bc,oc,none⟩) 2 cc) none (some (FR FS 1)) none).run Tryz.prog W= .ok (FN (some ⟨bc,oc,none⟩) 1 cc) W:=qu (some ⟨bc,oc,none⟩) 2 cc 1 (by omega)
 go_upto_region 3 with (fail)
 go_cut [33,34,35] (fun v l j wx=>∃ Ar cr,v=FN Ar M.length cr∧l=FR FS M.length∧j=FR FS 0∧Hid (cM wx [] Ar M)∧Hid (aa [] wq wx))
 case first =>
  go_region_law ((go_simp;go_at_call 100;refine (ev.out _ dB.out.drew).mono ?_;rintro e w3 ⟨⟨v0,rfl,g7⟩,hC⟩;obtain ⟨Ar,cr,rfl,hU,b0⟩:=g7))
  all_goals
   go_wp2;go_meet
   case rel=>exact ⟨Ar,cr,rfl,rfl,rfl,Fx b0,Fx (aa.of_drew hC)⟩
 obtain ⟨Ar,cr,rfl,rfl,rfl,eY,c7⟩:=hcut;obtain ⟨w3,rfl⟩:∃ z:World,z=wc:=⟨_,rfl⟩
 clear y4 a0 a1 br d4 ht ev;have c1:=Fx (bl.out.keep c7.out (by simp));have e6:=Fx (dB.out.trans c7.out);clear bl bk dB c7;go_wp2_with fail
 go_loopw [8,35] (fun u i wx=>∃ (n:Nat) (v:Value),v=u∧n≤M.length∧i=FR FS n∧Hid (tP w3.heap.size wx v (aM op k m (M.take n)))∧Hid (tR n (aM op k m (M.take n)))∧Hid (aa [] w3 wx)) (fun _ i _=>M.length-(intOf i).toNat)
 case atStart=>exact ⟨0,_,rfl,FF _,rfl,Fx (tP.nil _ _),Fx (fun p hp=>by cases hp),Fx (FK _ _)⟩
 obtain ⟨n,v,rfl,hn,rfl,HG,HB,HK⟩:=hrel;obtain ⟨y,rfl⟩:∃ z:World,z=wr:=⟨_,rfl⟩
 by_cases dq:n<M.length
 ·have hP:=d1.out
  obtain ⟨us,hc,f7,f8⟩:=eY.out;have e5:n<us.length:=by omega
  have g5:=f8 n e5 dq;obtain ⟨b7,o7,hl,_,hO,ey⟩:=f7.open' (by omega) (by omega);subst hl;have d7:=ey (n*1) us[n] (by rw[Nat.mul_one];exact FA e5);rw[Nat.mul_one] at d7;have a3:Hid (aM op k m (M.take (n+1))=ip op k m (aM op k m (M.take n)) M[n]):=Fx (by
   rw[List.take_succ_eq_append_getElem dq];unfold aM;rw[List.foldl_append];rfl)
  have b0:=f6.out _ (FE dq);have aA:(aM op k m (M.take n)).length≤100:=by
   have:=tQ op k m (M.take n);rw[FH] at this;omega
  generalize M[n]=x at *;obtain ⟨Ax,cx,hu,hV,el⟩:=g5;rw[hu] at d7;have b9:=g4.out;obtain ⟨bX,oX,rfl,_,ho,bb⟩:=el.open' (by omega) (by omega);have fz:k<x.length:=by omega
  have es:m<x.length:=by omega
  obtain ⟨x0,x1,x2⟩:=ay x k fz;obtain ⟨x3,x4,x5⟩:=ay x m es;have f0:=HK.out.cell_of (bb _ _ x0) (by simp);have f1:=HK.out.cell_of (bb _ _ x1) (by simp);have f2:=HK.out.cell_of (bb _ _ x2) (by simp);have f3:=HK.out.cell_of (bb _ _ x3) (by simp);have f4:=HK.out.cell_of (bb _ _ x4) (by simp);have f5:=HK.out.cell_of (bb _ _ x5) (by simp);rw[←Nat.add_assoc] at f1 f2 f4 f5;have e8:x.getD k zV=x[k]:=by rw[FJ,FA fz];rfl
  have dr:x.getD m zV=x[m]:=by rw[FJ,FA es];rfl
  unfold ip at a3;rw[e8,dr] at a3;rw[dr] at b0;generalize x[k]=vx at *;generalize x[m]=vm at *;obtain ⟨a5,a9,ba⟩:=vx;obtain ⟨b6,U,b1⟩:=vm;have ce:=Fx b0.2;have d8:=HK.out.cell_of d7 (by simp);have hbX':=Nat.lt_of_lt_of_le ho HK.out.size;have gz:(0:Int)≤(k:Int):=by omega
  have g0:(k:Int)<(x.length:Int):=by omega
  have hW:(0:Int)≤(m:Int):=by omega
  have hS:(m:Int)<(x.length:Int):=by omega
  have y5:y.cell? ⟨bx,5,none⟩=some (FM (bs op)):=(c1.out.keep HK.out (by simp)).cell 5;clear d7 ey hc f7 f8 hu el x0 x1 x2 x3 x4 x5 bb e8 dr b9 b0;obtain ⟨GS,av⟩:∃ G,aM op k m (M.take n)=G:=⟨_,rfl⟩
  rw[av] at HG HB a3 aA;clear av;obtain ⟨BR,eb⟩:∃ B,(match GS.getLast? with|none=>true|some z=> !decide (z.1=(⟨a5,a9,ba⟩:Vl)))=B:=⟨_,rfl⟩
  have a7:=Fx eb;have be:∃ A c,v=FN A GS.length c:=by
   obtain ⟨_,_,_,ad,_⟩:=HG.out;obtain ⟨A,c,e,_⟩:=ar ad;exact ⟨A,c,e⟩
  obtain ⟨A8,c8,rfl⟩:=be;obtain ⟨N,hN⟩:∃ N,GS.length=N:=⟨_,rfl⟩
  rw[hN] at HG aA;have HN:=Fx hN;rw[hN];clear eb hN;have d6:IntKind.i64.wrap ((N:Int)-1)=(N:Int)-1:=by simp[IntKind.wrap,IntKind.bits,IntKind.signed];omega
  go_upto_region 8 with (fail)
  clear d8;go_cut [61] from 39 to 108 (fun b wx=>b= .bool BR∧Hid (aa [] y wx))
  case first =>
   rcases List.eq_nil_or_concat GS with h0|⟨D,z,h0⟩
   ·have hw:BR=true:=by rw[←a7.out,h0];rfl
    have hL:(N:Int)-1<0:=by have:=HN.out;rw[h0] at this;simp at this;omega
    clear HG HB a7 a3 h0 y5 HN d6;generalize (N:Int)-1=N1 at *;refine ah (by kernel_rfl) (by kernel_rfl) ?_;repeat (go_big_quiet_step (fail))
    refine wpQuiet_nil ?_;intro w5 a8;go_wp2;go_meet;exact ⟨by rw[hw],Fx a8⟩
   rw[List.concat_eq_append] at h0;subst h0;obtain ⟨gv,cap,gl,hv,hh,b5,I,J,_⟩:=HG.out.last;have dz:N=D.length+1:=by rw[←HN.out];simp
   injection hv with dt d5 ds;clear d5;subst dt ds;obtain ⟨⟨zk,zn,zw⟩,zs⟩:=z;have z0:y.cell? ⟨gl,0,none⟩=some (FR FS zk):=J.cell 0;have z1:y.cell? ⟨gl,1,none⟩=some (FR FS zn):=J.cell 1;have z2:y.cell? ⟨gl,2,none⟩=some (FM (bs zw)):=J.cell 2;have eA:gl<y.heap.size:=J.lt;have hcell':y.cell? ⟨gv,D.length,none⟩=some (FN (some ⟨gl,0,none⟩) 2 2):=I;have d2:(N:Int)-1=(D.length:Int):=by omega
   have c5:=Dj ⟨zk,zn,zw⟩ ⟨a5,a9,ba⟩;have eB:(!decide ((⟨zk,zn,zw⟩:Vl)=⟨a5,a9,ba⟩))=BR:=by
    rw[←a7.out,List.getLast?_concat]
   rw[eB] at c5;simp only at c5;have g6:(0:Int)≤(D.length:Int):=by omega
   have hB:(D.length:Int)<(N:Int):=by omega
   have hY:((D.length:Int)<0)=False:=eq_false (by omega);clear HG HB a7 a3 y5 HN d6 dz J I eB;generalize (N:Int)-1=q at *;subst d2;generalize D.length=L at *;refine ah (by kernel_rfl) (by kernel_rfl) ?_;repeat (go_big_quiet_step (fail))
   refine wpQuiet_nil ?_;intro w5 a8;go_wp2;go_meet;exact ⟨rfl,Fx a8⟩
  obtain ⟨rfl,O⟩:=hcut;obtain ⟨u,rfl⟩:∃ z:World,z=wc:=⟨_,rfl⟩
  have f0:=O.out.cell_of f0 (by simp);have f1:=O.out.cell_of f1 (by simp);have f2:=O.out.cell_of f2 (by simp);have f3:=O.out.cell_of f3 (by simp);have f4:=O.out.cell_of f4 (by simp);have f5:=O.out.cell_of f5 (by simp);have hK:=Nat.lt_of_lt_of_le hbX' O.out.size;have gm:=O.out.cell_of y5 (by simp);have c9:=Fx (HG.out.keep O.out);have ch:=Fx (HK.out.trans O.out);clear HG HK O y5 hbX'
  cases bj:BR with
  | true =>
   have Z:Hid (aM op k m (M.take (n+1))=GS++[((⟨a5,a9,ba⟩:Vl),(⟨b6,U,b1⟩:Vl))]):=Fx (by
    have h1:=a3.out;have h2:=a7.out;rw[bj] at h2
    cases aA:GS.getLast? with
    | none=>rw[aA] at h1;exact h1
    | some z =>
     rw[aA] at h1 h2;simp only at h1 h2;rw[if_neg (by simpa using h2)] at h1;exact h1)
   have hA:Hid (tR (n+1) (aM op k m (M.take (n+1)))):=Fx (by
    rw[Z.out];have:=ce.out;exact HB.out.add (by simp only at this ⊢;omega))
   subst bj;have d9:=Fx (show N+1≤maxLen∧(N+1)*24≤140737488355328 by simp only[maxLen];omega);obtain ⟨Gl,b4,cq,ad,b3⟩:=c9.out;have HO:Hid (u.ownsRow w3.heap.size 89 1 (FN A8 N c8) N (Gl.map gV)):=Fx (by rw[←HN.out] at ad ⊢;exact ad);have he:=Fx b4;have hE:=Fx cq;have hy:=Fx b3;have cz:=Fx ch.out.size;clear b4 cq ad b3 HB a3 a7 gm ce;have gk:∀ A B,((u.alloc A).alloc B).heap[u.heap.size+1]? = some B:=fun A B=>by
    have h:=heap_alloc_new (u.alloc A) B;rwa [ap] at h
   go_upto_region 9 with (fail)
   go_region_law ((refine step_append_lies _ (by rfl) _ _ _ (by rfl) w3.heap.size 89 ir _ 1 24 Tryz.underlying52 hI en e4 eX rfl (by decide) (FN A8 N c8) N (Gl.map gV) (by rfl) (((HO.out.alloc _).alloc _)) ⟨u.heap.size+1,0,none⟩ 1 1 [FN (some ⟨u.heap.size,0,none⟩) 2 2] (by rfl) rfl (FI (gk _ _)) (by simp[Value.oneCell']) (by decide) d9.out.1 d9.out.2 (by have:=cz.out;simp;omega) _ rfl ?_;intro gw cv w8 bZ a4 fr er))
   all_goals
    have hJ:=Fx (((ch.out.alloc (FQ (jD ((⟨a5,a9,ba⟩:Vl),(⟨b6,U,b1⟩:Vl))) 46)).alloc (FQ #[FN (some ⟨u.heap.size,0,none⟩) 2 2] 89)).drew.grown a4 (fun g hg=> .inr (HO.out.lt g hg).1));have g1:Hid (tP w3.heap.size w8 (FN (some ⟨gw,0,none⟩) (N+1) cv) (aM op k m (M.take (n+1)))):=Fx (by
     rw[Z.out];have h:=tP.snoc (base:=w3.heap.size) (y:=u) (W:=w8) (v:=FN A8 N c8) (gs:=GS) (p:=((⟨a5,a9,ba⟩:Vl),(⟨b6,U,b1⟩:Vl))) (G:=Gl) (bn:=u.heap.size) (gw:=gw) (cap:=cv) he.out hE.out hy.out (by rw[HN.out];exact ((HO.out.alloc (FQ (jD ((⟨a5,a9,ba⟩:Vl),(⟨b6,U,b1⟩:Vl))) 46)).alloc (FQ #[FN (some ⟨u.heap.size,0,none⟩) 2 2] 89)).drew) (((FK [] u).alloc _).alloc _).drew (Fy _) cz.out ((FL _ _ _).alloc _).drew a4 (by rw[HN.out];exact bZ);rw[HN.out] at h;exact h)
    clear bZ a4 fr er;go_wp2;go_roundw
    case rel=>exact ⟨n+1,_,rfl,by omega,by go_num,g1,hA,hJ⟩
    case measure=>simp[intOf];omega
  | false =>
   have d0:∃ D z,GS=D++[z]∧z.1=(⟨a5,a9,ba⟩:Vl):=by
    have h2:=a7.out;rw[bj] at h2
    cases aA:GS.getLast? with
    | none=>rw[aA] at h2;cases h2
    | some z =>
     rw[aA] at h2;obtain ⟨ys,hs⟩:=List.getLast?_eq_some_iff.1 aA;exact ⟨ys,z,hs,by simpa using h2⟩
   obtain ⟨D,z,av,br⟩:=d0;subst bj;have Z:Hid (aM op k m (M.take (n+1))=D++[(z.1,q9 op z.2 (⟨b6,U,b1⟩:Vl))]):=Fx (by
    have h1:=a3.out;rw[av,List.getLast?_concat] at h1;simp only at h1;rw[if_pos br,List.dropLast_concat] at h1;exact h1)
   subst av;obtain ⟨gv,cap,gl,hv,hh,b5,I,J,c3⟩:=c9.out.last;have dz:N=D.length+1:=by rw[←HN.out];simp
   injection hv with dt d5 ds;clear d5;subst dt ds;obtain ⟨z1,⟨zk,zn,zw⟩⟩:=z;have e9:=HB.out (z1,⟨zk,zn,zw⟩) (by simp);have fc:=ce.out;simp only at e9 fc;have g3:n≤100:=by omega
   have dv:Hid (tR n D):=Fx fun p hp=>HB.out p (by simp[hp])
   have z4:u.cell? ⟨gl,4,none⟩=some (FR FS zn):=J.cell 4;have z5:u.frozen? ⟨gl,4,none⟩=false:=J.frozen 4;have eA:gl<u.heap.size:=J.lt;have hcell':u.cell? ⟨gv,D.length,none⟩=some (FN (some ⟨gl,0,none⟩) 2 2):=I;have d2:(N:Int)-1=(D.length:Int):=by omega
   have g6:(0:Int)≤(D.length:Int):=by omega
   have hB:(D.length:Int)<(N:Int):=by omega
   have c4:=Fx c3;have hX:IntKind.i64.wrap (zn+U)=zn+U:=by simp[IntKind.wrap,IntKind.bits,IntKind.signed];omega
   have hG:Hid (tR (n+1) (D++[(z1,(⟨zk,zn+U,zw⟩:Vl))])):=Fx (dv.out.add (by simp only;omega));have hx:Hid (tR (n+1) (D++[(z1,(⟨zk,max zn U,zw⟩:Vl))])):=Fx (dv.out.add (by simp only;omega));clear c9 HB a7 a3 HN d6 dz J I c3 br e9 fc ce dv;generalize (N:Int)-1=q at *;subst d2;by_cases bo:op=sy
   ·have a6:Hid (aM op k m (M.take (n+1))=D++[(z1,(⟨zk,zn+U,zw⟩:Vl))]):=Fx (by
     rw[Z.out];unfold q9;rw[if_pos bo])
    have t1:(op==[115,117,109])=true:=by rw[bo];rfl
    clear Z bo;go_upto_region 11 with (fail)
    generalize D.length=L at *;refine wp_region_still_tail 15 (by kernel_rfl) (by kernel_rfl) ?_;simp only[List.take_succ_cons,List.take_zero,List.drop_succ_cons,List.drop_zero];repeat still_step
    refine wpStill_nil ?_;go_wp2;go_roundw
    case rel=>exact ⟨n+1,_,rfl,by omega,by go_num,Fx (by rw[a6.out];exact c4.out _),Fx (by rw[a6.out];exact hG.out),Fx (ch.out.drew.setCell (.inr b5) _)⟩
    case measure=>simp[intOf];omega
   have a6:Hid (aM op k m (M.take (n+1))=D++[(z1,(⟨zk,max zn U,zw⟩:Vl))]):=Fx (by
    rw[Z.out];unfold q9;rw[if_neg bo])
   have t1:(op==[115,117,109])=false:=by simpa[sy] using bo
   clear Z bo;go_upto_region 7 with (fail)
   generalize D.length=L at *;refine wp_region_still_tail 19 (by kernel_rfl) (by kernel_rfl) ?_;simp only[List.take_succ_cons,List.take_zero,List.drop_succ_cons,List.drop_zero];repeat still_step
   refine wpStill_nil ?_;go_wp2;go_roundw
   case rel=>exact ⟨n+1,_,rfl,by omega,by go_num,Fx (by rw[a6.out];exact c4.out _),Fx (by rw[a6.out];exact hx.out),Fx (ch.out.drew.setCell (.inr b5) _)⟩
   case measure=>simp[intOf];omega
 obtain rfl:n=M.length:=by omega
 have bz:Hid (tP w3.heap.size y v (aM op k m M)):=Fx (by have h:=HG.out;rw[List.take_length] at h;exact h);have c0:(aM op k m M).length≤100:=FD (tQ op k m M) d1.out;have f9:=Fx (e6.out.trans HK.out);clear HG HB HK e6 eY f6 d1 c1;obtain ⟨GS,av⟩:∃ G,aM op k m M=G:=⟨_,rfl⟩
 rw[av] at bz c0;have fb:=Fx av;clear av;have be:∃ A c,v=FN A GS.length c:=by
  obtain ⟨_,_,_,ad,_⟩:=bz.out;obtain ⟨A,c,e,_⟩:=ar ad;exact ⟨A,c,e⟩
 obtain ⟨A8,c8,rfl⟩:=be;obtain ⟨N,hN⟩:∃ N,GS.length=N:=⟨_,rfl⟩
 rw[hN] at bz c0;have HN:=Fx hN;rw[hN];clear hN;go_wp2_with fail
 go_loopw [111] (fun i wx=>∃ q:Nat,q≤N∧i=FR FS q∧Hid (∀ j (h:j<q) (h':j<GS.length),eS GS[j].2=true)∧Hid (aa [] y wx)) (fun i _=>N-(intOf i).toNat)
 case atStart=>exact ⟨0,FF _,rfl,Fx (fun j h=>absurd h (by omega)),Fx (FK _ _)⟩
 obtain ⟨q,hq,rfl,HV,bv⟩:=hrel;obtain ⟨u,rfl⟩:∃ z:World,z=wr:=⟨_,rfl⟩
 by_cases hF:q<N
 ·have c6:q<GS.length:=by rw[HN.out];exact hF
  obtain ⟨Gl,b4,cq,ad,b3⟩:=(bz.out.keep bv.out);have e7:q<Gl.length:=by rw[b4];exact c6
  obtain ⟨_,J⟩:=b3 q e7 c6;obtain ⟨A',c',e',ez⟩:=ar ad;injection e' with e1 e2 e3;clear e2;subst e1 e3;obtain ⟨g8,rfl,hR,I⟩:=ez (by omega);have d8:u.cell? ⟨g8,q,none⟩=some (FN (some ⟨Gl[q],0,none⟩) 2 2):=I q _ (by rw[List.getElem?_map,FA e7];rfl);have ct:Hid (eS GS[q].2=true→∀ j (h:j<q+1) (h':j<GS.length),eS GS[j].2=true):=Fx fun h j hj hj'=>by
   by_cases hH:j<q
   ·exact HV.out j hH hj'
   obtain rfl:j=q:=by omega
   exact h
  have cd:Hid (eS GS[q].2=false→pV GS=none):=Fx fun h=>by
   unfold pV;rw[if_pos (List.any_eq_true.2 ⟨GS[q],FE c6,by rw[h];rfl⟩)]
  generalize Gl[q]=gq at *;generalize GS[q]=pq at *;obtain ⟨p1,⟨pk,pn,pw⟩⟩:=pq;have z3:u.cell? ⟨gq,3,none⟩=some (FR FS pk):=J.cell 3;have z4:u.cell? ⟨gq,4,none⟩=some (FR FS pn):=J.cell 4;have z5:u.cell? ⟨gq,5,none⟩=some (FM (bs pw)):=J.cell 5;have hQ:gq<u.heap.size:=J.lt;have cm:Hid (Calls Tryz.prog 28 #[.agg #[FR FS pk,FR FS pn,FM (bs pw)]] u fun e w'=>e=FP (.bool (eS ⟨pk,pn,pw⟩))∧aa [] u w'):=Fx (cB ⟨pk,pn,pw⟩ u);have gz:(0:Int)≤(q:Int):=by omega
  have g0:(q:Int)<(N:Int):=by omega
  simp only at ct cd;clear b4 cq ad b3 J ez I HV
  cases bm:eS (⟨pk,pn,pw⟩:Vl) with
  | true =>
   rw[bm] at cm;have ha:=Fx (ct.out bm);clear ct cd bm;go_wp2_with fail
   refine cm.out.mono ?_;rintro e w5 ⟨rfl,a8⟩;have gi:=Fx (bv.out.trans a8);clear a8;go_wp2;go_roundw
   case rel=>exact ⟨q+1,by omega,by go_num,ha,gi⟩
   case measure=>simp[intOf];omega
  | false =>
   rw[bm] at cm;have HF:=Fx (cd.out bm);clear ct cd bm;go_wp2_with fail
   refine cm.out.mono ?_;rintro e w5 ⟨rfl,a8⟩;go_wp2;go_ret2;exact ⟨by rw[fb.out,HF.out];rfl,(f9.out.trans bv.out).trans a8⟩
 obtain rfl:q=N:=by omega
 have HF:Hid (pV GS=some (dO GS)):=Fx (by
  unfold pV;rw[if_neg];intro h;obtain ⟨p,hp,hf⟩:=List.any_eq_true.1 h;obtain ⟨i,hi,rfl⟩:=List.getElem_of_mem hp;rw[HV.out i (by rw[←HN.out];exact hi) hi] at hf;cases hf)
 have hD:=Fx (bz.out.keep bv.out).rows;have hb:=Fx (f9.out.trans bv.out);go_wp2;go_ret2;exact ⟨by rw[fb.out,HF.out];exact ⟨_,rfl,eq hD.out _⟩,hb.out.alloc _⟩
end
section
open Go.RowKit Go.BigFrame
attribute [local go_sem] ag ab ae af
theorem Ee (t:Tb) (cols:List Bs) (J:Option Addr) (OA:Option Addr) (no od:Nat) (b o:Nat) (nt ct:Nat) (A B:Option Addr) (c d:Nat) (D h U ln rk Z:Int) (outs:List Bs) (op lc lw rc I:Bs) (M:Option Addr) (co:Nat) (N:Option Addr) (ni O:Nat) (cc:Nat) (w:World)
  (a8:w.cell? ⟨b,o,none⟩=some (FN A t.cols.length c)) (bc:w.cell? ⟨b,o+1,none⟩=some (FN B t.rows.length d)) (hT:aZ w t A B c d) (a9:1≤nt) (a2:Rd w [] 1 J cols.length (strs cols)) (a5:cols.length≤4294967296) (av:∀ n∈cols,∃ k,an t.cols n=some k) (a1:∀ r∈t.rows,r.length=t.cols.length) (hn:t.rows.length≤1000000) :
  Calls Tryz.prog 64 #[.agg #[FR FS D,FR FS 4,FN M outs.length co,FN N ni O,FN J cols.length cc,FM (bs op),FM (bs lc),FR FS U,FR FS ln,FM (bs lw),FM (bs rc),FR FS rk,FR FS Z,FM (bs I),FR FS h],FN (some ⟨b,o,none⟩) nt ct,FN OA no od] w fun e w'=>dC (.ok [cN t cols]) e w'∧aa [] w w':=by
 have bb:(0:Int)<(nt:Int):=by omega
 have ba:b<w.heap.size:=FC _ _ a8;have ad:Hid (aa [] w ((w.alloc (FQ #[FR FS D,FR FS 4,FN M outs.length co,FN N ni O,FN J cols.length cc,FM (bs op),FM (bs lc),FR FS U,FR FS ln,FM (bs lw),FM (bs rc),FR FS rk,FR FS Z,FM (bs I),FR FS h] 50)).alloc (FQ #[FN A t.cols.length c,FN B t.rows.length d] 54))):=Fx (((FK _ _).alloc _).alloc _);have a7:=Fx (ao.alloc (FL w 50 #[FR FS D,FR FS 4,FN M outs.length co,FN N ni O,FN J cols.length cc,FM (bs op),FM (bs lc),FR FS U,FR FS ln,FM (bs lw),FM (bs rc),FR FS rk,FR FS Z,FM (bs I),FR FS h]) (FQ #[FN A t.cols.length c,FN B t.rows.length d] 54));have a0:=Fx (FL (w.alloc (FQ #[FR FS D,FR FS 4,FN M outs.length co,FN N ni O,FN J cols.length cc,FM (bs op),FM (bs lc),FR FS U,FR FS ln,FM (bs lw),FM (bs rc),FR FS rk,FR FS Z,FM (bs I),FR FS h] 50)) 54 #[FN A t.cols.length c,FN B t.rows.length d]);rw[ap] at a0;have a3:Hid (∀ W,aa [] w W→Calls Tryz.prog 100 #[.agg #[FR FS D,FR FS 4,FN M outs.length co,FN N ni O,FN J cols.length cc,FM (bs op),FM (bs lc),FR FS U,FR FS ln,FM (bs lw),FM (bs rc),FR FS rk,FR FS Z,FM (bs I),FR FS h],.agg #[FN A t.cols.length c,FN B t.rows.length d]] W fun e w'=>(∃ v,e=FP v∧cF w' v (cN t cols))∧aa [] W w'):=Fx fun W q =>
  pa (⟨D,4,outs,[],cols,op,⟨lc,⟨U,ln,lw⟩⟩,⟨rc,⟨rk,Z,I⟩⟩,h⟩:Jb) t M co N ni O J cc A B c d W (hT.quiet q) (a2.keep q) a5 av a1 hn outs.length
 generalize cN t cols=DG at *;clear hT a2 av a1;go_enter Tryz.func64,Tryz.ntmps64
 go_wp2_with fail
 refine (a3.out _ ad.out).mono ?_;rintro e w5 ⟨⟨v,rfl,hv⟩,aA⟩;have HV:=Fx hv;have a4:=Fx (ad.out.trans aA);obtain ⟨A3,c3,a6,_,_⟩:=HV.out;subst a6;clear hv aA a7 a0;go_wp2;go_ret2;exact ⟨⟨_,1,rfl,Fy _,eq HV.out _⟩,a4.out.alloc _⟩
theorem Ef (t:Tb) (n1 n2:Bs) (k m:Nat) (hk:an t.cols n1=some k) (hm:an t.cols n2=some m) (M J:Nat) (OA:Option Addr) (no od:Nat) (b o:Nat) (nt ct:Nat) (A B:Option Addr) (c d:Nat) (D h lk ln rk rn:Int) (outs:List Bs) (op lc lw rc I:Bs) (U:Option Addr) (co:Nat) (Z:Option Addr) (ni ci:Nat) (cc:Nat) (w:World)
  (a2:w.cell? ⟨b,o,none⟩=some (FN A t.cols.length c)) (a7:w.cell? ⟨b,o+1,none⟩=some (FN B t.rows.length d)) (hT:aZ w t A B c d) (a3:1≤nt) (a0:2≤cc) (s0:w.cell? ⟨M,J,none⟩=some (FM (bs n1))) (s1:w.cell? ⟨M,J+1,none⟩=some (FM (bs n2))) (aA:∀ r∈t.rows,r.length=t.cols.length) (ad:∀ r∈t.rows,-1000000000≤(r.getD m zV).num∧(r.getD m zV).num≤1000000000) (hn:t.rows.length≤100) :
  Calls Tryz.prog 64 #[.agg #[FR FS D,FR FS 8,FN U outs.length co,FN Z ni ci,FN (some ⟨M,J,none⟩) 2 cc,FM (bs op),FM (bs lc),FR FS lk,FR FS ln,FM (bs lw),FM (bs rc),FR FS rk,FR FS rn,FM (bs I),FR FS h],FN (some ⟨b,o,none⟩) nt ct,FN OA no od] w fun e w'=>dC (AR (pV (aM op k m (cN t [n1])))) e w'∧aa [] w w':=by
 have a6:(0:Int)<(nt:Int):=by omega
 have a5:b<w.heap.size:=FC _ _ a2;have N:Hid (aa [] w ((w.alloc (FQ #[FR FS D,FR FS 8,FN U outs.length co,FN Z ni ci,FN (some ⟨M,J,none⟩) 2 cc,FM (bs op),FM (bs lc),FR FS lk,FR FS ln,FM (bs lw),FM (bs rc),FR FS rk,FR FS rn,FM (bs I),FR FS h] 50)).alloc (FQ #[FN A t.cols.length c,FN B t.rows.length d] 54))):=Fx (((FK _ _).alloc _).alloc _);have a4:=Fx (ao.alloc (FL w 50 #[FR FS D,FR FS 8,FN U outs.length co,FN Z ni ci,FN (some ⟨M,J,none⟩) 2 cc,FM (bs op),FM (bs lc),FR FS lk,FR FS ln,FM (bs lw),FM (bs rc),FR FS rk,FR FS rn,FM (bs I),FR FS h]) (FQ #[FN A t.cols.length c,FN B t.rows.length d] 54));have a1:=Fx (FL (w.alloc (FQ #[FR FS D,FR FS 8,FN U outs.length co,FN Z ni ci,FN (some ⟨M,J,none⟩) 2 cc,FM (bs op),FM (bs lc),FR FS lk,FR FS ln,FM (bs lw),FM (bs rc),FR FS rk,FR FS rn,FM (bs I),FR FS h] 50)) 54 #[FN A t.cols.length c,FN B t.rows.length d]);rw[ap] at a1;have O:Hid (∀ W,aa [] w W→Calls Tryz.prog 104 #[.agg #[FR FS D,FR FS 8,FN U outs.length co,FN Z ni ci,FN (some ⟨M,J,none⟩) 2 cc,FM (bs op),FM (bs lc),FR FS lk,FR FS ln,FM (bs lw),FM (bs rc),FR FS rk,FR FS rn,FM (bs I),FR FS h],.agg #[FN A t.cols.length c,FN B t.rows.length d]] W fun e w'=>jC (pV (aM op k m (cN t [n1]))) e w'∧aa [] W w'):=Fx fun W q =>
  vI t n1 n2 k m hk hm D 8 h lk ln rk rn outs.length op lc lw rc I U co Z ni ci M J cc a0 A B c d W (q.cell_of s0 (by simp)) (q.cell_of s1 (by simp)) (hT.quiet q) aA ad hn
 generalize pV (aM op k m (cN t [n1]))=R at *;clear hT s0 s1 aA ad
 cases R with
 | none =>
  have HC:Hid (∀ W,aa [] w W→Calls Tryz.prog 104 #[.agg #[FR FS D,FR FS 8,FN U outs.length co,FN Z ni ci,FN (some ⟨M,J,none⟩) 2 cc,FM (bs op),FM (bs lc),FR FS lk,FR FS ln,FM (bs lw),FM (bs rc),FR FS rk,FR FS rn,FM (bs I),FR FS h],.agg #[FN A t.cols.length c,FN B t.rows.length d]] W fun e w'=>e=FP (.tuple #[FN none 0 0,.iface 37 (FR FS 2)])∧aa [] W w'):=O;clear O;go_enter Tryz.func64,Tryz.ntmps64
  go_wp2_with fail
  refine (HC.out _ N.out).mono ?_;rintro e w5 ⟨rfl,av⟩;go_wp2;go_ret2;exact ⟨rfl,N.out.trans av⟩
 | some l =>
  have HC:Hid (∀ W,aa [] w W→Calls Tryz.prog 104 #[.agg #[FR FS D,FR FS 8,FN U outs.length co,FN Z ni ci,FN (some ⟨M,J,none⟩) 2 cc,FM (bs op),FM (bs lc),FR FS lk,FR FS ln,FM (bs lw),FM (bs rc),FR FS rk,FR FS rn,FM (bs I),FR FS h],.agg #[FN A t.cols.length c,FN B t.rows.length d]] W fun e w'=>(∃ g,e=FP (.tuple #[FN (some ⟨g,0,none⟩) 1 1,.nilIface])∧fp w' (some ⟨g,0,none⟩) [l])∧aa [] W w'):=O;clear O;go_enter Tryz.func64,Tryz.ntmps64
  go_wp2_with fail
  refine (HC.out _ N.out).mono ?_;rintro e w5 ⟨⟨g,rfl,hr⟩,av⟩;go_wp2;go_ret2;exact ⟨⟨_,1,rfl,Fy _,hr⟩,N.out.trans av⟩
theorem Eg (t:Tb) (u:Tb) (n1 n2:Bs) (k m:Nat) (hk:an t.cols n1=some k) (hm:an u.cols n2=some m) (A2 B2:Option Addr) (c2 d2:Nat) (U O:Nat) (OA:Option Addr) (no od:Nat) (b o:Nat) (nt ct:Nat) (A B:Option Addr) (c d:Nat) (D h lk ln rk rn:Int) (outs:List Bs) (op lc lw rc I:Bs) (Z:Option Addr) (co:Nat) (Ai:Option Addr) (ni ci:Nat) (cc:Nat) (w:World)
  (aA:w.cell? ⟨b,o,none⟩=some (FN A t.cols.length c)) (a7:w.cell? ⟨b,o+1,none⟩=some (FN B t.rows.length d)) (hT:aZ w t A B c d) (br:2≤nt) (s0:w.cell? ⟨U,O,none⟩=some (FM (bs n1))) (s1:w.cell? ⟨U,O+1,none⟩=some (FM (bs n2))) (ad:w.cell? ⟨b,o+1*2,none⟩=some (FN A2 u.cols.length c2)) (a0:w.cell? ⟨b,o+1*2+1,none⟩=some (FN B2 u.rows.length d2)) (hU:aZ w u A2 B2 c2 d2) (a1:∀ r∈t.rows,r.length=t.cols.length) (av:∀ r∈u.rows,r.length=u.cols.length) (a9:t.cols.length≤100) (a6:u.cols.length≤100) (hn:t.rows.length≤100) (a5:u.rows.length≤100) :
  Calls Tryz.prog 64 #[.agg #[FR FS D,FR FS 7,FN Z outs.length co,FN Ai ni ci,FN (some ⟨U,O,none⟩) 2 cc,FM (bs op),FM (bs lc),FR FS lk,FR FS ln,FM (bs lw),FM (bs rc),FR FS rk,FR FS rn,FM (bs I),FR FS h],FN (some ⟨b,o,none⟩) nt ct,FN OA no od] w fun e w'=>dC (.ok [bO k m t.rows u.rows]) e w'∧aa [] w w':=by
 have bm:(0:Int)<(nt:Int):=by omega
 have bX:(1:Int)<(nt:Int):=by omega
 have a4:b<w.heap.size:=FC _ _ aA;have M:Hid (aa [] w ((w.alloc (FQ #[FR FS D,FR FS 7,FN Z outs.length co,FN Ai ni ci,FN (some ⟨U,O,none⟩) 2 cc,FM (bs op),FM (bs lc),FR FS lk,FR FS ln,FM (bs lw),FM (bs rc),FR FS rk,FR FS rn,FM (bs I),FR FS h] 50)).alloc (FQ #[FN A t.cols.length c,FN B t.rows.length d] 54))):=Fx (((FK _ _).alloc _).alloc _);have N:=Fx (ao.alloc (FL w 50 #[FR FS D,FR FS 7,FN Z outs.length co,FN Ai ni ci,FN (some ⟨U,O,none⟩) 2 cc,FM (bs op),FM (bs lc),FR FS lk,FR FS ln,FM (bs lw),FM (bs rc),FR FS rk,FR FS rn,FM (bs I),FR FS h]) (FQ #[FN A t.cols.length c,FN B t.rows.length d] 54));have J:=Fx (FL (w.alloc (FQ #[FR FS D,FR FS 7,FN Z outs.length co,FN Ai ni ci,FN (some ⟨U,O,none⟩) 2 cc,FM (bs op),FM (bs lc),FR FS lk,FR FS ln,FM (bs lw),FM (bs rc),FR FS rk,FR FS rn,FM (bs I),FR FS h] 50)) 54 #[FN A t.cols.length c,FN B t.rows.length d]);rw[ap] at J;have a8:Hid (∀ W,aa [] w W→Calls Tryz.prog 103 #[.agg #[FR FS D,FR FS 7,FN Z outs.length co,FN Ai ni ci,FN (some ⟨U,O,none⟩) 2 cc,FM (bs op),FM (bs lc),FR FS lk,FR FS ln,FM (bs lw),FM (bs rc),FR FS rk,FR FS rn,FM (bs I),FR FS h],.agg #[FN A t.cols.length c,FN B t.rows.length d],.agg #[FN A2 u.cols.length c2,FN B2 u.rows.length d2]] W fun e w'=>(∃ v,e=FP v∧cF w' v (bO k m t.rows u.rows))∧aa [] W w'):=Fx fun W q =>
  yH t u n1 n2 k m hk hm D 7 h lk ln rk rn outs.length op lc lw rc I Z co Ai ni ci U O cc A B c d A2 B2 c2 d2 W (q.cell_of s0 (by simp)) (q.cell_of s1 (by simp)) (hT.quiet q) (hU.quiet q) a1 av a9 a6 hn a5
 generalize bO k m t.rows u.rows=DG at *;clear hT hU s0 s1 a1 av;go_enter Tryz.func64,Tryz.ntmps64
 go_upto_region 37 with (fail)
 obtain ⟨w2,a3⟩:∃ w2,((w.alloc (FQ #[FR FS D,FR FS 7,FN Z outs.length co,FN Ai ni ci,FN (some ⟨U,O,none⟩) 2 cc,FM (bs op),FM (bs lc),FR FS lk,FR FS ln,FM (bs lw),FM (bs rc),FR FS rk,FR FS rn,FM (bs I),FR FS h] 50)).alloc (FQ #[FN A t.cols.length c,FN B t.rows.length d] 54))=w2:=⟨_,rfl⟩
 rw[a3] at M N J ⊢;obtain ⟨bx,a2⟩:∃ bx,w.heap.size=bx:=⟨_,rfl⟩
 rw[a2] at N J ⊢;clear a3 a2 aA a7;obtain ⟨x0,x1,x2,x3,x4,x5,x6,x7,x8,x9,be,bl,bz,bo,bj⟩:=oN N.out;have bq:bx<w2.heap.size:=N.out.lt;have t0:w2.cell? ⟨bx+1,0,none⟩=some (FN A t.cols.length c):=J.out.cell 0;have t1:w2.cell? ⟨bx+1,1,none⟩=some (FN B t.rows.length d):=J.out.cell 1;have bv:bx+1<w2.heap.size:=J.out.lt;have e2:=M.out.cell_of ad (by simp);have e3:=M.out.cell_of a0 (by simp);have bk:b<w2.heap.size:=Nat.lt_of_lt_of_le a4 M.out.size;clear ad a0;go_cut [6,7] (fun v q wx=>∃ g,v=FN (some ⟨g,0,none⟩) 1 1∧q= .nilIface∧Hid (fp wx (some ⟨g,0,none⟩) [DG])∧Hid (aa [] w wx))
 case first =>
  go_region_law ((go_simp;go_at_call 103;refine (a8.out _ M.out.drew).mono ?_;rintro e w5 ⟨⟨v,rfl,hv⟩,bb⟩;have HV:=Fx hv;obtain ⟨A3,c3,ba,_,_⟩:=hv;subst ba))
  all_goals
   go_wp2;go_meet
   case rel=>exact ⟨_,rfl,rfl,Fx (eq HV.out _),Fx ((M.out.drew.trans bb).alloc _)⟩
 obtain ⟨g,rfl,rfl,HR,HK⟩:=hcut;go_wp2;go_ret2;exact ⟨⟨_,1,rfl,Fy _,HR.out⟩,HK.out⟩
end
end Go.Proofs.YtecpeogejjibaaaGreatDoor
