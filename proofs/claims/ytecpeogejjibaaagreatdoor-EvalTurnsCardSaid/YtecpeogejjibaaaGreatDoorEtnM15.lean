/- ops.made: Distinct, Union. ops.pairs. ops.changed. ops.groups. ops.made: Set. ops.made: Sort, Join, Group. ops.made: Project. ops.Do and one at Set, Project, Union, Distinct. ops.Do at every job; one at every job of one output. -/
import Derived.Test.YtecpeogejjibaaaGreatDoorEtnM12
import Derived.Test.YtecpeogejjibaaaGreatDoorEtnM13
import Derived.Test.YtecpeogejjibaaaGreatDoorEtnM2
import Derived.Test.YtecpeogejjibaaaGreatDoorEtnM10
import Derived.Test.YtecpeogejjibaaaGreatDoorEtnM4
import Derived.Test.YtecpeogejjibaaaGreatDoorEtnM3
import Derived.Test.YtecpeogejjibaaaGreatDoorEtnM8
import Derived.StillTailTactics
import Derived.Lib.MinMax
import Derived.Deep.CutRange
set_option linter.unusedSimpArgs false
set_option linter.unusedVariables false
set_option maxRecDepth 100000
set_option maxHeartbeats 16000000
namespace Go.Proofs.YtecpeogejjibaaaGreatDoor
open Go.Lib renaming hid → Fk
open _root_.Nat renaming le_refl → Fm, le_trans → Ft, zero_le → Fu
open _root_.List renaming length_append → Fo, getElem?_eq_getElem → Fp, getElem_mem → Fs, length_cons → Fv, length_take → Fw, getD_eq_getElem?_getD → Fy
open Go.World renaming block_lt_of_cell? → Fq, news_of_block → Fx
open aa renaming refl → Fz
open ao renaming new → FA
open Go.Value renaming string → FC, slice → FD, int → FH
open Go.Ending renaming returned → FF
open Go.Obj renaming cells → FG
open Go.IntKind renaming i64 → FI
section
open Go.RowKit Go.BigFrame
attribute [local go_sem] ag ab ae af
attribute [local go_sem] KW.cell
theorem yH {cs:List Cl} {r:List Vl} (h:ft cs r=true):∀ v∈r,eO v=true:=fun v I=>by
 unfold ft at h;simp only[Bool.and_eq_true,decide_eq_true_eq,List.all_eq_true] at h;obtain ⟨k,H,rfl⟩:=List.getElem_of_mem I;have D:=h.2 k (List.mem_range.2 H);unfold ke at D;rw[Fp H,Fp (by omega)] at D;simp only[Bool.and_eq_true] at D;exact D.2
theorem qK (c:UInt8) (M:Nat):∀ l:List Bs,(∀ x∈l,x.length≤M)→(cQ c l).length≤(M+1)*l.length
 | [],_=>by simp[cQ]
 | [x],h=>by have:=h x (by simp);simp[cQ];omega
 | x::y::l,h=>by
  have ih:=qK c M (y::l) (fun z D=>h z (by simp[D]));have H:=h x (by simp);show (x++c::cQ c (y::l)).length≤_;simp only[Fo,Fv] at ih ⊢;rw[Nat.mul_succ];omega
theorem yI {t:Tb} (h:ak t=true):∀ r∈t.rows,1≤r.length∧r.length≤4294967296∧(∀ v∈r,dX v.num∧v.word.length≤1000000000)∧(bM r).length≤1000000000:=fun r N=>by
 obtain ⟨J,U,M⟩:=aF.1 h;have D:=M r N;have H:=yH D;have V:r.length=t.cols.length:=by
  unfold ft at D;simp only[Bool.and_eq_true,decide_eq_true_eq] at D;exact D.1
 have Z:1≤t.cols.length∧t.cols.length≤6:=by
  unfold bV at J;simp only[Bool.and_eq_true,decide_eq_true_eq] at J;exact J.1
 refine ⟨by omega,by omega,fun v I=>⟨(uB (H v I)).2.1,by have:=(uB (H v I)).2.2;omega⟩,?_⟩;have:=qK 32 21 (r.map aZ) (fun x O=>by
  obtain ⟨v,I,rfl⟩:=List.mem_map.1 O;exact (uB (H v I)).1)
 rw[List.length_map] at this;unfold bM;have:(21+1)*r.length≤22*6:=Nat.mul_le_mul_left 22 (by omega);omega
theorem DY (t:Tb) (hr:ak t=true) (OA:Option Addr) (no od:Nat) (b o:Nat) (nt ct:Nat) (A B:Option Addr) (c d:Nat) (a2:1≤nt) (H h V ln rk Z:Int) (outs cols:List Bs) (op lc lw U D:Bs) (O:Option Addr) (N:Nat) (Ai:Option Addr) (ni ci:Nat) (Ac:Option Addr) (cc:Nat) (w:World)
  (aA:w.cell? ⟨b,o,none⟩=some (FD A t.cols.length c)) (a4:w.cell? ⟨b,o+1,none⟩=some (FD B t.rows.length d)) (hT:aY w t A B c d) (hE:gG w) :
  Calls Tryz.prog 64 #[.agg #[FH FI H,FH FI 6,FD O outs.length N,FD Ai ni ci,FD Ac cols.length cc,FC (bs op),FC (bs lc),FH FI V,FH FI ln,FC (bs lw),FC (bs U),FH FI rk,FH FI Z,FC (bs D),FH FI h],FD (some ⟨b,o,none⟩) nt ct,FD OA no od] w fun e w'=>dw (.ok [aI t.rows [] []]) e w'∧aa [] w w':=by
 have a3:(0:Int)<(nt:Int):=by omega
 have HT:=Fk hT;have a5:b<w.heap.size:=Fq _ _ aA;have I:Hid (aa [] w ((w.alloc (FG #[FH FI H,FH FI 6,FD O outs.length N,FD Ai ni ci,FD Ac cols.length cc,FC (bs op),FC (bs lc),FH FI V,FH FI ln,FC (bs lw),FC (bs U),FH FI rk,FH FI Z,FC (bs D),FH FI h] 50)).alloc (FG #[FD A t.cols.length c,FD B t.rows.length d] 54))):=Fk (((Fz _ _).alloc _).alloc _);have av:=Fk (ao.alloc (FA w 50 #[FH FI H,FH FI 6,FD O outs.length N,FD Ai ni ci,FD Ac cols.length cc,FC (bs op),FC (bs lc),FH FI V,FH FI ln,FC (bs lw),FC (bs U),FH FI rk,FH FI Z,FC (bs D),FH FI h]) (FG #[FD A t.cols.length c,FD B t.rows.length d] 54));have J:=Fk (FA (w.alloc (FG #[FH FI H,FH FI 6,FD O outs.length N,FD Ai ni ci,FD Ac cols.length cc,FC (bs op),FC (bs lc),FH FI V,FH FI ln,FC (bs lw),FC (bs U),FH FI rk,FH FI Z,FC (bs D),FH FI h] 50)) 54 #[FD A t.cols.length c,FD B t.rows.length d]);rw[ap] at J;have a0:=Fk (fun W (q:aa [] w W)=>rR t.rows B d W (hE.quiet q) (hT.rows.keep q) hT.lm (yI hr));generalize aI t.rows [] []=DG at *;clear hT;go_enter Tryz.func64,Tryz.ntmps64
 go_wp2_with fail
 refine (a0.out _ I.out).mono ?_;rintro e w5 ⟨⟨v,rfl,hv⟩,M⟩;have HV:=Fk hv;have ad:=Fk (I.out.trans M);obtain ⟨A3,c3,a1,_,_⟩:=HV.out;subst a1;clear hv M av J;go_wp2;go_ret2;exact ⟨⟨_,1,rfl,Fm _,em HV.out _⟩,ad.out.alloc _⟩
theorem DZ (t u:Tb) (OA:Option Addr) (no od:Nat) (b o:Nat) (nt ct:Nat) (A B:Option Addr) (c d:Nat) (bX:2≤nt) (I D lk ln rk rn:Int) (outs cols:List Bs) (op lc lw rc H:Bs) (Ao:Option Addr) (co:Nat) (Ai:Option Addr) (ni ci:Nat) (Ac:Option Addr) (cc:Nat) (w:World)
  (a6:w.cell? ⟨b,o,none⟩=some (FD A t.cols.length c)) (bc:w.cell? ⟨b,o+1,none⟩=some (FD B t.rows.length d)) (hT:aY w t A B c d) (A2 U:Option Addr) (c2 Z:Nat)
  (a2:w.cell? ⟨b,o+1*2+1,none⟩=some (FD U u.rows.length Z)) (hU:aY w u A2 U c2 Z) (bz:t.rows.length≤100) (br:u.rows.length≤100) :
  Calls Tryz.prog 64 #[.agg #[FH FI I,FH FI 5,FD Ao outs.length co,FD Ai ni ci,FD Ac cols.length cc,FC (bs op),FC (bs lc),FH FI lk,FH FI ln,FC (bs lw),FC (bs rc),FH FI rk,FH FI rn,FC (bs H),FH FI D],FD (some ⟨b,o,none⟩) nt ct,FD OA no od] w fun e w'=>dw (.ok [t.rows++u.rows]) e w'∧aa [] w w':=by
 have bm:(0:Int)<(nt:Int):=by omega
 have HT:=Fk hT;have bv:b<w.heap.size:=Fq _ _ a6;have N:Hid (aa [] w ((w.alloc (FG #[FH FI I,FH FI 5,FD Ao outs.length co,FD Ai ni ci,FD Ac cols.length cc,FC (bs op),FC (bs lc),FH FI lk,FH FI ln,FC (bs lw),FC (bs rc),FH FI rk,FH FI rn,FC (bs H),FH FI D] 50)).alloc (FG #[FD A t.cols.length c,FD B t.rows.length d] 54))):=Fk (((Fz _ _).alloc _).alloc _);have a7:=Fk (ao.alloc (FA w 50 #[FH FI I,FH FI 5,FD Ao outs.length co,FD Ai ni ci,FD Ac cols.length cc,FC (bs op),FC (bs lc),FH FI lk,FH FI ln,FC (bs lw),FC (bs rc),FH FI rk,FH FI rn,FC (bs H),FH FI D]) (FG #[FD A t.cols.length c,FD B t.rows.length d] 54));have J:=Fk (FA (w.alloc (FG #[FH FI I,FH FI 5,FD Ao outs.length co,FD Ai ni ci,FD Ac cols.length cc,FC (bs op),FC (bs lc),FH FI lk,FH FI ln,FC (bs lw),FC (bs rc),FH FI rk,FH FI rn,FC (bs H),FH FI D] 50)) 54 #[FD A t.cols.length c,FD B t.rows.length d]);rw[ap] at J;have bq:(1:Int)<(nt:Int):=by omega
 obtain ⟨us,V,a9,ad⟩:=hT.rows;obtain ⟨vs,a3,a0,aA⟩:=hU.rows;have bk:Hid (∀ W g,aa [] w W→ao W g 52 #[FD B t.rows.length d,FD U u.rows.length Z]→Calls Tryz.prog 101 #[FD (some ⟨g,0,none⟩) 2 2] W fun e w'=>(∃ v,e=FF v∧cC w' v (t.rows++u.rows))∧aa [] W w'):=Fk (fun W g q hb=>by
  have h:=tF [(t.rows.length,us),(u.rows.length,vs)] [FD B t.rows.length d,FD U u.rows.length Z] (some ⟨g,0,none⟩) 2 W rfl ⟨rfl,fun _=>⟨_,rfl,by simp,hb.lt,fun j x hx=>by rw[cI,Nat.zero_add,hb.cell j];simpa using hx⟩⟩ (fun i h1 h2=>by
   match i,h1 with
   | 0,_=>exact ⟨B,d,rfl,a9.keep q⟩
   | 1,_=>exact ⟨U,Z,rfl,a0.keep q⟩) (by simp) (by simp[du];omega) (fun p hp x hx=>by
   simp only[List.mem_cons,List.not_mem_nil,or_false] at hp;rcases hp with rfl|rfl
   ·obtain ⟨i,O,rfl⟩:=List.getElem_of_mem hx
    obtain ⟨_,_,e,_⟩:=ad i O (by simp only at O;omega);simp only at e ⊢;rw[e];rfl
   obtain ⟨i,O,rfl⟩:=List.getElem_of_mem hx;obtain ⟨_,_,e,_⟩:=aA i O (by simp only at O;omega);simp only at e ⊢;rw[e];rfl)
  refine h.mono ?_;rintro e w' ⟨⟨v,rfl,a5⟩,hk⟩;refine ⟨⟨v,rfl,?_⟩,hk⟩;have e1:du [(t.rows.length,us),(u.rows.length,vs)] 2=(t.rows++u.rows).length:=by simp[du]
  have e2:iP [(t.rows.length,us),(u.rows.length,vs)] 2=us++vs:=by simp[iP]
  have av:w'.ownsRow W.heap.size 89 1 v (t.rows++u.rows).length (us++vs):=by rw[←e1,←e2];exact a5
  obtain ⟨A3,c3,e3,bj,be⟩:=iD av;refine ⟨A3,c3,e3,bj,us++vs,by simp[V,a3],be,fun i h1 h2=>?_⟩;by_cases O:i<us.length
  ·rw[List.getElem_append_left O,List.getElem_append_left (by omega)]
   exact (ad i O (by omega)).keep (q.trans hk)
  rw[List.getElem_append_right (by omega),List.getElem_append_right (by omega)];have:=aA (i-us.length) (by simp at h1;omega) (by simp at h1;omega);simp only[V] at this ⊢;exact this.keep (q.trans hk))
 generalize t.rows++u.rows=DG at *;clear hT hU V a9 ad a3 a0 aA;go_enter Tryz.func64,Tryz.ntmps64
 go_wp2;obtain ⟨M,a4⟩:∃ M,((w.alloc (FG #[FH FI I,FH FI 5,FD Ao outs.length co,FD Ai ni ci,FD Ac cols.length cc,FC (bs op),FC (bs lc),FH FI lk,FH FI ln,FC (bs lw),FC (bs rc),FH FI rk,FH FI rn,FC (bs H),FH FI D] 50)).alloc (FG #[FD A t.cols.length c,FD B t.rows.length d] 54))=M:=⟨_,rfl⟩
 rw[a4] at N a7 J ⊢;obtain ⟨bx,a1⟩:∃ bx,w.heap.size=bx:=⟨_,rfl⟩
 rw[a1] at a7 J ⊢;have e3:M.cell? ⟨b,o+1*2+1,none⟩=some (FD U u.rows.length Z):=N.out.cell_of a2 (by simp);have e4:M.cell? ⟨bx+1,1,none⟩=some (FD B t.rows.length d):=J.out.cell 1;have bo:b<M.heap.size:=Fq _ _ e3;have bt:bx+1<M.heap.size:=J.out.lt;clear a4 a1 a6 bc a2;go_region_held3 (fun w'=>w'.cell? ⟨b,o+1*2+1,none⟩=some (FD U u.rows.length Z)∧w'.cell? ⟨bx+1,1,none⟩=some (FD B t.rows.length d)) (first|exact ⟨(((Fz [] M).drew.alloc _).trans k5).cell_of e3 (by simp),(((Fz [] M).drew.alloc _).trans k5).cell_of e4 (by simp)⟩|exact ⟨e3,e4⟩|go_keep) (first|(go_at_call 101;refine (bk.out _ _ (N.out.trans ((Fz [] M).drew.alloc _)) (FA _ _ _)).mono ?_;rintro e w5 ⟨⟨v,rfl,hv⟩,k5⟩;obtain ⟨A3,c3,bb,a8,ba⟩:=hv;subst bb))
 go_wp2;go_ret2;exact ⟨⟨_,1,rfl,Fm _,em ⟨A3,c3,rfl,a8,ba⟩ _⟩,(N.out.trans (((Fz [] M).drew.alloc _).trans k5)).alloc _⟩
end
section
open Go.RowKit Go.BigFrame
attribute [local go_sem] ag ab ae af KW.cell
theorem yJ (A:Option Addr) (m d n:Nat) (h:n≤d) (W:World):(Instr.slice 89 (FD A m d) none (some (FH FI (n:Int))) none).run Tryz.prog W= .ok (FD A n d) W:=by
 have I:=Tryz.underlying89;have H:(0:Int)≤(n:Int):=by omega
 have D:(n:Int)≤(d:Int):=by omega
 cases A with
 | none=>go_simp
 | some a=>go_simp
theorem tG (b o n d D:Nat) (O:D≤n) (M:n≤d):∃ A,(∀ W,(Instr.slice 89 (FD (some ⟨b,o,none⟩) n d) (some (FH FI (D:Int))) none none).run Tryz.prog W= .ok (FD A (n-D) (d-D)) W)∧(D<d→A=some ⟨b,o+D*3,none⟩):=by
 have N:=Tryz.underlying89;have J:(0:Int)≤(D:Int):=by omega
 have I:(D:Int)≤(n:Int):=by omega
 have H:(n:Int)≤(d:Int):=by omega
 by_cases h:D=d
 ·subst h
  refine ⟨some ⟨b,o,none⟩,fun W=>?_,fun h=>absurd h (by omega)⟩;go_simp
 refine ⟨some ⟨b,o+D*3,none⟩,fun W=>?_,fun _=>rfl⟩;go_simp
 exact fun e=>absurd e.symm h
theorem AN {w:World} {A:Option Addr} {l:List Vl} {n:Nat} (h:Rd w [] 3 A l.length (al l)) (O:n≤l.length):Rd w [] 3 A n (al (l.take n)):=by
 refine ⟨by rw[fF,Fw,Nat.min_eq_left O],fun U=>?_⟩;obtain ⟨M,e,I,D,N⟩:=h.2 (by omega);refine ⟨M,e,I,D,fun j u H=>N j u ?_⟩;have J:al l=al (l.take n)++al (l.drop n):=by
  rw[←iS,List.take_append_drop]
 rw[J,List.getElem?_append_left (List.getElem?_eq_some_iff.1 H).1];exact H
theorem AO {w:World} {b o:Nat} {l:List Vl} {n:Nat} {A:Option Addr} (h:Rd w [] 3 (some ⟨b,o,none⟩) l.length (al l)) (N:n≤l.length) (J:n<l.length→A=some ⟨b,o+n*3,none⟩):Rd w [] 3 A (l.length-n) (al (l.drop n)):=by
 refine ⟨by rw[fF,List.length_drop],fun V=>?_⟩;obtain ⟨Z,e,I,D,M⟩:=h.2 (by omega);injection e with e;subst e;refine ⟨_,J (by omega),I,D,fun j u O=>?_⟩;have U:al l=al (l.take n)++al (l.drop n):=by
  rw[←iS,List.take_append_drop]
 have H:(al (l.take n)).length=n*3:=by rw[fF,Fw,Nat.min_eq_left N]
 have:=M (n*3+j) u (by
  rw[U,List.getElem?_append_right (by rw[H];omega),H,Nat.add_sub_cancel_left];exact O)
 rw[cI] at this ⊢;rw[show o+n*3+j=o+(n*3+j) by omega];exact this
def jv (m:Nat) (x z:List Vl):List Vl:=x++z.take m++z.drop (m+1)
theorem yK {m:Nat} {x z:List Vl} (h:m<z.length):(jv m x z).length=x.length+m+(z.length-(m+1)):=by
 unfold jv;rw[Fo,Fo,Fw,List.length_drop,Nat.min_eq_left (Nat.le_of_lt h)]
def di (k m:Nat) (x:List Vl) (b:List (List Vl)):List (List Vl):=(b.filter fun y=>decide (x.getD k zV=y.getD m zV)).map (jv m x)
theorem rS (k m:Nat) (x:List Vl) (b:List (List Vl)) (i:Nat) (h:i<b.length):di k m x (b.take (i+1))=di k m x (b.take i)++(if x.getD k zV=b[i].getD m zV then [jv m x b[i]] else []):=by
 unfold di;rw[List.take_succ_eq_append_getElem h,List.filter_append,List.map_append];congr 1
 by_cases D:x.getD k zV=b[i].getD m zV
 ·rw[if_pos D,List.filter_cons_of_pos (p:=fun y:List Vl=>decide (x.getD k zV=y.getD m zV)) (decide_eq_true D)];rfl
 rw[if_neg D,List.filter_cons_of_neg (p:=fun y:List Vl=>decide (x.getD k zV=y.getD m zV)) (by simpa using D)];rfl
theorem mP (k m:Nat) (x:List Vl) (b:List (List Vl)):(di k m x b).length≤b.length:=by
 unfold di;rw[List.length_map];exact List.length_filter_le _ _
theorem vC (k m:Nat) (a b:List (List Vl)):(bK k m a b).length≤a.length*b.length:=by
 induction a with
 | nil=>simp[bK]
 | cons x a ih =>
  have e:bK k m (x::a) b=di k m x b++bK k m a b:=rfl;rw[e,Fo,Fv,Nat.succ_mul];have:=mP k m x b;omega
theorem vD (k m:Nat) (a b:List (List Vl)) (i:Nat) (h:i<a.length):bK k m (a.take (i+1)) b=bK k m (a.take i) b++di k m a[i] b:=by
 unfold bK;rw[List.take_succ_eq_append_getElem h,List.flatMap_append];simp only[List.flatMap_cons,List.flatMap_nil,List.append_nil];rfl
theorem EH (x z:List Vl) (m:Nat) (hm:m<z.length) (O:x.length≤4294967) (hz:z.length≤4294967) (bx D N J H U M:Nat) (I:Option Addr) (y W:World) (q:aa [] y W) (hX:Rd y [] 3 (some ⟨bx,D,none⟩) x.length (al x)) (h1:Rd y [] 3 (some ⟨J,H,none⟩) m (al (z.take m))) (h2:Rd y [] 3 I (z.length-(m+1)) (al (z.drop (m+1)))) (g:Nat) (V:ao W g 89 #[FD (some ⟨bx,D,none⟩) x.length N,FD (some ⟨J,H,none⟩) m U,FD I (z.length-(m+1)) M]) :
  Calls Tryz.prog 145 #[FD (some ⟨g,0,none⟩) 3 3] W fun e w'=>(∃ v,e=FF v∧w'.ownsRow W.heap.size 46 3 v (jv m x z).length (al (jv m x z)))∧aa [] W w':=by
 have h:=tC [(x.length,al x),(m,al (z.take m)),(z.length-(m+1),al (z.drop (m+1)))] [FD (some ⟨bx,D,none⟩) x.length N,FD (some ⟨J,H,none⟩) m U,FD I (z.length-(m+1)) M] (some ⟨g,0,none⟩) 3 W rfl ⟨rfl,fun _=>⟨_,rfl,by simp,V.lt,fun j u hu=>by rw[cI,Nat.zero_add,V.cell j];simpa using hu⟩⟩ (fun i hi hi'=>by
  match i,hi with
  | 0,_=>exact ⟨_,_,rfl,hX.keep q⟩
  | 1,_=>exact ⟨_,_,rfl,h1.keep q⟩
  | 2,_=>exact ⟨_,_,rfl,h2.keep q⟩) (by simp) (by simp[du];omega) (fun p Z x O=>by
  simp only[List.mem_cons,List.not_mem_nil,or_false] at Z;rcases Z with rfl|rfl|rfl<;>exact oK _ x O)
 have e1:du [(x.length,al x),(m,al (z.take m)),(z.length-(m+1),al (z.drop (m+1)))] 3=(jv m x z).length:=by
  rw[yK hm];simp[du];omega
 have e2:iP [(x.length,al x),(m,al (z.take m)),(z.length-(m+1),al (z.drop (m+1)))] 3=al (jv m x z):=by
  unfold jv al;simp[iP]
 rw[←e1,←e2];exact h
theorem yL (a D:Tb) (n1 H:Bs) (k m:Nat) (hk:an a.cols n1=some k) (hm:an D.cols H=some m) (be code I lk ln rk rn:Int) (no:Nat) (op lc lw rc a7:Bs) (Ao:Option Addr) (co:Nat) (Ai:Option Addr) (ni ci:Nat) (bc oc:Nat) (cc:Nat) (A B:Option Addr) (c d:Nat) (A2 B2:Option Addr) (c2 d2:Nat) (w:World)
  (s0:w.cell? ⟨bc,oc,none⟩=some (FC (bs n1))) (s1:w.cell? ⟨bc,oc+1,none⟩=some (FC (bs H))) (hT:aY w a A B c d) (hU:aY w D A2 B2 c2 d2) (d0:∀ r∈a.rows,r.length=a.cols.length) (en:∀ r∈D.rows,r.length=D.cols.length) (gc:a.cols.length≤100) (f9:D.cols.length≤100) (f4:a.rows.length≤100) (e8:D.rows.length≤100) :
  Calls Tryz.prog 103 #[.agg #[FH FI be,FH FI code,FD Ao no co,FD Ai ni ci,FD (some ⟨bc,oc,none⟩) 2 cc,FC (bs op),FC (bs lc),FH FI lk,FH FI ln,FC (bs lw),FC (bs rc),FH FI rk,FH FI rn,FC (bs a7),FH FI I],.agg #[FD A a.cols.length c,FD B a.rows.length d],.agg #[FD A2 D.cols.length c2,FD B2 D.rows.length d2]] w fun e w'=>(∃ v,e=FF v∧cC w' v (bK k m a.rows D.rows))∧aa [] w w':=by
 obtain ⟨ir,eB,dB,c6,c7⟩:=info_parts jt;have eb:Hid (∀ W,aa [] w W→Calls Tryz.prog 89 #[FD A a.cols.length c,FC (bs n1)] W fun e W'=>e=FF (FH FI (k:Int))∧aa [] W W'):=Fk fun W q=>by
  have h:=bQ a.cols n1 A c W (hT.cols.keep q) hT.ln;rw[hk] at h;exact h
 have c3:Hid (∀ W,aa [] w W→Calls Tryz.prog 89 #[FD A2 D.cols.length c2,FC (bs H)] W fun e W'=>e=FF (FH FI (m:Int))∧aa [] W W'):=Fk fun W q=>by
  have h:=bQ D.cols H A2 c2 W (hU.cols.keep q) hU.ln;rw[hm] at h;exact h
 have f8:k<a.cols.length:=(List.findIdx?_eq_some_iff_getElem.1 hk).1;have gm:m<D.cols.length:=(List.findIdx?_eq_some_iff_getElem.1 hm).1;have HT:=Fk hT;have HU:=Fk hU;have e7:=Fk d0;have ey:=Fk en;have ds:=Fk s0;have d1:=Fk s1;obtain ⟨O,Z⟩:∃ O,(((w.alloc (FG #[FH FI be,FH FI code,FD Ao no co,FD Ai ni ci,FD (some ⟨bc,oc,none⟩) 2 cc,FC (bs op),FC (bs lc),FH FI lk,FH FI ln,FC (bs lw),FC (bs rc),FH FI rk,FH FI rn,FC (bs a7),FH FI I] 50)).alloc (FG #[FD A a.cols.length c,FD B a.rows.length d] 54)).alloc (FG #[FD A2 D.cols.length c2,FD B2 D.rows.length d2] 54))=O:=⟨_,rfl⟩
 have av:Hid (aa [] w O):=Fk (by rw[←Z];exact (((Fz _ _).alloc _).alloc _).alloc _);have cd:Hid (ao O w.heap.size 50 #[FH FI be,FH FI code,FD Ao no co,FD Ai ni ci,FD (some ⟨bc,oc,none⟩) 2 cc,FC (bs op),FC (bs lc),FH FI lk,FH FI ln,FC (bs lw),FC (bs rc),FH FI rk,FH FI rn,FC (bs a7),FH FI I]):=Fk (by rw[←Z];exact ((FA _ _ _).alloc _).alloc _);have br:Hid (ao O (w.heap.size+1) 54 #[FD A a.cols.length c,FD B a.rows.length d]):=Fk (by
  rw[←Z];have h:=FA (w.alloc (FG #[FH FI be,FH FI code,FD Ao no co,FD Ai ni ci,FD (some ⟨bc,oc,none⟩) 2 cc,FC (bs op),FC (bs lc),FH FI lk,FH FI ln,FC (bs lw),FC (bs rc),FH FI rk,FH FI rn,FC (bs a7),FH FI I] 50)) 54 #[FD A a.cols.length c,FD B a.rows.length d];rw[ap] at h;exact h.alloc _)
 have bk:Hid (ao O (w.heap.size+1+1) 54 #[FD A2 D.cols.length c2,FD B2 D.rows.length d2]):=Fk (by
  rw[←Z];have h:=FA ((w.alloc (FG #[FH FI be,FH FI code,FD Ao no co,FD Ai ni ci,FD (some ⟨bc,oc,none⟩) 2 cc,FC (bs op),FC (bs lc),FH FI lk,FH FI ln,FC (bs lw),FC (bs rc),FH FI rk,FH FI rn,FC (bs a7),FH FI I] 50)).alloc (FG #[FD A a.cols.length c,FD B a.rows.length d] 54)) 54 #[FD A2 D.cols.length c2,FD B2 D.rows.length d2];rw[ap,ap] at h;exact h)
 have HW:=Fk Z;clear hT hU d0 en Z s0 s1;go_enter Tryz.func103,Tryz.ntmps103
 go_upto_region 1 with (fail)
 rw[HW.out];have y4:O.cell? ⟨w.heap.size,4,none⟩=some (FD (some ⟨bc,oc,none⟩) 2 cc):=cd.out.cell 4;have e0:=av.out.cell_of ds.out (by simp);have e1:=av.out.cell_of d1.out (by simp);have a0:O.cell? ⟨w.heap.size+1,0,none⟩=some (FD A a.cols.length c):=br.out.cell 0;have b0:O.cell? ⟨w.heap.size+1+1,0,none⟩=some (FD A2 D.cols.length c2):=bk.out.cell 0;have fz:w.heap.size<O.heap.size:=cd.out.lt;have e5:bc<O.heap.size:=Fq _ _ e0;have fb:w.heap.size+1<O.heap.size:=br.out.lt;have eX:w.heap.size+1+1<O.heap.size:=bk.out.lt;have HF1':=Fk (fun W (q:aa [] O W)=>eb.out W (av.out.trans q));have HF2':=Fk (fun W (q:aa [] O W)=>c3.out W (av.out.trans q));clear eb c3 HW ds d1;generalize w.heap.size=bx at *;refine ah (by kernel_rfl) (by kernel_rfl) ?_;repeat (go_big_quiet_step (first|with_reducible exact KW.of HF1'.out _|with_reducible exact KW.of HF2'.out _))
 refine wpQuiet_nil ?_;intro w3 bt;have b3:=Fk (av.out.trans bt);have b6:=Fk (br.out.keep bt (by simp));have b9:=Fk (bk.out.keep bt (by simp));clear bt y4 e0 e1 a0 b0 fz e5 fb eX HF1' HF2' cd br bk av;have a1:w3.cell? ⟨bx+1,1,none⟩=some (FD B a.rows.length d):=b6.out.cell 1;have ev:bx+1<w3.heap.size:=b6.out.lt;go_wp2_with fail
 clear a1 ev;go_loopw [9,31] (fun u i wx=>∃ (n:Nat) (v:Value),v=u∧n≤a.rows.length∧i=FH FI n∧Hid (iK wx w3.heap.size v (bK k m (a.rows.take n) D.rows))∧Hid (aa [] w3 wx)) (fun _ i _=>a.rows.length-(intOf i).toNat)
 case atStart=>exact ⟨0,_,rfl,Fu _,rfl,Fk (iK.nil _ _),Fk (Fz _ _)⟩
 obtain ⟨n,v,rfl,hn,rfl,HG,HK⟩:=hrel;obtain ⟨y,rfl⟩:∃ z:World,z=wr:=⟨_,rfl⟩
 by_cases cD:n<a.rows.length
 ·obtain ⟨us,cn,ba,a5⟩:=HT.out.rows
  have bb:n<us.length:=by omega
  have cr:=a5 n bb cD;obtain ⟨b7,o7,cj,_,f7,a4⟩:=ba.open' (by omega) (by omega);subst cj;have d7:=a4 (n*1) us[n] (by rw[Nat.mul_one];exact Fp bb);rw[Nat.mul_one] at d7;have e9:=Fk (vD k m a.rows D.rows n cD);have a2:=e7.out _ (Fs cD);generalize a.rows[n]=x at *;obtain ⟨Ax,cx,hu,e3,c0⟩:=cr;rw[hu] at d7;obtain ⟨bX,oX,rfl,_,ex,bo⟩:=c0.open' (by omega) (by omega);have el:=Fk c0;have cu:=Fk a2;have c9:k<x.length:=by omega
  obtain ⟨x0,x1,x2⟩:=ay x k c9;have f0:=bo _ _ x0;have f1:=bo _ _ x1;have f2:=bo _ _ x2;rw[←Nat.add_assoc] at f1 f2;have bm:=Fk (And.intro f0 (And.intro f1 f2));have c8:Hid (x.getD k zV=x[k]):=Fk (by rw[Fy,Fp c9];rfl);generalize x[k]=vx at *;obtain ⟨cg,ct,cm⟩:=vx;have d8:=(b3.out.trans HK.out).cell_of d7 (by simp);have b1:y.cell? ⟨bx+1+1,1,none⟩=some (FD B2 D.rows.length d2):=(b9.out.keep HK.out (by simp)).cell 1;have eA:bx+1+1<y.heap.size:=(b9.out.keep HK.out (by simp)).lt;clear d7 a4 cn ba a5 hu c0 x0 x1 x2 f0 f1 f2 bo a2;go_wp2_with fail
  clear b1 eA;go_loopw [9,38] (fun u i wx=>∃ (H:Nat) (v:Value),v=u∧H≤D.rows.length∧i=FH FI H∧Hid (iK wx w3.heap.size v (bK k m (a.rows.take n) D.rows++di k m x (D.rows.take H)))∧Hid (aa [] w3 wx)) (fun _ i _=>D.rows.length-(intOf i).toNat)
  case atStart=>exact ⟨0,_,rfl,Fu _,rfl,Fk (by rw[List.take_zero];simpa[di] using HG.out),HK⟩
  clear HG;obtain ⟨H,v2,rfl,gf,rfl,aA,bz⟩:=hrel;obtain ⟨u,rfl⟩:∃ z:World,z=wr:=⟨_,rfl⟩
  have J:=Fk (b3.out.trans bz.out);by_cases bj:H<D.rows.length
  ·obtain ⟨us,cn,ba,a5⟩:=HU.out.rows
   have bb:H<us.length:=by omega
   have cr:=a5 H bb bj;obtain ⟨b8,o8,cj,_,f6,a4⟩:=ba.open' (by omega) (by omega);subst cj;have d7:=a4 (H*1) us[H] (by rw[Nat.mul_one];exact Fp bb);rw[Nat.mul_one] at d7;have V:=Fk (rS k m x D.rows H bj);have a2:=ey.out _ (Fs bj);generalize D.rows[H]=z at *;obtain ⟨Az,cz,hu,ff,ca⟩:=cr;rw[hu] at d7;obtain ⟨bZ,oZ,rfl,_,fn,b4⟩:=ca.open' (by omega) (by omega);have bv:m<z.length:=by omega
   obtain ⟨x0,x1,x2⟩:=ay z m bv;have g0:=J.out.cell_of (b4 _ _ x0) (by simp);have g1:=J.out.cell_of (b4 _ _ x1) (by simp);have g2:=J.out.cell_of (b4 _ _ x2) (by simp);rw[←Nat.add_assoc] at g1 g2;have d3:z.getD m zV=z[m]:=by rw[Fy,Fp bv];rfl
   rw[d3,c8.out] at V;generalize z[m]=vz at *;obtain ⟨cv,ch,c1⟩:=vz;have f0:=J.out.cell_of bm.out.1 (by simp);have f1:=J.out.cell_of bm.out.2.1 (by simp);have f2:=J.out.cell_of bm.out.2.2 (by simp);have d8:=J.out.cell_of d7 (by simp);have hbX':=Nat.lt_of_lt_of_le ex J.out.size;have hbZ':=Nat.lt_of_lt_of_le fn J.out.size;have f3:(0:Int)≤(k:Int):=by omega
   have f5:(k:Int)<(x.length:Int):=by have:=cu.out;omega
   have gk:(0:Int)≤(m:Int):=by omega
   have gi:(m:Int)<(z.length:Int):=by omega
   have ce:=Fk ca;have U:=Fk (And.intro bv a2);have bq:=Fk (And.intro ff e3);clear d7 a4 cn ba a5 hu ca x0 x1 x2 b4 d3 a2 bv;by_cases he:(⟨cg,ct,cm⟩:Vl)=⟨cv,ch,c1⟩
   ·have hq:∀ W,(binOp .eql 46 (.agg #[FH FI cg,FH FI ct,FC (bs cm)]) (.agg #[FH FI cv,FH FI ch,FC (bs c1)])).run Tryz.prog W= .ok (.bool true) W:=fun W=>by rw[EG,decide_eq_true he]
    rw[if_pos he] at V;clear he;go_upto_region 9 with (fail)
    refine ah (by kernel_rfl) (by kernel_rfl) ?_;repeat (go_big_quiet_step (fail))
    refine wpQuiet_nil ?_;intro w5 N;have a6:=Fk (bz.out.trans N);have a3:=Fk (aA.out.keep N);clear f0 f1 f2 g0 g1 g2 d8 hq N aA J;have a8:=Fk (b3.out.trans a6.out);have fS:=yJ (some ⟨bZ,oZ,none⟩) z.length cz m (by have:=U.out.1;have:=bq.out.1;omega);obtain ⟨A5,d9,c4⟩:=tG bZ oZ z.length cz (m+1) (by have:=U.out.1;omega) bq.out.1;have cy:((m+1:Nat):Int)=(m:Int)+1:=by omega
    have gl:IntKind.i64.wrap ((m:Int)+1)=(m:Int)+1:=by simp[IntKind.wrap,IntKind.bits,IntKind.signed];omega
    rw[cy] at d9;have fs:=Fk (fun W g (q:aa [] w5 W) hr=>EH x z m U.out.1 (by have:=cu.out;omega) (by have:=U.out.2;omega) bX oX cx bZ oZ cz (cz-(m+1)) A5 w5 W q (el.out.keep a8.out) (AN (ce.out.keep a8.out) (Nat.le_of_lt U.out.1)) (AO (ce.out.keep a8.out) U.out.1 (fun h=>c4 (by have:=bq.out.1;omega))) g hr);have ez:(bK k m (a.rows.take n) D.rows++di k m x (D.rows.take H)).length≤10100:=by
     have h1:=vC k m (a.rows.take n) D.rows;have h2:=mP k m x (D.rows.take H);have h3:(a.rows.take n).length*D.rows.length≤100*100:=Nat.mul_le_mul (by rw[Fw];omega) e8;rw[Fw] at h2;rw[Fo];omega
    have c5:Hid (bK k m (a.rows.take n) D.rows++di k m x (D.rows.take (H+1))=(bK k m (a.rows.take n) D.rows++di k m x (D.rows.take H))++[jv m x z]):=Fk (by rw[V.out,List.append_assoc]);generalize bK k m (a.rows.take n) D.rows++di k m x (D.rows.take H)=PP at *;obtain ⟨hs,dt,d5,dv⟩:=a3.out;have HO:=Fk d5;have fc:=Fk dv;have e6:=Fk dt;have b5:=Fk a6.out.size;generalize jv m x z=PR at *;have dz:=Fk (show PP.length+1≤maxLen∧(PP.length+1)*24≤140737488355328 by simp only[maxLen];omega);clear d5 dv dt V ez c4 el ce U bq cu c8 bm;go_upto_region 10 with (fail)
    go_region_law (first|(refine step_append_lies _ (by rfl) _ _ _ (by rfl) w3.heap.size 89 ir _ 1 24 Tryz.underlying52 eB dB c6 c7 rfl (by decide) v2 PP.length hs (by rfl) ((aE HO.out ad (fun _ _=>by simp)).alloc _) ⟨w6.heap.size,0,none⟩ 1 1 [FD Aq PR.length cq] (by rfl) rfl (Fx (heap_alloc_new _ _)) (by simp[Value.oneCell']) (by decide) dz.out.1 dz.out.2 (by have:=b5.out;have:=ad.size;simp;omega) _ rfl ?_;intro gw es w8 a9 M d4 er)|(go_simp;go_at_call 145;refine (fs.out _ _ ((Fz [] w5).alloc _).drew (FA _ _ _).drew).mono ?_;rintro e w6 ⟨⟨vq,rfl,hq⟩,et⟩;obtain ⟨Aq,cq,rfl,-⟩:=aq hq;have ad:aa [] w5 w6:=((Fz [] w5).alloc _).drew.trans et))
    all_goals
     have e2:=Fk (((a6.out.trans ad).alloc (FG #[FD Aq PR.length cq] 89)).grown M (fun g hg=> .inr (HO.out.lt g hg).1));have eY:Hid (iK w8 w3.heap.size (FD (some ⟨gw,0,none⟩) (PP.length+1) es) (bK k m (a.rows.take n) D.rows++di k m x (D.rows.take (H+1)))):=Fk (by
      rw[c5.out];exact gY (W:=w6) e6.out (fun i a c=>aE (fc.out i a c) ad (fun _ _=>by simp)) (aE HO.out ad (fun _ _=>by simp)) (gX hq (by have:=b5.out;simp;omega)) M a9)
     clear a9 M d4 er ad et hq;go_wp2;go_roundw
     case rel=>exact ⟨H+1,_,rfl,by omega,by go_num,eY,e2⟩
     case measure=>simp[intOf];omega
   have hq:∀ W,(binOp .eql 46 (.agg #[FH FI cg,FH FI ct,FC (bs cm)]) (.agg #[FH FI cv,FH FI ch,FC (bs c1)])).run Tryz.prog W= .ok (.bool false) W:=fun W=>by rw[EG,decide_eq_false he]
   rw[if_neg he,List.append_nil] at V;clear he;go_upto_region 9 with (fail)
   refine ah (by kernel_rfl) (by kernel_rfl) ?_;repeat (go_big_quiet_step (fail))
   refine wpQuiet_nil ?_;intro w5 N;have a6:=Fk (bz.out.trans N);have a3:Hid (iK w5 w3.heap.size v2 (bK k m (a.rows.take n) D.rows++di k m x (D.rows.take (H+1)))):=Fk (by rw[V.out];exact aA.out.keep N);clear f0 f1 f2 g0 g1 g2 d8 hq N aA;go_wp2;go_roundw
   case rel=>exact ⟨H+1,_,rfl,by omega,by go_num,a3,a6⟩
   case measure=>simp[intOf];omega
  obtain rfl:H=D.rows.length:=by omega
  have a3:Hid (iK u w3.heap.size v2 (bK k m (a.rows.take (n+1)) D.rows)):=Fk (by
   have h:=aA.out;rw[List.take_length] at h;rw[e9.out];exact h)
  clear aA;go_wp2;go_roundw
  case rel=>exact ⟨n+1,_,rfl,by omega,by go_num,a3,bz⟩
  case measure=>simp[intOf];omega
 obtain rfl:n=a.rows.length:=by omega
 have hg:=HG.out;rw[List.take_length] at hg;have fr:=Fk (b3.out.trans HK.out);obtain ⟨Bq,dq,hv,dr,d6⟩:=hg.rd;have e4:Hid (cC y v (bK k m a.rows D.rows)):=Fk ⟨Bq,dq,hv,dr,d6⟩;clear hg dr d6 HG hv;go_wp2;go_ret;exact ⟨⟨_,rfl,e4.out⟩,fr.out⟩
end
section
open Go.RowKit Go.BigFrame
attribute [local go_sem] ag ab ae af
attribute [local go_sem] KW.cell
theorem jz (j:Jb) (a:Tb) (D:List (List Vl)) (m:Nat) (h:m<D.length) (out:List (List Vl)):aO j a (D.drop m) out=match bp j a D[m] with
  | none=>none
  | some x=>aO j a (D.drop (m+1)) (out++[x]):=by
 rw[List.drop_eq_getElem_cons h];conv=>lhs;unfold aO
 cases bp j a D[m]<;>rfl
theorem iF {j:Jb} {a:Tb} {k:Nat} (h:an a.cols (j.cols.headD [])=some k) (r:List Vl):bp j a r=if 1000000000<jT j.op (bB j.left a.cols r).num (bB j.right a.cols r).num∨jT j.op (bB j.left a.cols r).num (bB j.right a.cols r).num < -1000000000 then none else some (r.set k ⟨(r.getD k zV).kind,jT j.op (bB j.left a.cols r).num (bB j.right a.cols r).num,(r.getD k zV).word⟩):=by
 unfold bp;simp only;split
 ·rfl
 rw[h]
theorem vL (r:List Vl) (k:Nat) (h:k<r.length) (n:Int):al (r.set k ⟨r[k].kind,n,r[k].word⟩)=(al r).set (k*3+1) (FH FI n):=by
 induction r generalizing k with
 | nil=>simp at h
 | cons p r ih =>
  rcases k with _|k
  ·simp[al,eC]
  have hk':k<r.length:=by simpa using h
  have:=ih k hk';simp only[List.set_cons_succ,List.getElem_cons_succ];show eC p++al (r.set k ⟨r[k].kind,n,r[k].word⟩)=(eC p++al r).set ((k+1)*3+1) (FH FI n);rw[this,show (k+1)*3+1=(k*3+1)+1+1+1 by omega];simp[eC]
theorem me {w:World} {base g n cap j:Nat} {e:TypeId} {size:Nat} {xs:List Value} {u:Value} (h:w.ownsRow base e size (FD (some ⟨g,0,none⟩) n cap) n xs):(w.setCell ⟨g,j,none⟩ u).ownsRow base e size (FD (some ⟨g,0,none⟩) n cap) n (xs.set j u):=by
 refine ⟨by rw[List.length_set];exact h.1,?_⟩;rcases h.2 with ⟨I,_⟩|⟨g',J,cur,I,N,M,U,O,Z,V⟩
 ·cases I
 injection I with D e2 e3;injection D with D;injection D with D;subst D e3;have H:ao w g e cur:=M;refine .inr ⟨g,cap,cur.setIfInBounds j u,rfl,N,H.set j u,U,O,by simpa using Z,?_⟩;rw[←V];simp only[Array.toList_setIfInBounds];rw[List.take_set]
theorem mf {w:World} {base g n cap:Nat} {e:TypeId} {size:Nat} {xs:List Value} (h:w.ownsRow base e size (FD (some ⟨g,0,none⟩) n cap) n xs) (i:Nat):w.frozen? ⟨g,i,none⟩=false:=by
 rcases h.2 with ⟨I,_⟩|⟨N,J,cur,I,O,M,V,U,hs,Z⟩
 ·cases I
 injection I with D e2 e3;injection D with D;injection D with D;subst D;have H:ao w g e cur:=M;exact H.frozen i
def jA (R:Option (List (List Vl))) (e:Ending) (w':World):Prop:=match R with
 | none=>e=FF (.tuple #[FD none 0 0,.iface 37 (FH FI 2)])
 | some l=>∃ g,e=FF (.tuple #[FD (some ⟨g,0,none⟩) 1 1,.nilIface])∧fk w' (some ⟨g,0,none⟩) [l]
theorem vM {x y:Int} (J : -1000000000≤x) (I:x≤1000000000) (h : -1000000000≤y) (D:y≤1000000000) : -1000000000000000000≤x*y∧x*y≤1000000000000000000:=by
 have H:(x*y).natAbs≤1000000000*1000000000:=by
  rw[Int.natAbs_mul];exact Nat.mul_le_mul (by omega) (by omega)
 omega
theorem jN (w:World) (p:Addr) (v:Value):(w.setCell p v).heap.size=w.heap.size:=by simp[World.setCell]
theorem iG (w:World) (p:Addr) (v:Value) (o:Obj):((w.setCell p v).alloc o).heap[w.heap.size]? = some o:=by
 have h:=heap_alloc_new (w.setCell p v) o;rwa [jN] at h
theorem tQ (j:Jb) (t:Tb) (k:Nat) (nm:Bs) (A B:Option Addr) (c d:Nat) (Ao:Option Addr) (co:Nat) (Ai:Option Addr) (ni ci:Nat) (Ac:Option Addr) (cc:Nat) (w:World) (hT:aY w t A B c d) (U:j.cols=[nm]) (hk:an t.cols nm=some k) (ch:Rd w [] 1 Ac 1 (strs [nm]))
  (cq:∀ r∈t.rows,r.length=t.cols.length) (dq:∀ r∈t.rows,fO j.left t.cols r) (cu:∀ r∈t.rows,fO j.right t.cols r)
  (cd:∀ r∈t.rows,-1000000000≤(bB j.left t.cols r).num∧(bB j.left t.cols r).num≤1000000000) (dB:∀ r∈t.rows,-1000000000≤(bB j.right t.cols r).num∧(bB j.right t.cols r).num≤1000000000) (hp:j.op=[43]) :
  Calls Tryz.prog 99 #[eH j Ao co Ai ni ci Ac cc,.agg #[FD A t.cols.length c,FD B t.rows.length d]] w fun e w'=>jA (aO j t t.rows []) e w'∧aa [] w w':=by
 obtain ⟨ir,el,c7,cg,cm⟩:=info_parts jt;have e2:k<t.cols.length:=(List.findIdx?_eq_some_iff_getElem.1 hk).1;have hf:=fun W (q:aa [] w W)=>bQ t.cols nm A c W (hT.cols.keep q) hT.ln
 rw[hk] at hf;have HF:Hid (∀ W,aa [] w W→Calls Tryz.prog 89 #[FD A t.cols.length c,FC (bs nm)] W fun e w'=>e=FF (FH FI (k:Int))∧aa [] W w'):=Fk hf;have e6:=Fk (fun m (h:m<t.rows.length) out=>jz j t t.rows m h out);have es:=Fk (fun r=>iF (j:=j) (a:=t) (k:=k) (by rw[U];exact hk) r);have d5:Hid (∀ out,aO j t [] out=some out):=Fk fun out=>rfl
 generalize aO j t=CG at *;generalize bp j t=CR at *;have HT:=Fk hT;have fn:=Fk dq;have f4:=Fk cu;have e3:=Fk cd;have fS:=Fk dB;have ex:=Fk cq;have gl:=hT.lm;have f5:=hT.ln;clear hT dq cu cd dB cq hf hk;obtain ⟨a9,code,outs,js,cols,op,⟨lc,lk,ln,lw⟩,⟨rc,rk,rn,J⟩,H⟩:=j;obtain ⟨no,cz⟩:∃ n,outs.length=n:=⟨_,rfl⟩
 simp only at U;show Calls _ _ #[.agg #[FH FI a9,FH FI code,FD Ao outs.length co,FD Ai ni ci,FD Ac cols.length cc,FC (bs op),FC (bs lc),FH FI lk,FH FI ln,FC (bs lw),FC (bs rc),FH FI rk,FH FI rn,FC (bs J),FH FI H],.agg #[FD A t.cols.length c,FD B t.rows.length d]] w _;rw[cz,show cols.length=1 by rw[U];rfl];have fs:op=[43]∨True:= .inr trivial;subst hp;have fc:Hid (∀ x y,jT [43] x y=x+y):=Fk (fun x y=>by unfold jT;rfl);skip
 obtain ⟨b4,o4,e4,_,g0,bq⟩:=ch.open' (by omega) (by decide);have d4:w.cell? ⟨b4,o4,none⟩=some (FC (bs nm)):=bq 0 _ rfl;subst e4;have bk:Hid (aa [] w ((w.alloc (FG #[FH FI a9,FH FI code,FD Ao no co,FD Ai ni ci,FD (some ⟨b4,o4,none⟩) 1 cc,FC (bs [43]),FC (bs lc),FH FI lk,FH FI ln,FC (bs lw),FC (bs rc),FH FI rk,FH FI rn,FC (bs J),FH FI H] 50)).alloc (FG #[FD A t.cols.length c,FD B t.rows.length d] 54))):=Fk (((Fz _ _).alloc _).alloc _);have a1:=Fk (ao.alloc (FA w 50 #[FH FI a9,FH FI code,FD Ao no co,FD Ai ni ci,FD (some ⟨b4,o4,none⟩) 1 cc,FC (bs [43]),FC (bs lc),FH FI lk,FH FI ln,FC (bs lw),FC (bs rc),FH FI rk,FH FI rn,FC (bs J),FH FI H]) (FG #[FD A t.cols.length c,FD B t.rows.length d] 54));have aA:=Fk (FA (w.alloc (FG #[FH FI a9,FH FI code,FD Ao no co,FD Ai ni ci,FD (some ⟨b4,o4,none⟩) 1 cc,FC (bs [43]),FC (bs lc),FH FI lk,FH FI ln,FC (bs lw),FC (bs rc),FH FI rk,FH FI rn,FC (bs J),FH FI H] 50)) 54 #[FD A t.cols.length c,FD B t.rows.length d]);rw[ap] at aA;have bZ:=Fk (bk.out.cell_of d4 (by simp));clear ch bq d4 U cz fs;go_enter Tryz.func99,Tryz.ntmps99
 go_wp2;obtain ⟨w2,cv⟩:∃ w2,((w.alloc (FG #[FH FI a9,FH FI code,FD Ao no co,FD Ai ni ci,FD (some ⟨b4,o4,none⟩) 1 cc,FC (bs [43]),FC (bs lc),FH FI lk,FH FI ln,FC (bs lw),FC (bs rc),FH FI rk,FH FI rn,FC (bs J),FH FI H] 50)).alloc (FG #[FD A t.cols.length c,FD B t.rows.length d] 54))=w2:=⟨_,rfl⟩
 rw[cv] at bk a1 aA bZ ⊢;obtain ⟨bx,cj⟩:∃ bx,w.heap.size=bx:=⟨_,rfl⟩
 rw[cj] at a1 aA ⊢;clear cv cj;have ce:Hid (∀ W,aa [] w2 W→Calls Tryz.prog 89 #[FD A t.cols.length c,FC (bs nm)] W fun e w'=>e=FF (FH FI (k:Int))∧aa [] W w'):=Fk (fun W q=>HF.out W (bk.out.trans q));have y4:w2.cell? ⟨bx,4,none⟩=some (FD (some ⟨b4,o4,none⟩) 1 cc):=a1.out.cell 4;have y0:w2.cell? ⟨bx+1,0,none⟩=some (FD A t.cols.length c):=aA.out.cell 0;have y8:=bZ.out;have l1:bx<w2.heap.size:=a1.out.lt;have l2:bx+1<w2.heap.size:=aA.out.lt;have l3:b4<w2.heap.size:=Fq _ _ y8;refine ah (by kernel_rfl) (by kernel_rfl) ?_;repeat (go_big_quiet_step (first|with_reducible exact KW.of ce.out _))
 refine wpQuiet_nil ?_;intro w3 a5;have g2:=Fk a5;have e5:=Fk (bk.out.trans a5);have a3:=Fk (a1.out.keep a5 (by simp));have a2:=Fk (aA.out.keep a5 (by simp));clear a5 y4 y0 y8 l1 l2 l3 ce HF a1 aA bZ;have y1:w3.cell? ⟨bx+1,1,none⟩=some (FD B t.rows.length d):=a2.out.cell 1;go_wp2;clear y1;go_loopw [7,23] (fun u i wx=>∃ (m:Nat) (v:Value) (out:List (List Vl)),v=u∧m≤t.rows.length∧i=FH FI m∧out.length=m∧Hid (iK wx w3.heap.size v out)∧Hid (CG (t.rows.drop m) out=CG t.rows [])∧aa [] w3 wx) (fun _ i _=>t.rows.length-(intOf i).toNat)
 case atStart=>exact ⟨0,_,[],rfl,Fu _,rfl,rfl,iK.nil _ _,Fk rfl,Fz _ _⟩
 obtain ⟨m,v,out,rfl,hm,rfl,cy,HG,dv,hk⟩:=hrel;have bc:=Fk cy;have HK:=Fk hk;have O:=Fk (e5.out.trans hk);clear hk cy;by_cases b8:m<t.rows.length
 ·obtain ⟨us,ez,dt,c5⟩:=HT.out.rows
  have d0:m<us.length:=by omega
  have ct:=c5 m d0 b8;obtain ⟨b7,o7,er,_,gk,cx⟩:=dt.open' (by omega) (by omega);have d7:=cx (m*1) us[m] (by rw[Nat.mul_one];exact Fp d0);rw[Nat.mul_one] at d7;have I:t.rows[m]∈t.rows:=Fs b8;have V:=e6.out m b8 out;rw[dv.out,es.out] at V;have bb:=ex.out _ I;obtain ⟨r,hr⟩:∃ r,t.rows[m]=r:=⟨_,rfl⟩
  rw[hr] at ct I bb V;obtain ⟨Ar,cr,hu,eA,av⟩:=ct;rw[hu] at d7;have d8:=O.out.cell_of d7 (by simp);subst er;have fb:=Fk av;have a8:Hid (∀ W,aa [] wr W→Calls Tryz.prog 98 #[.agg #[FC (bs lc),FH FI lk,FH FI ln,FC (bs lw)],FD A t.cols.length c,FD Ar r.length cr] W fun e w'=>e=FF (fV (bB ⟨lc,⟨lk,ln,lw⟩⟩ t.cols r))∧aa [] W w'):=Fk fun W q=>eN ⟨lc,⟨lk,ln,lw⟩⟩ t.cols r A Ar c cr W (HT.out.cols.keep (O.out.trans q)) HT.out.ln (av.keep (O.out.trans q)) (fn.out r I)
  have ba:Hid (∀ W,aa [] wr W→Calls Tryz.prog 98 #[.agg #[FC (bs rc),FH FI rk,FH FI rn,FC (bs J)],FD A t.cols.length c,FD Ar r.length cr] W fun e w'=>e=FF (fV (bB ⟨rc,⟨rk,rn,J⟩⟩ t.cols r))∧aa [] W w'):=Fk fun W q=>eN ⟨rc,⟨rk,rn,J⟩⟩ t.cols r A Ar c cr W (HT.out.cols.keep (O.out.trans q)) HT.out.ln (av.keep (O.out.trans q)) (f4.out r I)
  have b5:=e3.out r I;have b0:=fS.out r I;try simp only at b5
  try simp only at b0
  try simp only at V
  obtain ⟨X,hX⟩:∃ X,bB ⟨lc,⟨lk,ln,lw⟩⟩ t.cols r=X:=⟨_,rfl⟩
  obtain ⟨Y,hY⟩:∃ Y,bB ⟨rc,⟨rk,rn,J⟩⟩ t.cols r=Y:=⟨_,rfl⟩
  rw[hX] at a8 b5 V;rw[hY] at ba b0 V;obtain ⟨xk,xn,xw⟩:=X;obtain ⟨yk,yn,yw⟩:=Y;have f6:Hid (∀ W,aa [] wr W→Calls Tryz.prog 98 #[.agg #[FC (bs lc),FH FI lk,FH FI ln,FC (bs lw)],FD A t.cols.length c,FD Ar r.length cr] W fun e w'=>e=FF (.agg #[FH FI xk,FH FI xn,FC (bs xw)])∧aa [] W w'):=a8;have ff:Hid (∀ W,aa [] wr W→Calls Tryz.prog 98 #[.agg #[FC (bs rc),FH FI rk,FH FI rn,FC (bs J)],FD A t.cols.length c,FD Ar r.length cr] W fun e w'=>e=FF (.agg #[FH FI yk,FH FI yn,FC (bs yw)])∧aa [] W w'):=ba;obtain ⟨br,bz⟩:=b5;obtain ⟨bv,bt⟩:=b0;try simp only at br bz bv bt
  try simp only at V
  have bj:=Fk V;have ca:k<r.length:=by rw[bb];exact e2
  have c6:1≤r.length:=by omega
  have d3:r.length≤4294967296:=by rw[bb];exact f5
  have b9 : -1000000000000000000≤xn*yn∧xn*yn≤1000000000000000000:=vM br bz bv bt;have gi:=b9.1;have f8:=b9.2;have z3:=(a3.out.keep HK.out (by simp)).cell 6;obtain ⟨y0,y1,y2,y3,y4,y5,y6,y7,y8,y9,e9,e8,e7,d9,fz⟩:=oO (a3.out.keep HK.out (by simp));have x0:wr.cell? ⟨bx+1,0,none⟩=some (FD A t.cols.length c):=(a2.out.keep HK.out (by simp)).cell 0;have l1:bx<wr.heap.size:=(a3.out.keep HK.out (by simp)).lt;have l2:bx+1<wr.heap.size:=(a2.out.keep HK.out (by simp)).lt;clear V hX hY hu ez dt c5 cx d7 av b9 I a8 ba z3 bb hr eA;have f9:∀ W,(Instr.field 46 (.agg #[FH FI xk,FH FI xn,FC (bs xw)]) 1).run Tryz.prog W= .ok (FH FI xn) W:=fun W=>by rfl
  have g4:∀ W,(Instr.field 46 (.agg #[FH FI yk,FH FI yn,FC (bs yw)]) 1).run Tryz.prog W= .ok (FH FI yn) W:=fun W=>by rfl
  go_wp2;refine ah (by kernel_rfl) (by kernel_rfl) ?_;repeat (go_big_quiet_step (first|with_reducible exact KW.of f6.out _|with_reducible exact KW.of ff.out _))
  refine wpQuiet_nil ?_;intro w5 b6;have ad:=Fk b6;clear y0 y1 y2 y3 y4 y6 y7 y8 y9 e9 e8 e7 d9 fz x0 l1 l2 d8;replace y5:=b6.cell_of y5 (by simp);clear b6;obtain ⟨N,hN⟩:∃ N,xn+yn=N:=⟨_,rfl⟩
  have HN:=Fk hN;have eY:Hid (jT [43] xn yn=N):=Fk ((fc.out xn yn).trans hN);rw[eY.out] at bj;by_cases Z:1000000000<N
  ·have a4:Hid (CG t.rows []=none):=Fk (by rw[bj.out,if_pos (.inl Z)])
   rw[hN.symm] at Z;clear hN;go_wp2;go_ret2;exact ⟨by rw[a4.out];rfl,O.out.trans ad.out⟩
  by_cases be:N < -1000000000
  ·have a4:Hid (CG t.rows []=none):=Fk (by rw[bj.out,if_pos (.inr be)])
   rw[hN.symm] at Z be;clear hN;go_wp2;go_ret2;exact ⟨by rw[a4.out];rfl,O.out.trans ad.out⟩
  have cn:r.getD k zV=r[k]:=by rw[Fy,Fp ca];rfl
  have a4:Hid (CG t.rows []=CG (t.rows.drop (m+1)) (out++[r.set k ⟨r[k].kind,N,r[k].word⟩])):=Fk (by
   rw[bj.out,if_neg (by rintro (h|h);exact Z h;exact be h),cn])
  have HCL:=Fk (ma r c6 d3 Ar cr w5 (fb.out.keep (O.out.trans ad.out)));have et:=Fk (vL r k ca N);obtain ⟨d2,cD,e0⟩:=ay r k ca;have f2:=Fk cD;rw[hN.symm] at Z be;clear hN cn d2 cD e0;go_wp2_with fail
  refine HCL.out.mono ?_;rintro e w6 ⟨⟨v6,rfl,D⟩,bo⟩;obtain ⟨g,a7,rfl,c8,b3,f7,a0⟩:=fN D c6;have g3:=Fk D;have gc:=Fk bo;have c1:=a0 _ _ f2.out;have f1:=mf D (k*3+1);have gf:=Fk b3;have g1:(0:Int)≤(k:Int):=by omega
  have gm:(k:Int)<(r.length:Int):=by omega
  have c9:=Fk (((ad.out.trans bo)).setCell (p:=⟨g,k*3+1,none⟩) (.inr (Ft ad.out.size b3)) (FH FI N));have dz:=Fk (me (j:=k*3+1) (u:=FH FI N) D);rw[←et.out] at dz;have ey:=Fk (HG.out.keep c9.out);obtain ⟨hs,c0,bm,c3⟩:=ey.out;have e1:=Fk bm;rw[bc.out] at bm;have HO:=Fk bm;have fr:=Fk c3;have eX:=Fk c0;have HQ:Hid ((w6.setCell ⟨g,k*3+1,none⟩ (FH FI N)).ownsRow w3.heap.size 46 3 (FD (some ⟨g,0,none⟩) r.length a7) (r.set k ⟨r[k].kind,N,r[k].word⟩).length (al (r.set k ⟨r[k].kind,N,r[k].word⟩))):=Fk (by
   rw[List.length_set];exact gX dz.out (Ft HK.out.size ad.out.size))
  have gz:w3.heap.size≤w6.heap.size:=Ft (Ft HK.out.size ad.out.size) bo.size;have c4:=Fk (show m+1≤maxLen∧(m+1)*24≤140737488355328 by simp only[maxLen];omega);clear D bo b3 a0 bm c3 c0 c8;have f0:=HN.out;clear HN;subst f0;go_wp2_with (at_builtin;(refine wpList_append_lies _ rfl _ _ 52 rfl w3.heap.size 89 ir _ 1 24 Tryz.underlying52 el c7 cg cm rfl (by decide) _ m hs rfl (HO.out.alloc _) ⟨w6.heap.size,0,none⟩ 1 1 [FD (some ⟨g,0,none⟩) r.length a7] rfl rfl (Fx (iG _ _ _ _)) (by simp[Value.oneCell']) (by decide) c4.out.1 c4.out.2 (by rw[ap,jN];omega) _ rfl ?_);intro gw bX w9 a6 M dr d1)
  have f3:=Fk (((HK.out.trans c9.out).alloc (FG #[FD (some ⟨g,0,none⟩) r.length a7] 89)).grown M (fun g' hg=> .inr (HO.out.lt g' hg).1));have en:Hid (iK w9 w3.heap.size (FD (some ⟨gw,0,none⟩) (m+1) bX) (out++[r.set k ⟨r[k].kind,xn+yn,r[k].word⟩])):=Fk (by
   have h:=gY (W':=w9) (base:=w3.heap.size) (gw:=gw) (cap:=bX) eX.out fr.out e1.out HQ.out M (by rw[bc.out];exact a6);rw[bc.out] at h;exact h)
  have eB:=Fk (a4.out.symm);clear a6 M dr d1;go_wp2;go_roundw
  case rel=>exact ⟨m+1,_,_,rfl,by omega,by go_num,by rw[Fo,bc.out];rfl,en,eB,f3.out⟩
  case measure=>simp[intOf];omega
 obtain rfl:m=t.rows.length:=by omega
 have b1:=dv.out;rw[List.drop_length] at b1;have eb:Hid (CG t.rows []=some out):=Fk (b1.symm.trans (d5.out out));obtain ⟨B6,d6,hv,ds,av⟩:=HG.out.rd;subst hv;have ev:Hid (cC wr (FD B6 out.length d6) out):=Fk ⟨B6,d6,rfl,ds,av⟩;clear b1 ds av HG;go_wp2;go_ret2;exact ⟨by rw[eb.out];exact ⟨_,rfl,em ev.out _⟩,O.out.alloc _⟩
theorem tR (j:Jb) (t:Tb) (k:Nat) (nm:Bs) (A B:Option Addr) (c d:Nat) (Ao:Option Addr) (co:Nat) (Ai:Option Addr) (ni ci:Nat) (Ac:Option Addr) (cc:Nat) (w:World) (hT:aY w t A B c d) (U:j.cols=[nm]) (hk:an t.cols nm=some k) (ch:Rd w [] 1 Ac 1 (strs [nm]))
  (cq:∀ r∈t.rows,r.length=t.cols.length) (dq:∀ r∈t.rows,fO j.left t.cols r) (cu:∀ r∈t.rows,fO j.right t.cols r)
  (cd:∀ r∈t.rows,-1000000000≤(bB j.left t.cols r).num∧(bB j.left t.cols r).num≤1000000000) (dB:∀ r∈t.rows,-1000000000≤(bB j.right t.cols r).num∧(bB j.right t.cols r).num≤1000000000) (hp:j.op=[45]) :
  Calls Tryz.prog 99 #[eH j Ao co Ai ni ci Ac cc,.agg #[FD A t.cols.length c,FD B t.rows.length d]] w fun e w'=>jA (aO j t t.rows []) e w'∧aa [] w w':=by
 obtain ⟨ir,el,c7,cg,cm⟩:=info_parts jt;have e2:k<t.cols.length:=(List.findIdx?_eq_some_iff_getElem.1 hk).1;have hf:=fun W (q:aa [] w W)=>bQ t.cols nm A c W (hT.cols.keep q) hT.ln
 rw[hk] at hf;have HF:Hid (∀ W,aa [] w W→Calls Tryz.prog 89 #[FD A t.cols.length c,FC (bs nm)] W fun e w'=>e=FF (FH FI (k:Int))∧aa [] W w'):=Fk hf;have e6:=Fk (fun m (h:m<t.rows.length) out=>jz j t t.rows m h out);have es:=Fk (fun r=>iF (j:=j) (a:=t) (k:=k) (by rw[U];exact hk) r);have d5:Hid (∀ out,aO j t [] out=some out):=Fk fun out=>rfl
 generalize aO j t=CG at *;generalize bp j t=CR at *;have HT:=Fk hT;have fn:=Fk dq;have f4:=Fk cu;have e3:=Fk cd;have fS:=Fk dB;have ex:=Fk cq;have gl:=hT.lm;have f5:=hT.ln;clear hT dq cu cd dB cq hf hk;obtain ⟨a9,code,outs,js,cols,op,⟨lc,lk,ln,lw⟩,⟨rc,rk,rn,J⟩,H⟩:=j;obtain ⟨no,cz⟩:∃ n,outs.length=n:=⟨_,rfl⟩
 simp only at U;show Calls _ _ #[.agg #[FH FI a9,FH FI code,FD Ao outs.length co,FD Ai ni ci,FD Ac cols.length cc,FC (bs op),FC (bs lc),FH FI lk,FH FI ln,FC (bs lw),FC (bs rc),FH FI rk,FH FI rn,FC (bs J),FH FI H],.agg #[FD A t.cols.length c,FD B t.rows.length d]] w _;rw[cz,show cols.length=1 by rw[U];rfl];have fs:op=[45]∨True:= .inr trivial;subst hp;have fc:Hid (∀ x y,jT [45] x y=x-y):=Fk (fun x y=>by unfold jT;rfl);skip
 obtain ⟨b4,o4,e4,_,g0,bq⟩:=ch.open' (by omega) (by decide);have d4:w.cell? ⟨b4,o4,none⟩=some (FC (bs nm)):=bq 0 _ rfl;subst e4;have bk:Hid (aa [] w ((w.alloc (FG #[FH FI a9,FH FI code,FD Ao no co,FD Ai ni ci,FD (some ⟨b4,o4,none⟩) 1 cc,FC (bs [45]),FC (bs lc),FH FI lk,FH FI ln,FC (bs lw),FC (bs rc),FH FI rk,FH FI rn,FC (bs J),FH FI H] 50)).alloc (FG #[FD A t.cols.length c,FD B t.rows.length d] 54))):=Fk (((Fz _ _).alloc _).alloc _);have a1:=Fk (ao.alloc (FA w 50 #[FH FI a9,FH FI code,FD Ao no co,FD Ai ni ci,FD (some ⟨b4,o4,none⟩) 1 cc,FC (bs [45]),FC (bs lc),FH FI lk,FH FI ln,FC (bs lw),FC (bs rc),FH FI rk,FH FI rn,FC (bs J),FH FI H]) (FG #[FD A t.cols.length c,FD B t.rows.length d] 54));have aA:=Fk (FA (w.alloc (FG #[FH FI a9,FH FI code,FD Ao no co,FD Ai ni ci,FD (some ⟨b4,o4,none⟩) 1 cc,FC (bs [45]),FC (bs lc),FH FI lk,FH FI ln,FC (bs lw),FC (bs rc),FH FI rk,FH FI rn,FC (bs J),FH FI H] 50)) 54 #[FD A t.cols.length c,FD B t.rows.length d]);rw[ap] at aA;have bZ:=Fk (bk.out.cell_of d4 (by simp));clear ch bq d4 U cz fs;go_enter Tryz.func99,Tryz.ntmps99
 go_wp2;obtain ⟨w2,cv⟩:∃ w2,((w.alloc (FG #[FH FI a9,FH FI code,FD Ao no co,FD Ai ni ci,FD (some ⟨b4,o4,none⟩) 1 cc,FC (bs [45]),FC (bs lc),FH FI lk,FH FI ln,FC (bs lw),FC (bs rc),FH FI rk,FH FI rn,FC (bs J),FH FI H] 50)).alloc (FG #[FD A t.cols.length c,FD B t.rows.length d] 54))=w2:=⟨_,rfl⟩
 rw[cv] at bk a1 aA bZ ⊢;obtain ⟨bx,cj⟩:∃ bx,w.heap.size=bx:=⟨_,rfl⟩
 rw[cj] at a1 aA ⊢;clear cv cj;have ce:Hid (∀ W,aa [] w2 W→Calls Tryz.prog 89 #[FD A t.cols.length c,FC (bs nm)] W fun e w'=>e=FF (FH FI (k:Int))∧aa [] W w'):=Fk (fun W q=>HF.out W (bk.out.trans q));have y4:w2.cell? ⟨bx,4,none⟩=some (FD (some ⟨b4,o4,none⟩) 1 cc):=a1.out.cell 4;have y0:w2.cell? ⟨bx+1,0,none⟩=some (FD A t.cols.length c):=aA.out.cell 0;have y8:=bZ.out;have l1:bx<w2.heap.size:=a1.out.lt;have l2:bx+1<w2.heap.size:=aA.out.lt;have l3:b4<w2.heap.size:=Fq _ _ y8;refine ah (by kernel_rfl) (by kernel_rfl) ?_;repeat (go_big_quiet_step (first|with_reducible exact KW.of ce.out _))
 refine wpQuiet_nil ?_;intro w3 a5;have g2:=Fk a5;have e5:=Fk (bk.out.trans a5);have a3:=Fk (a1.out.keep a5 (by simp));have a2:=Fk (aA.out.keep a5 (by simp));clear a5 y4 y0 y8 l1 l2 l3 ce HF a1 aA bZ;have y1:w3.cell? ⟨bx+1,1,none⟩=some (FD B t.rows.length d):=a2.out.cell 1;go_wp2;clear y1;go_loopw [7,23] (fun u i wx=>∃ (m:Nat) (v:Value) (out:List (List Vl)),v=u∧m≤t.rows.length∧i=FH FI m∧out.length=m∧Hid (iK wx w3.heap.size v out)∧Hid (CG (t.rows.drop m) out=CG t.rows [])∧aa [] w3 wx) (fun _ i _=>t.rows.length-(intOf i).toNat)
 case atStart=>exact ⟨0,_,[],rfl,Fu _,rfl,rfl,iK.nil _ _,Fk rfl,Fz _ _⟩
 obtain ⟨m,v,out,rfl,hm,rfl,cy,HG,dv,hk⟩:=hrel;have bc:=Fk cy;have HK:=Fk hk;have O:=Fk (e5.out.trans hk);clear hk cy;by_cases b8:m<t.rows.length
 ·obtain ⟨us,ez,dt,c5⟩:=HT.out.rows
  have d0:m<us.length:=by omega
  have ct:=c5 m d0 b8;obtain ⟨b7,o7,er,_,gk,cx⟩:=dt.open' (by omega) (by omega);have d7:=cx (m*1) us[m] (by rw[Nat.mul_one];exact Fp d0);rw[Nat.mul_one] at d7;have I:t.rows[m]∈t.rows:=Fs b8;have V:=e6.out m b8 out;rw[dv.out,es.out] at V;have bb:=ex.out _ I;obtain ⟨r,hr⟩:∃ r,t.rows[m]=r:=⟨_,rfl⟩
  rw[hr] at ct I bb V;obtain ⟨Ar,cr,hu,eA,av⟩:=ct;rw[hu] at d7;have d8:=O.out.cell_of d7 (by simp);subst er;have fb:=Fk av;have a8:Hid (∀ W,aa [] wr W→Calls Tryz.prog 98 #[.agg #[FC (bs lc),FH FI lk,FH FI ln,FC (bs lw)],FD A t.cols.length c,FD Ar r.length cr] W fun e w'=>e=FF (fV (bB ⟨lc,⟨lk,ln,lw⟩⟩ t.cols r))∧aa [] W w'):=Fk fun W q=>eN ⟨lc,⟨lk,ln,lw⟩⟩ t.cols r A Ar c cr W (HT.out.cols.keep (O.out.trans q)) HT.out.ln (av.keep (O.out.trans q)) (fn.out r I)
  have ba:Hid (∀ W,aa [] wr W→Calls Tryz.prog 98 #[.agg #[FC (bs rc),FH FI rk,FH FI rn,FC (bs J)],FD A t.cols.length c,FD Ar r.length cr] W fun e w'=>e=FF (fV (bB ⟨rc,⟨rk,rn,J⟩⟩ t.cols r))∧aa [] W w'):=Fk fun W q=>eN ⟨rc,⟨rk,rn,J⟩⟩ t.cols r A Ar c cr W (HT.out.cols.keep (O.out.trans q)) HT.out.ln (av.keep (O.out.trans q)) (f4.out r I)
  have b5:=e3.out r I;have b0:=fS.out r I;try simp only at b5
  try simp only at b0
  try simp only at V
  obtain ⟨X,hX⟩:∃ X,bB ⟨lc,⟨lk,ln,lw⟩⟩ t.cols r=X:=⟨_,rfl⟩
  obtain ⟨Y,hY⟩:∃ Y,bB ⟨rc,⟨rk,rn,J⟩⟩ t.cols r=Y:=⟨_,rfl⟩
  rw[hX] at a8 b5 V;rw[hY] at ba b0 V;obtain ⟨xk,xn,xw⟩:=X;obtain ⟨yk,yn,yw⟩:=Y;have f6:Hid (∀ W,aa [] wr W→Calls Tryz.prog 98 #[.agg #[FC (bs lc),FH FI lk,FH FI ln,FC (bs lw)],FD A t.cols.length c,FD Ar r.length cr] W fun e w'=>e=FF (.agg #[FH FI xk,FH FI xn,FC (bs xw)])∧aa [] W w'):=a8;have ff:Hid (∀ W,aa [] wr W→Calls Tryz.prog 98 #[.agg #[FC (bs rc),FH FI rk,FH FI rn,FC (bs J)],FD A t.cols.length c,FD Ar r.length cr] W fun e w'=>e=FF (.agg #[FH FI yk,FH FI yn,FC (bs yw)])∧aa [] W w'):=ba;obtain ⟨br,bz⟩:=b5;obtain ⟨bv,bt⟩:=b0;try simp only at br bz bv bt
  try simp only at V
  have bj:=Fk V;have ca:k<r.length:=by rw[bb];exact e2
  have c6:1≤r.length:=by omega
  have d3:r.length≤4294967296:=by rw[bb];exact f5
  have b9 : -1000000000000000000≤xn*yn∧xn*yn≤1000000000000000000:=vM br bz bv bt;have gi:=b9.1;have f8:=b9.2;have z3:=(a3.out.keep HK.out (by simp)).cell 6;obtain ⟨y0,y1,y2,y3,y4,y5,y6,y7,y8,y9,e9,e8,e7,d9,fz⟩:=oO (a3.out.keep HK.out (by simp));have x0:wr.cell? ⟨bx+1,0,none⟩=some (FD A t.cols.length c):=(a2.out.keep HK.out (by simp)).cell 0;have l1:bx<wr.heap.size:=(a3.out.keep HK.out (by simp)).lt;have l2:bx+1<wr.heap.size:=(a2.out.keep HK.out (by simp)).lt;clear V hX hY hu ez dt c5 cx d7 av b9 I a8 ba z3 bb hr eA;have f9:∀ W,(Instr.field 46 (.agg #[FH FI xk,FH FI xn,FC (bs xw)]) 1).run Tryz.prog W= .ok (FH FI xn) W:=fun W=>by rfl
  have g4:∀ W,(Instr.field 46 (.agg #[FH FI yk,FH FI yn,FC (bs yw)]) 1).run Tryz.prog W= .ok (FH FI yn) W:=fun W=>by rfl
  go_wp2;refine ah (by kernel_rfl) (by kernel_rfl) ?_;repeat (go_big_quiet_step (first|with_reducible exact KW.of f6.out _|with_reducible exact KW.of ff.out _))
  refine wpQuiet_nil ?_;intro w5 b6;have ad:=Fk b6;clear y0 y1 y2 y3 y4 y6 y7 y8 y9 e9 e8 e7 d9 fz x0 l1 l2 d8;replace y5:=b6.cell_of y5 (by simp);clear b6;obtain ⟨N,hN⟩:∃ N,xn-yn=N:=⟨_,rfl⟩
  have HN:=Fk hN;have eY:Hid (jT [45] xn yn=N):=Fk ((fc.out xn yn).trans hN);rw[eY.out] at bj;by_cases Z:1000000000<N
  ·have a4:Hid (CG t.rows []=none):=Fk (by rw[bj.out,if_pos (.inl Z)])
   rw[hN.symm] at Z;clear hN;go_wp2;go_ret2;exact ⟨by rw[a4.out];rfl,O.out.trans ad.out⟩
  by_cases be:N < -1000000000
  ·have a4:Hid (CG t.rows []=none):=Fk (by rw[bj.out,if_pos (.inr be)])
   rw[hN.symm] at Z be;clear hN;go_wp2;go_ret2;exact ⟨by rw[a4.out];rfl,O.out.trans ad.out⟩
  have cn:r.getD k zV=r[k]:=by rw[Fy,Fp ca];rfl
  have a4:Hid (CG t.rows []=CG (t.rows.drop (m+1)) (out++[r.set k ⟨r[k].kind,N,r[k].word⟩])):=Fk (by
   rw[bj.out,if_neg (by rintro (h|h);exact Z h;exact be h),cn])
  have HCL:=Fk (ma r c6 d3 Ar cr w5 (fb.out.keep (O.out.trans ad.out)));have et:=Fk (vL r k ca N);obtain ⟨d2,cD,e0⟩:=ay r k ca;have f2:=Fk cD;rw[hN.symm] at Z be;clear hN cn d2 cD e0;go_wp2_with fail
  refine HCL.out.mono ?_;rintro e w6 ⟨⟨v6,rfl,D⟩,bo⟩;obtain ⟨g,a7,rfl,c8,b3,f7,a0⟩:=fN D c6;have g3:=Fk D;have gc:=Fk bo;have c1:=a0 _ _ f2.out;have f1:=mf D (k*3+1);have gf:=Fk b3;have g1:(0:Int)≤(k:Int):=by omega
  have gm:(k:Int)<(r.length:Int):=by omega
  have c9:=Fk (((ad.out.trans bo)).setCell (p:=⟨g,k*3+1,none⟩) (.inr (Ft ad.out.size b3)) (FH FI N));have dz:=Fk (me (j:=k*3+1) (u:=FH FI N) D);rw[←et.out] at dz;have ey:=Fk (HG.out.keep c9.out);obtain ⟨hs,c0,bm,c3⟩:=ey.out;have e1:=Fk bm;rw[bc.out] at bm;have HO:=Fk bm;have fr:=Fk c3;have eX:=Fk c0;have HQ:Hid ((w6.setCell ⟨g,k*3+1,none⟩ (FH FI N)).ownsRow w3.heap.size 46 3 (FD (some ⟨g,0,none⟩) r.length a7) (r.set k ⟨r[k].kind,N,r[k].word⟩).length (al (r.set k ⟨r[k].kind,N,r[k].word⟩))):=Fk (by
   rw[List.length_set];exact gX dz.out (Ft HK.out.size ad.out.size))
  have gz:w3.heap.size≤w6.heap.size:=Ft (Ft HK.out.size ad.out.size) bo.size;have c4:=Fk (show m+1≤maxLen∧(m+1)*24≤140737488355328 by simp only[maxLen];omega);clear D bo b3 a0 bm c3 c0 c8;have f0:=HN.out;clear HN;subst f0;go_wp2_with (at_builtin;(refine wpList_append_lies _ rfl _ _ 52 rfl w3.heap.size 89 ir _ 1 24 Tryz.underlying52 el c7 cg cm rfl (by decide) _ m hs rfl (HO.out.alloc _) ⟨w6.heap.size,0,none⟩ 1 1 [FD (some ⟨g,0,none⟩) r.length a7] rfl rfl (Fx (iG _ _ _ _)) (by simp[Value.oneCell']) (by decide) c4.out.1 c4.out.2 (by rw[ap,jN];omega) _ rfl ?_);intro gw bX w9 a6 M dr d1)
  have f3:=Fk (((HK.out.trans c9.out).alloc (FG #[FD (some ⟨g,0,none⟩) r.length a7] 89)).grown M (fun g' hg=> .inr (HO.out.lt g' hg).1));have en:Hid (iK w9 w3.heap.size (FD (some ⟨gw,0,none⟩) (m+1) bX) (out++[r.set k ⟨r[k].kind,xn-yn,r[k].word⟩])):=Fk (by
   have h:=gY (W':=w9) (base:=w3.heap.size) (gw:=gw) (cap:=bX) eX.out fr.out e1.out HQ.out M (by rw[bc.out];exact a6);rw[bc.out] at h;exact h)
  have eB:=Fk (a4.out.symm);clear a6 M dr d1;go_wp2;go_roundw
  case rel=>exact ⟨m+1,_,_,rfl,by omega,by go_num,by rw[Fo,bc.out];rfl,en,eB,f3.out⟩
  case measure=>simp[intOf];omega
 obtain rfl:m=t.rows.length:=by omega
 have b1:=dv.out;rw[List.drop_length] at b1;have eb:Hid (CG t.rows []=some out):=Fk (b1.symm.trans (d5.out out));obtain ⟨B6,d6,hv,ds,av⟩:=HG.out.rd;subst hv;have ev:Hid (cC wr (FD B6 out.length d6) out):=Fk ⟨B6,d6,rfl,ds,av⟩;clear b1 ds av HG;go_wp2;go_ret2;exact ⟨by rw[eb.out];exact ⟨_,rfl,em ev.out _⟩,O.out.alloc _⟩
theorem tS (j:Jb) (t:Tb) (k:Nat) (nm:Bs) (A B:Option Addr) (c d:Nat) (Ao:Option Addr) (co:Nat) (Ai:Option Addr) (ni ci:Nat) (Ac:Option Addr) (cc:Nat) (w:World) (hT:aY w t A B c d) (U:j.cols=[nm]) (hk:an t.cols nm=some k) (ch:Rd w [] 1 Ac 1 (strs [nm]))
  (cq:∀ r∈t.rows,r.length=t.cols.length) (dq:∀ r∈t.rows,fO j.left t.cols r) (cu:∀ r∈t.rows,fO j.right t.cols r)
  (cd:∀ r∈t.rows,-1000000000≤(bB j.left t.cols r).num∧(bB j.left t.cols r).num≤1000000000) (dB:∀ r∈t.rows,-1000000000≤(bB j.right t.cols r).num∧(bB j.right t.cols r).num≤1000000000) (hp:j.op≠[43]) (hm:j.op≠[45]) :
  Calls Tryz.prog 99 #[eH j Ao co Ai ni ci Ac cc,.agg #[FD A t.cols.length c,FD B t.rows.length d]] w fun e w'=>jA (aO j t t.rows []) e w'∧aa [] w w':=by
 obtain ⟨ir,el,c7,cg,cm⟩:=info_parts jt;have e2:k<t.cols.length:=(List.findIdx?_eq_some_iff_getElem.1 hk).1;have hf:=fun W (q:aa [] w W)=>bQ t.cols nm A c W (hT.cols.keep q) hT.ln
 rw[hk] at hf;have HF:Hid (∀ W,aa [] w W→Calls Tryz.prog 89 #[FD A t.cols.length c,FC (bs nm)] W fun e w'=>e=FF (FH FI (k:Int))∧aa [] W w'):=Fk hf;have e6:=Fk (fun m (h:m<t.rows.length) out=>jz j t t.rows m h out);have es:=Fk (fun r=>iF (j:=j) (a:=t) (k:=k) (by rw[U];exact hk) r);have d5:Hid (∀ out,aO j t [] out=some out):=Fk fun out=>rfl
 generalize aO j t=CG at *;generalize bp j t=CR at *;have HT:=Fk hT;have fn:=Fk dq;have f4:=Fk cu;have e3:=Fk cd;have fS:=Fk dB;have ex:=Fk cq;have gl:=hT.lm;have f5:=hT.ln;clear hT dq cu cd dB cq hf hk;obtain ⟨a9,code,outs,js,cols,op,⟨lc,lk,ln,lw⟩,⟨rc,rk,rn,J⟩,H⟩:=j;obtain ⟨no,cz⟩:∃ n,outs.length=n:=⟨_,rfl⟩
 simp only at U;show Calls _ _ #[.agg #[FH FI a9,FH FI code,FD Ao outs.length co,FD Ai ni ci,FD Ac cols.length cc,FC (bs op),FC (bs lc),FH FI lk,FH FI ln,FC (bs lw),FC (bs rc),FH FI rk,FH FI rn,FC (bs J),FH FI H],.agg #[FD A t.cols.length c,FD B t.rows.length d]] w _;rw[cz,show cols.length=1 by rw[U];rfl];have fs:op=op∨True:= .inr trivial;have t1:(op==[43])=false:=by rw[beq_eq_false_iff_ne];exact hp
 have t2:(op==[45])=false:=by rw[beq_eq_false_iff_ne];exact hm
 have fc:Hid (∀ x y,jT op x y=x*y):=Fk (fun x y=>by unfold jT;rw[if_neg hp,if_neg hm]);clear hp hm;obtain ⟨b4,o4,e4,_,g0,bq⟩:=ch.open' (by omega) (by decide);have d4:w.cell? ⟨b4,o4,none⟩=some (FC (bs nm)):=bq 0 _ rfl;subst e4;have bk:Hid (aa [] w ((w.alloc (FG #[FH FI a9,FH FI code,FD Ao no co,FD Ai ni ci,FD (some ⟨b4,o4,none⟩) 1 cc,FC (bs op),FC (bs lc),FH FI lk,FH FI ln,FC (bs lw),FC (bs rc),FH FI rk,FH FI rn,FC (bs J),FH FI H] 50)).alloc (FG #[FD A t.cols.length c,FD B t.rows.length d] 54))):=Fk (((Fz _ _).alloc _).alloc _);have a1:=Fk (ao.alloc (FA w 50 #[FH FI a9,FH FI code,FD Ao no co,FD Ai ni ci,FD (some ⟨b4,o4,none⟩) 1 cc,FC (bs op),FC (bs lc),FH FI lk,FH FI ln,FC (bs lw),FC (bs rc),FH FI rk,FH FI rn,FC (bs J),FH FI H]) (FG #[FD A t.cols.length c,FD B t.rows.length d] 54));have aA:=Fk (FA (w.alloc (FG #[FH FI a9,FH FI code,FD Ao no co,FD Ai ni ci,FD (some ⟨b4,o4,none⟩) 1 cc,FC (bs op),FC (bs lc),FH FI lk,FH FI ln,FC (bs lw),FC (bs rc),FH FI rk,FH FI rn,FC (bs J),FH FI H] 50)) 54 #[FD A t.cols.length c,FD B t.rows.length d]);rw[ap] at aA;have bZ:=Fk (bk.out.cell_of d4 (by simp));clear ch bq d4 U cz fs;go_enter Tryz.func99,Tryz.ntmps99
 go_wp2;obtain ⟨w2,cv⟩:∃ w2,((w.alloc (FG #[FH FI a9,FH FI code,FD Ao no co,FD Ai ni ci,FD (some ⟨b4,o4,none⟩) 1 cc,FC (bs op),FC (bs lc),FH FI lk,FH FI ln,FC (bs lw),FC (bs rc),FH FI rk,FH FI rn,FC (bs J),FH FI H] 50)).alloc (FG #[FD A t.cols.length c,FD B t.rows.length d] 54))=w2:=⟨_,rfl⟩
 rw[cv] at bk a1 aA bZ ⊢;obtain ⟨bx,cj⟩:∃ bx,w.heap.size=bx:=⟨_,rfl⟩
 rw[cj] at a1 aA ⊢;clear cv cj;have ce:Hid (∀ W,aa [] w2 W→Calls Tryz.prog 89 #[FD A t.cols.length c,FC (bs nm)] W fun e w'=>e=FF (FH FI (k:Int))∧aa [] W w'):=Fk (fun W q=>HF.out W (bk.out.trans q));have y4:w2.cell? ⟨bx,4,none⟩=some (FD (some ⟨b4,o4,none⟩) 1 cc):=a1.out.cell 4;have y0:w2.cell? ⟨bx+1,0,none⟩=some (FD A t.cols.length c):=aA.out.cell 0;have y8:=bZ.out;have l1:bx<w2.heap.size:=a1.out.lt;have l2:bx+1<w2.heap.size:=aA.out.lt;have l3:b4<w2.heap.size:=Fq _ _ y8;refine ah (by kernel_rfl) (by kernel_rfl) ?_;repeat (go_big_quiet_step (first|with_reducible exact KW.of ce.out _))
 refine wpQuiet_nil ?_;intro w3 a5;have g2:=Fk a5;have e5:=Fk (bk.out.trans a5);have a3:=Fk (a1.out.keep a5 (by simp));have a2:=Fk (aA.out.keep a5 (by simp));clear a5 y4 y0 y8 l1 l2 l3 ce HF a1 aA bZ;have y1:w3.cell? ⟨bx+1,1,none⟩=some (FD B t.rows.length d):=a2.out.cell 1;go_wp2;clear y1;go_loopw [7,23] (fun u i wx=>∃ (m:Nat) (v:Value) (out:List (List Vl)),v=u∧m≤t.rows.length∧i=FH FI m∧out.length=m∧Hid (iK wx w3.heap.size v out)∧Hid (CG (t.rows.drop m) out=CG t.rows [])∧aa [] w3 wx) (fun _ i _=>t.rows.length-(intOf i).toNat)
 case atStart=>exact ⟨0,_,[],rfl,Fu _,rfl,rfl,iK.nil _ _,Fk rfl,Fz _ _⟩
 obtain ⟨m,v,out,rfl,hm,rfl,cy,HG,dv,hk⟩:=hrel;have bc:=Fk cy;have HK:=Fk hk;have O:=Fk (e5.out.trans hk);clear hk cy;by_cases b8:m<t.rows.length
 ·obtain ⟨us,ez,dt,c5⟩:=HT.out.rows
  have d0:m<us.length:=by omega
  have ct:=c5 m d0 b8;obtain ⟨b7,o7,er,_,gk,cx⟩:=dt.open' (by omega) (by omega);have d7:=cx (m*1) us[m] (by rw[Nat.mul_one];exact Fp d0);rw[Nat.mul_one] at d7;have I:t.rows[m]∈t.rows:=Fs b8;have V:=e6.out m b8 out;rw[dv.out,es.out] at V;have bb:=ex.out _ I;obtain ⟨r,hr⟩:∃ r,t.rows[m]=r:=⟨_,rfl⟩
  rw[hr] at ct I bb V;obtain ⟨Ar,cr,hu,eA,av⟩:=ct;rw[hu] at d7;have d8:=O.out.cell_of d7 (by simp);subst er;have fb:=Fk av;have a8:Hid (∀ W,aa [] wr W→Calls Tryz.prog 98 #[.agg #[FC (bs lc),FH FI lk,FH FI ln,FC (bs lw)],FD A t.cols.length c,FD Ar r.length cr] W fun e w'=>e=FF (fV (bB ⟨lc,⟨lk,ln,lw⟩⟩ t.cols r))∧aa [] W w'):=Fk fun W q=>eN ⟨lc,⟨lk,ln,lw⟩⟩ t.cols r A Ar c cr W (HT.out.cols.keep (O.out.trans q)) HT.out.ln (av.keep (O.out.trans q)) (fn.out r I)
  have ba:Hid (∀ W,aa [] wr W→Calls Tryz.prog 98 #[.agg #[FC (bs rc),FH FI rk,FH FI rn,FC (bs J)],FD A t.cols.length c,FD Ar r.length cr] W fun e w'=>e=FF (fV (bB ⟨rc,⟨rk,rn,J⟩⟩ t.cols r))∧aa [] W w'):=Fk fun W q=>eN ⟨rc,⟨rk,rn,J⟩⟩ t.cols r A Ar c cr W (HT.out.cols.keep (O.out.trans q)) HT.out.ln (av.keep (O.out.trans q)) (f4.out r I)
  have b5:=e3.out r I;have b0:=fS.out r I;try simp only at b5
  try simp only at b0
  try simp only at V
  obtain ⟨X,hX⟩:∃ X,bB ⟨lc,⟨lk,ln,lw⟩⟩ t.cols r=X:=⟨_,rfl⟩
  obtain ⟨Y,hY⟩:∃ Y,bB ⟨rc,⟨rk,rn,J⟩⟩ t.cols r=Y:=⟨_,rfl⟩
  rw[hX] at a8 b5 V;rw[hY] at ba b0 V;obtain ⟨xk,xn,xw⟩:=X;obtain ⟨yk,yn,yw⟩:=Y;have f6:Hid (∀ W,aa [] wr W→Calls Tryz.prog 98 #[.agg #[FC (bs lc),FH FI lk,FH FI ln,FC (bs lw)],FD A t.cols.length c,FD Ar r.length cr] W fun e w'=>e=FF (.agg #[FH FI xk,FH FI xn,FC (bs xw)])∧aa [] W w'):=a8;have ff:Hid (∀ W,aa [] wr W→Calls Tryz.prog 98 #[.agg #[FC (bs rc),FH FI rk,FH FI rn,FC (bs J)],FD A t.cols.length c,FD Ar r.length cr] W fun e w'=>e=FF (.agg #[FH FI yk,FH FI yn,FC (bs yw)])∧aa [] W w'):=ba;obtain ⟨br,bz⟩:=b5;obtain ⟨bv,bt⟩:=b0;try simp only at br bz bv bt
  try simp only at V
  have bj:=Fk V;have ca:k<r.length:=by rw[bb];exact e2
  have c6:1≤r.length:=by omega
  have d3:r.length≤4294967296:=by rw[bb];exact f5
  have b9 : -1000000000000000000≤xn*yn∧xn*yn≤1000000000000000000:=vM br bz bv bt;have gi:=b9.1;have f8:=b9.2;have z3:=(a3.out.keep HK.out (by simp)).cell 6;obtain ⟨y0,y1,y2,y3,y4,y5,y6,y7,y8,y9,e9,e8,e7,d9,fz⟩:=oO (a3.out.keep HK.out (by simp));have x0:wr.cell? ⟨bx+1,0,none⟩=some (FD A t.cols.length c):=(a2.out.keep HK.out (by simp)).cell 0;have l1:bx<wr.heap.size:=(a3.out.keep HK.out (by simp)).lt;have l2:bx+1<wr.heap.size:=(a2.out.keep HK.out (by simp)).lt;clear V hX hY hu ez dt c5 cx d7 av b9 I a8 ba z3 bb hr eA;have f9:∀ W,(Instr.field 46 (.agg #[FH FI xk,FH FI xn,FC (bs xw)]) 1).run Tryz.prog W= .ok (FH FI xn) W:=fun W=>by rfl
  have g4:∀ W,(Instr.field 46 (.agg #[FH FI yk,FH FI yn,FC (bs yw)]) 1).run Tryz.prog W= .ok (FH FI yn) W:=fun W=>by rfl
  go_wp2;refine ah (by kernel_rfl) (by kernel_rfl) ?_;repeat (go_big_quiet_step (first|with_reducible exact KW.of f6.out _|with_reducible exact KW.of ff.out _))
  refine wpQuiet_nil ?_;intro w5 b6;have ad:=Fk b6;clear y0 y1 y2 y3 y4 y6 y7 y8 y9 e9 e8 e7 d9 fz x0 l1 l2 d8;replace y5:=b6.cell_of y5 (by simp);clear b6;obtain ⟨N,hN⟩:∃ N,xn*yn=N:=⟨_,rfl⟩
  have HN:=Fk hN;have eY:Hid (jT op xn yn=N):=Fk ((fc.out xn yn).trans hN);rw[eY.out] at bj;by_cases Z:1000000000<N
  ·have a4:Hid (CG t.rows []=none):=Fk (by rw[bj.out,if_pos (.inl Z)])
   rw[hN.symm] at Z;clear hN;go_wp2;go_ret2;exact ⟨by rw[a4.out];rfl,O.out.trans ad.out⟩
  by_cases be:N < -1000000000
  ·have a4:Hid (CG t.rows []=none):=Fk (by rw[bj.out,if_pos (.inr be)])
   rw[hN.symm] at Z be;clear hN;go_wp2;go_ret2;exact ⟨by rw[a4.out];rfl,O.out.trans ad.out⟩
  have cn:r.getD k zV=r[k]:=by rw[Fy,Fp ca];rfl
  have a4:Hid (CG t.rows []=CG (t.rows.drop (m+1)) (out++[r.set k ⟨r[k].kind,N,r[k].word⟩])):=Fk (by
   rw[bj.out,if_neg (by rintro (h|h);exact Z h;exact be h),cn])
  have HCL:=Fk (ma r c6 d3 Ar cr w5 (fb.out.keep (O.out.trans ad.out)));have et:=Fk (vL r k ca N);obtain ⟨d2,cD,e0⟩:=ay r k ca;have f2:=Fk cD;rw[hN.symm] at Z be;clear hN cn d2 cD e0;go_wp2_with fail
  refine HCL.out.mono ?_;rintro e w6 ⟨⟨v6,rfl,D⟩,bo⟩;obtain ⟨g,a7,rfl,c8,b3,f7,a0⟩:=fN D c6;have g3:=Fk D;have gc:=Fk bo;have c1:=a0 _ _ f2.out;have f1:=mf D (k*3+1);have gf:=Fk b3;have g1:(0:Int)≤(k:Int):=by omega
  have gm:(k:Int)<(r.length:Int):=by omega
  have c9:=Fk (((ad.out.trans bo)).setCell (p:=⟨g,k*3+1,none⟩) (.inr (Ft ad.out.size b3)) (FH FI N));have dz:=Fk (me (j:=k*3+1) (u:=FH FI N) D);rw[←et.out] at dz;have ey:=Fk (HG.out.keep c9.out);obtain ⟨hs,c0,bm,c3⟩:=ey.out;have e1:=Fk bm;rw[bc.out] at bm;have HO:=Fk bm;have fr:=Fk c3;have eX:=Fk c0;have HQ:Hid ((w6.setCell ⟨g,k*3+1,none⟩ (FH FI N)).ownsRow w3.heap.size 46 3 (FD (some ⟨g,0,none⟩) r.length a7) (r.set k ⟨r[k].kind,N,r[k].word⟩).length (al (r.set k ⟨r[k].kind,N,r[k].word⟩))):=Fk (by
   rw[List.length_set];exact gX dz.out (Ft HK.out.size ad.out.size))
  have gz:w3.heap.size≤w6.heap.size:=Ft (Ft HK.out.size ad.out.size) bo.size;have c4:=Fk (show m+1≤maxLen∧(m+1)*24≤140737488355328 by simp only[maxLen];omega);clear D bo b3 a0 bm c3 c0 c8;have f0:=HN.out;clear HN;subst f0;go_wp2_with (at_builtin;(refine wpList_append_lies _ rfl _ _ 52 rfl w3.heap.size 89 ir _ 1 24 Tryz.underlying52 el c7 cg cm rfl (by decide) _ m hs rfl (HO.out.alloc _) ⟨w6.heap.size,0,none⟩ 1 1 [FD (some ⟨g,0,none⟩) r.length a7] rfl rfl (Fx (iG _ _ _ _)) (by simp[Value.oneCell']) (by decide) c4.out.1 c4.out.2 (by rw[ap,jN];omega) _ rfl ?_);intro gw bX w9 a6 M dr d1)
  have f3:=Fk (((HK.out.trans c9.out).alloc (FG #[FD (some ⟨g,0,none⟩) r.length a7] 89)).grown M (fun g' hg=> .inr (HO.out.lt g' hg).1));have en:Hid (iK w9 w3.heap.size (FD (some ⟨gw,0,none⟩) (m+1) bX) (out++[r.set k ⟨r[k].kind,xn*yn,r[k].word⟩])):=Fk (by
   have h:=gY (W':=w9) (base:=w3.heap.size) (gw:=gw) (cap:=bX) eX.out fr.out e1.out HQ.out M (by rw[bc.out];exact a6);rw[bc.out] at h;exact h)
  have eB:=Fk (a4.out.symm);clear a6 M dr d1;go_wp2;go_roundw
  case rel=>exact ⟨m+1,_,_,rfl,by omega,by go_num,by rw[Fo,bc.out];rfl,en,eB,f3.out⟩
  case measure=>simp[intOf];omega
 obtain rfl:m=t.rows.length:=by omega
 have b1:=dv.out;rw[List.drop_length] at b1;have eb:Hid (CG t.rows []=some out):=Fk (b1.symm.trans (d5.out out));obtain ⟨B6,d6,hv,ds,av⟩:=HG.out.rd;subst hv;have ev:Hid (cC wr (FD B6 out.length d6) out):=Fk ⟨B6,d6,rfl,ds,av⟩;clear b1 ds av HG;go_wp2;go_ret2;exact ⟨by rw[eb.out];exact ⟨_,rfl,em ev.out _⟩,O.out.alloc _⟩
end
section
open Go.RowKit Go.BigFrame
attribute [local go_sem] ag ab ae af KW.cell
def jB (p:Vl×Vl):Array Value:= #[FH FI p.1.kind,FH FI p.1.num,FC (bs p.1.word),FH FI p.2.kind,FH FI p.2.num,FC (bs p.2.word)]
def gV (g:Nat):Value:=FD (some ⟨g,0,none⟩) 2 2
def tT (base:Nat) (W:World) (v:Value) (gs:List (Vl×Vl)):Prop :=
 ∃ G:List Nat,G.length=gs.length∧G.Nodup∧W.ownsRow base 89 1 v gs.length (G.map gV)∧∀ i (h:i<G.length) (h':i<gs.length),base≤G[i]∧ao W G[i] 46 (jB gs[i])
theorem tT.nil (base:Nat) (W:World):tT base W (FD none 0 0) []:=⟨[],rfl,List.nodup_nil,World.ownsRow_nil _ _ _ _,fun i h=>by cases h⟩
theorem tT.keep {base:Nat} {W W':World} {v:Value} {gs:List (Vl×Vl)} (h:tT base W v gs) (H:aa [] W W'):tT base W' v gs:=by
 obtain ⟨G,J,M,I,D⟩:=h;exact ⟨G,J,M,aE I H (fun _ _=>by simp),fun i a b=>⟨(D i a b).1,(D i a b).2.keep H (by simp)⟩⟩
theorem tT.last {base:Nat} {W:World} {v:Value} {gs:List (Vl×Vl)} {z:Vl×Vl} (h:tT base W v (gs++[z])):∃ gv cap I,v=FD (some ⟨gv,0,none⟩) (gs.length+1) cap∧gv<W.heap.size∧base≤I∧W.cell? ⟨gv,gs.length,none⟩=some (gV I)∧ao W I 46 (jB z) ∧
  ∀ n,tT base (W.setCell ⟨I,4,none⟩ (FH FI n)) v (gs++[(z.1,⟨z.2.kind,n,z.2.word⟩)]):=by
 obtain ⟨G,U,M,J,V⟩:=h;have hl:G.length=gs.length+1:=by rw[U];simp
 obtain ⟨b4,H⟩:=V gs.length (by omega) (by simp);have hz:(gs++[z])[gs.length]'(by simp)=z:=by simp
 rw[hz] at H;have h3':=J;rw[Fo,List.length_singleton] at J;rcases J.2 with ⟨_,h0⟩|⟨gv,cap,cur,rfl,hb,Z,hc,_⟩
 ·omega
 have D:=J.cells (g:=gv) rfl gs.length (gV G[gs.length]) (by rw[List.getElem?_map,Fp (by omega)];rfl);rw[cI,Nat.zero_add] at D;refine ⟨gv,cap,G[gs.length],rfl,(Array.getElem?_eq_some_iff.1 Z).1,b4,D,H,fun n=>⟨G,by rw[U];simp,M,?_,fun i a b=>?_⟩⟩
 ·have:=rQ (i:=4) (u:=FH FI n) h3' H (by decide)
  rw[Fo,List.length_singleton] at this ⊢;exact this
 have O:i<gs.length+1:=by rw[←hl];exact a
 obtain ⟨c1,c2⟩:=V i a (by simpa using O);refine ⟨c1,?_⟩;by_cases he:i=gs.length
 ·subst he
  have:=H.set 4 (FH FI n);refine this.congr ?_;simp[jB]
 have N:G[i]≠G[gs.length]:=by
  rw[List.nodup_iff_pairwise_ne,List.pairwise_iff_getElem] at M;exact M i gs.length a (by omega) (by omega)
 have e1:(gs++[(z.1,(⟨z.2.kind,n,z.2.word⟩:Vl))])[i]'b=(gs++[z])[i]'(by simpa using O):=by
  rw[List.getElem_append_left (by omega),List.getElem_append_left (by omega)]
 rw[e1];exact c2.far N _
theorem tT.snoc {base:Nat} {y Y W:World} {v:Value} {gs:List (Vl×Vl)} {p:Vl×Vl} {G:List Nat} {bn gw cap:Nat} (h1:G.length=gs.length) (U:G.Nodup) (h4:∀ i (h:i<G.length) (h':i<gs.length),base≤G[i]∧ao y G[i] 46 (jB gs[i])) (hv:Y.ownsRow base 89 1 v gs.length (G.map gV)) (hk:aa [] y Y) (O:y.heap.size≤bn) (Z:base≤y.heap.size) (hb:ao Y bn 46 (jB p)) (V:Y.grownBy W v.ownBlock)
  (I:W.ownsRow base 89 1 (FD (some ⟨gw,0,none⟩) (gs.length+1) cap) (gs.length+1) (G.map gV++[gV bn])):tT base W (FD (some ⟨gw,0,none⟩) (gs.length+1) cap) (gs++[p]):=by
 have H:=fun g V=>tB hv g V
 have D:∀ g cs,ao Y g 46 cs→ao W g 46 cs:=fun g cs N=>by
  refine (V.block g N.lt fun e=>?_).trans N;obtain ⟨cs',fz,M⟩:=H g e.symm;rw[N] at M;injection M with M;injection M with _ U;revert U
  decide
 refine ⟨G++[bn],by simp[h1],List.nodup_append.2 ⟨U,by simp,fun a ha b hb' e=>?_⟩,by simpa using I,fun i a b=>?_⟩
 ·rw[List.mem_singleton] at hb'
  obtain ⟨i,J,rfl⟩:=List.getElem_of_mem ha;have:=(h4 i J (by omega)).2.lt;omega
 by_cases J:i<G.length
 ·rw[List.getElem_append_left J,List.getElem_append_left (by omega)]
  obtain ⟨c1,c2⟩:=h4 i J (by omega);exact ⟨c1,D _ _ (c2.keep hk (by simp))⟩
 have hi':i=G.length:=by simp at a;omega
 subst hi';rw[List.getElem_append_right (Fm _),List.getElem_append_right (by omega)];simp only[Nat.sub_self,h1,List.getElem_cons_zero];exact ⟨Ft Z O,D _ _ hb⟩
theorem tT.rows {base:Nat} {W:World} {v:Value} {gs:List (Vl×Vl)} (h:tT base W v gs):cC W v (dK gs):=by
 obtain ⟨G,M,h2,H,U⟩:=h;have I:(dK gs).length=gs.length:=by simp[dK]
 rw[←I] at H;obtain ⟨A,c,e,N,V⟩:=iD H;refine ⟨A,c,e,N,G.map gV,by rw[List.length_map,I,M],V,fun i a b=>?_⟩;have J:i<G.length:=by simpa using a
 obtain ⟨_,D⟩:=U i J (by omega);rw[List.getElem_map];have Z:(dK gs)[i]'b=[(gs[i]'(by omega)).1,(gs[i]'(by omega)).2]:=by simp[dK]
 rw[Z];refine ⟨_,2,rfl,Fm _,rfl,fun _=>⟨_,rfl,by simp,D.lt,fun j u O=>?_⟩⟩;rw[cI,Nat.zero_add,D.cell j];simpa[jB,al,eC] using O
theorem yP (op:Bs) (k m:Nat) (l:List (List Vl)) (r:List Vl):aM op k m (l++[r])=ip op k m (aM op k m l) r:=by unfold aM;rw[List.foldl_append];rfl
theorem tU (op:Bs) (k m:Nat) (l:List (List Vl)):(aM op k m l).length≤l.length:=by
 refine fJ (p:=fun l=>(aM op k m l).length≤l.length) (Fm _) (fun l r ih=>?_) l;rw[yP,Fo,List.length_singleton];unfold ip;split
 ·simp;omega
 split
 ·simp;omega
 simp;omega
def p6 (g:List (Vl×Vl)):Option (List (List Vl)):=if (g.any fun p=> !eO p.2)=true then none else some (dK g)
def tV (n:Nat) (gs:List (Vl×Vl)):Prop:=∀ p∈gs,-((n:Int)*1000000000)≤p.2.num∧p.2.num≤(n:Int)*1000000000
theorem tV.add {n:Nat} {gs:List (Vl×Vl)} (h:tV n gs) {p:Vl×Vl} (H : -(((n+1:Nat):Int)*1000000000)≤p.2.num∧p.2.num≤((n+1:Nat):Int)*1000000000):tV (n+1) (gs++[p]):=fun q D=>by
 rcases List.mem_append.1 D with D|D
 ·have:=h q D
  omega
 rw[List.mem_singleton.1 D];exact H
theorem vN (t:Tb) (n1 n2:Bs) (k m:Nat) (hk:an t.cols n1=some k) (hm:an t.cols n2=some m) (ct code av lk ln rk rn:Int) (no:Nat) (op lc lw rc cg:Bs) (Ao:Option Addr) (co:Nat) (Ai:Option Addr) (ni ci:Nat) (bc oc:Nat) (cc:Nat) (hG:2≤cc) (A B:Option Addr) (c d:Nat) (w:World)
  (s0:w.cell? ⟨bc,oc,none⟩=some (FC (bs n1))) (s1:w.cell? ⟨bc,oc+1,none⟩=some (FC (bs n2))) (hT:aY w t A B c d) (dt:∀ r∈t.rows,r.length=t.cols.length) (cu:∀ r∈t.rows,-1000000000≤(r.getD m zV).num∧(r.getD m zV).num≤1000000000) (ht:t.rows.length≤100) :
  Calls Tryz.prog 104 #[.agg #[FH FI ct,FH FI code,FD Ao no co,FD Ai ni ci,FD (some ⟨bc,oc,none⟩) 2 cc,FC (bs op),FC (bs lc),FH FI lk,FH FI ln,FC (bs lw),FC (bs rc),FH FI rk,FH FI rn,FC (bs cg),FH FI av],.agg #[FD A t.cols.length c,FD B t.rows.length d]] w fun e w'=>jA (p6 (aM op k m (cK t [n1]))) e w'∧aa [] w w':=by
 obtain ⟨ir,f9,e7,ff,e4⟩:=info_parts jt;have fz:Hid (∀ W,aa [] w W→Calls Tryz.prog 89 #[FD A t.cols.length c,FC (bs n1)] W fun e W'=>e=FF (FH FI (k:Int))∧aa [] W W'):=Fk fun W q=>by
  have h:=bQ t.cols n1 A c W (hT.cols.keep q) hT.ln;rw[hk] at h;exact h
 have ex:Hid (∀ W,aa [] w W→Calls Tryz.prog 89 #[FD A t.cols.length c,FC (bs n2)] W fun e W'=>e=FF (FH FI (m:Int))∧aa [] W W'):=Fk fun W q=>by
  have h:=bQ t.cols n2 A c W (hT.cols.keep q) hT.ln;rw[hm] at h;exact h
 have ca:k<t.cols.length:=(List.findIdx?_eq_some_iff_getElem.1 hk).1;have f6:m<t.cols.length:=(List.findIdx?_eq_some_iff_getElem.1 hm).1;have hy:=Fk (And.intro ca f6);have d6:Hid (∀ W,aa [] w W→Calls Tryz.prog 100 #[.agg #[FH FI 0,FH FI 0,FD none 0 0,FD none 0 0,FD (some ⟨bc,oc,none⟩) 1 cc,FC ⟨#[]⟩,FC ⟨#[]⟩,FH FI 0,FH FI 0,FC ⟨#[]⟩,FC ⟨#[]⟩,FH FI 0,FH FI 0,FC ⟨#[]⟩,FH FI 0],.agg #[FD A t.cols.length c,FD B t.rows.length d]] W fun e w'=>(∃ v,e=FF v∧cC w' v (cK t [n1]))∧aa [] W w'):=Fk fun W q =>
  pd (⟨0,0,[],[],[n1],[],⟨[],zV⟩,⟨[],zV⟩,0⟩:Jb) t none 0 none 0 0 (some ⟨bc,oc,none⟩) cc A B c d W (hT.quiet q) ⟨rfl,fun _=>⟨_,rfl,by simp,Nat.lt_of_lt_of_le (Fq _ _ s0) q.size,fun j u hu=>by
   have hj:j=0:=by
    have:=(List.getElem?_eq_some_iff.1 hu).1;simp[strs] at this;omega
   subst hj;rw[cI,Nat.add_zero];have hu':some (Value.string (bs n1))=some u:=hu;exact (q.cell_of s0 (by simp)).trans hu'⟩⟩ (by simp) (fun n hn=>by rw[List.mem_singleton.1 hn];exact ⟨k,hk⟩) dt (by omega) 0
 have et:Hid (∀ r∈cK t [n1],r.length=t.cols.length∧ -1000000000≤(r.getD m zV).num∧(r.getD m zV).num≤1000000000):=Fk fun r hr=>by
  have hr':=(gK _).mem_iff.1 hr;exact ⟨dt r hr',cu r hr'⟩
 have ds:Hid ((cK t [n1]).length≤100):=Fk (by unfold cK;rw[bG];exact ht);have eb:=Fk s0;have fs:=Fk s1;obtain ⟨w2,b6⟩:∃ w2,((w.alloc (FG #[FH FI ct,FH FI code,FD Ao no co,FD Ai ni ci,FD (some ⟨bc,oc,none⟩) 2 cc,FC (bs op),FC (bs lc),FH FI lk,FH FI ln,FC (bs lw),FC (bs rc),FH FI rk,FH FI rn,FC (bs cg),FH FI av] 50)).alloc (FG #[FD A t.cols.length c,FD B t.rows.length d] 54))=w2:=⟨_,rfl⟩
 have br:Hid (aa [] w w2):=Fk (by rw[←b6];exact ((Fz _ _).alloc _).alloc _);have b8:Hid (ao w2 w.heap.size 50 #[FH FI ct,FH FI code,FD Ao no co,FD Ai ni ci,FD (some ⟨bc,oc,none⟩) 2 cc,FC (bs op),FC (bs lc),FH FI lk,FH FI ln,FC (bs lw),FC (bs rc),FH FI rk,FH FI rn,FC (bs cg),FH FI av]):=Fk (by rw[←b6];exact (FA _ _ _).alloc _);have cd:Hid (ao w2 (w.heap.size+1) 54 #[FD A t.cols.length c,FD B t.rows.length d]):=Fk (by
  rw[←b6];have h:=FA (w.alloc (FG #[FH FI ct,FH FI code,FD Ao no co,FD Ai ni ci,FD (some ⟨bc,oc,none⟩) 2 cc,FC (bs op),FC (bs lc),FH FI lk,FH FI ln,FC (bs lw),FC (bs rc),FH FI rk,FH FI rn,FC (bs cg),FH FI av] 50)) 54 #[FD A t.cols.length c,FD B t.rows.length d];rw[ap] at h;exact h)
 have HW:=Fk b6;clear hT dt b6 s0 s1 cu ca f6;generalize cK t [n1]=J at *;go_enter Tryz.func104,Tryz.ntmps104
 go_upto_region 1 with (fail)
 rw[HW.out];have y4:w2.cell? ⟨w.heap.size,4,none⟩=some (FD (some ⟨bc,oc,none⟩) 2 cc):=b8.out.cell 4;have e0:=br.out.cell_of eb.out (by simp);have e1:=br.out.cell_of fs.out (by simp);have a0:w2.cell? ⟨w.heap.size+1,0,none⟩=some (FD A t.cols.length c):=cd.out.cell 0;have bo:w.heap.size<w2.heap.size:=b8.out.lt;have hw:bc<w2.heap.size:=Fq _ _ e0;have c7:w.heap.size+1<w2.heap.size:=cd.out.lt;have HF1':=Fk (fun W (q:aa [] w2 W)=>fz.out W (br.out.trans q));have HF2':=Fk (fun W (q:aa [] w2 W)=>ex.out W (br.out.trans q));clear fz ex HW eb fs;generalize w.heap.size=bx at *;refine ah (by kernel_rfl) (by kernel_rfl) ?_;repeat (go_big_quiet_step (first|with_reducible exact KW.of HF1'.out _|with_reducible exact KW.of HF2'.out _))
 refine wpQuiet_nil ?_;intro wq cm;have d2:=Fk (br.out.trans cm);have be:=Fk (b8.out.keep cm (by simp));have bj:=Fk (cd.out.keep cm (by simp));clear cm y4 e0 e1 a0 bo hw c7 HF1' HF2' b8 cd br;have y4:wq.cell? ⟨bx,4,none⟩=some (FD (some ⟨bc,oc,none⟩) 2 cc):=be.out.cell 4;have a0:wq.cell? ⟨bx+1,0,none⟩=some (FD A t.cols.length c):=bj.out.cell 0;have a1:wq.cell? ⟨bx+1,1,none⟩=some (FD B t.rows.length d):=bj.out.cell 1;have bo:bx<wq.heap.size:=be.out.lt;have c7:bx+1<wq.heap.size:=bj.out.lt;have gz:∀ W,(Instr.slice 44 (FD (some ⟨bc,oc,none⟩) 2 cc) none (some (FH FI 1)) none).run Tryz.prog W= .ok (FD (some ⟨bc,oc,none⟩) 1 cc) W:=qB (some ⟨bc,oc,none⟩) 2 cc 1 (by omega)
 go_upto_region 3 with (fail)
 go_cut [33,34,35] (fun v l j wx=>∃ Ar cr,v=FD Ar J.length cr∧l=FH FI J.length∧j=FH FI 0∧Hid (cJ wx [] Ar J)∧Hid (aa [] wq wx))
 case first =>
  go_region_law ((go_simp;go_at_call 100;refine (d6.out _ d2.out.drew).mono ?_;rintro e w3 ⟨⟨v0,rfl,hb⟩,g3⟩;obtain ⟨Ar,cr,rfl,hS,bt⟩:=hb))
  all_goals
   go_wp2;go_meet
   case rel=>exact ⟨Ar,cr,rfl,rfl,rfl,Fk bt,Fk (aa.of_drew g3)⟩
 obtain ⟨Ar,cr,rfl,rfl,rfl,eB,c6⟩:=hcut;obtain ⟨w3,rfl⟩:∃ z:World,z=wc:=⟨_,rfl⟩
 clear y4 a0 a1 bo c7 gz d6;have cz:=Fk (be.out.keep c6.out (by simp));have e9:=Fk (d2.out.trans c6.out);clear be bj d2 c6;go_wp2_with fail
 go_loopw [8,35] (fun u i wx=>∃ (n:Nat) (v:Value),v=u∧n≤J.length∧i=FH FI n∧Hid (tT w3.heap.size wx v (aM op k m (J.take n)))∧Hid (tV n (aM op k m (J.take n)))∧Hid (aa [] w3 wx)) (fun _ i _=>J.length-(intOf i).toNat)
 case atStart=>exact ⟨0,_,rfl,Fu _,rfl,Fk (tT.nil _ _),Fk (fun p hp=>by cases hp),Fk (Fz _ _)⟩
 obtain ⟨n,v,rfl,hn,rfl,HG,HB,HK⟩:=hrel;obtain ⟨y,rfl⟩:∃ z:World,z=wr:=⟨_,rfl⟩
 by_cases d1:n<J.length
 ·have hP:=ds.out
  obtain ⟨us,hC,fb,el⟩:=eB.out;have fS:n<us.length:=by omega
  have gk:=el n fS d1;obtain ⟨b7,o7,ho,_,hM,d9⟩:=fb.open' (by omega) (by omega);subst ho;have d7:=d9 (n*1) us[n] (by rw[Nat.mul_one];exact Fp fS);rw[Nat.mul_one] at d7;have a2:Hid (aM op k m (J.take (n+1))=ip op k m (aM op k m (J.take n)) J[n]):=Fk (by
   rw[List.take_succ_eq_append_getElem d1];unfold aM;rw[List.foldl_append];rfl)
  have bt:=et.out _ (Fs d1);have ad:(aM op k m (J.take n)).length≤100:=by
   have:=tU op k m (J.take n);rw[Fw] at this;omega
  generalize J[n]=x at *;obtain ⟨Ax,cx,hu,hK,fc⟩:=gk;rw[hu] at d7;have ca:=hy.out;obtain ⟨bX,oX,rfl,_,g7,bb⟩:=fc.open' (by omega) (by omega);have e6:k<x.length:=by omega
  have ey:m<x.length:=by omega
  obtain ⟨x0,x1,x2⟩:=ay x k e6;obtain ⟨x3,x4,x5⟩:=ay x m ey;have f0:=HK.out.cell_of (bb _ _ x0) (by simp);have f1:=HK.out.cell_of (bb _ _ x1) (by simp);have f2:=HK.out.cell_of (bb _ _ x2) (by simp);have f3:=HK.out.cell_of (bb _ _ x3) (by simp);have f4:=HK.out.cell_of (bb _ _ x4) (by simp);have f5:=HK.out.cell_of (bb _ _ x5) (by simp);rw[←Nat.add_assoc] at f1 f2 f4 f5;have e5:x.getD k zV=x[k]:=by rw[Fy,Fp e6];rfl
  have d0:x.getD m zV=x[m]:=by rw[Fy,Fp ey];rfl
  unfold ip at a2;rw[e5,d0] at a2;rw[d0] at bt;generalize x[k]=vx at *;generalize x[m]=vm at *;obtain ⟨a7,a6,a4⟩:=vx;obtain ⟨bZ,U,b4⟩:=vm;have cj:=Fk bt.2;have d8:=HK.out.cell_of d7 (by simp);have hbX':=Nat.lt_of_lt_of_le g7 HK.out.size;have hz:(0:Int)≤(k:Int):=by omega
  have gi:(k:Int)<(x.length:Int):=by omega
  have hH:(0:Int)≤(m:Int):=by omega
  have hJ:(m:Int)<(x.length:Int):=by omega
  have y5:y.cell? ⟨bx,5,none⟩=some (FC (bs op)):=(cz.out.keep HK.out (by simp)).cell 5;clear d7 d9 hC fb el hu fc x0 x1 x2 x3 x4 x5 bb e5 d0 ca bt;obtain ⟨M,aA⟩:∃ G,aM op k m (J.take n)=G:=⟨_,rfl⟩
  rw[aA] at HG HB a2 ad;clear aA;obtain ⟨BR,eY⟩:∃ B,(match M.getLast? with|none=>true|some z=> !decide (z.1=(⟨a7,a6,a4⟩:Vl)))=B:=⟨_,rfl⟩
  have a9:=Fk eY;have ba:∃ A c,v=FD A M.length c:=by
   obtain ⟨_,_,_,Z,_⟩:=HG.out;obtain ⟨A,c,e,_⟩:=aq Z;exact ⟨A,c,e⟩
  obtain ⟨A8,c8,rfl⟩:=ba;obtain ⟨N,hN⟩:∃ N,M.length=N:=⟨_,rfl⟩
  rw[hN] at HG ad;have HN:=Fk hN;rw[hN];clear eY hN;have dq:IntKind.i64.wrap ((N:Int)-1)=(N:Int)-1:=by simp[IntKind.wrap,IntKind.bits,IntKind.signed];omega
  go_upto_region 8 with (fail)
  clear d8;go_cut [61] from 39 to 108 (fun b wx=>b= .bool BR∧Hid (aa [] y wx))
  case first =>
   rcases List.eq_nil_or_concat M with h0|⟨D,z,h0⟩
   ·have he:BR=true:=by rw[←a9.out,h0];rfl
    have hR:(N:Int)-1<0:=by have:=HN.out;rw[h0] at this;simp at this;omega
    clear HG HB a9 a2 h0 y5 HN dq;generalize (N:Int)-1=N1 at *;refine ah (by kernel_rfl) (by kernel_rfl) ?_;repeat (go_big_quiet_step (fail))
    refine wpQuiet_nil ?_;intro w5 a5;go_wp2;go_meet;exact ⟨by rw[he],Fk a5⟩
   rw[List.concat_eq_append] at h0;subst h0;obtain ⟨gv,cap,gl,hv,g0,b5,H,I,_⟩:=HG.out.last;have dz:N=D.length+1:=by rw[←HN.out];simp
   injection hv with c9 dB c4;clear dB;subst c9 c4;obtain ⟨⟨zk,zn,zw⟩,zs⟩:=z;have z0:y.cell? ⟨gl,0,none⟩=some (FH FI zk):=I.cell 0;have z1:y.cell? ⟨gl,1,none⟩=some (FH FI zn):=I.cell 1;have z2:y.cell? ⟨gl,2,none⟩=some (FC (bs zw)):=I.cell 2;have ev:gl<y.heap.size:=I.lt;have hcell':y.cell? ⟨gv,D.length,none⟩=some (FD (some ⟨gl,0,none⟩) 2 2):=H;have dr:(N:Int)-1=(D.length:Int):=by omega
   have cD:=Di ⟨zk,zn,zw⟩ ⟨a7,a6,a4⟩;have fn:(!decide ((⟨zk,zn,zw⟩:Vl)=⟨a7,a6,a4⟩))=BR:=by
    rw[←a9.out,List.getLast?_concat]
   rw[fn] at cD;simp only at cD;have hx:(0:Int)≤(D.length:Int):=by omega
   have hD:(D.length:Int)<(N:Int):=by omega
   have hL:((D.length:Int)<0)=False:=eq_false (by omega);clear HG HB a9 a2 y5 HN dq dz I H fn;generalize (N:Int)-1=q at *;subst dr;generalize D.length=L at *;refine ah (by kernel_rfl) (by kernel_rfl) ?_;repeat (go_big_quiet_step (fail))
   refine wpQuiet_nil ?_;intro w5 a5;go_wp2;go_meet;exact ⟨rfl,Fk a5⟩
  obtain ⟨rfl,O⟩:=hcut;obtain ⟨u,rfl⟩:∃ z:World,z=wc:=⟨_,rfl⟩
  have f0:=O.out.cell_of f0 (by simp);have f1:=O.out.cell_of f1 (by simp);have f2:=O.out.cell_of f2 (by simp);have f3:=O.out.cell_of f3 (by simp);have f4:=O.out.cell_of f4 (by simp);have f5:=O.out.cell_of f5 (by simp);have hF:=Nat.lt_of_lt_of_le hbX' O.out.size;have hE:=O.out.cell_of y5 (by simp);have d4:=Fk (HG.out.keep O.out);have ce:=Fk (HK.out.trans O.out);clear HG HK O y5 hbX'
  cases bk:BR with
  | true =>
   have V:Hid (aM op k m (J.take (n+1))=M++[((⟨a7,a6,a4⟩:Vl),(⟨bZ,U,b4⟩:Vl))]):=Fk (by
    have h1:=a2.out;have h2:=a9.out;rw[bk] at h2
    cases ad:M.getLast? with
    | none=>rw[ad] at h1;exact h1
    | some z =>
     rw[ad] at h1 h2;simp only at h1 h2;rw[if_neg (by simpa using h2)] at h1;exact h1)
   have hl:Hid (tV (n+1) (aM op k m (J.take (n+1)))):=Fk (by
    rw[V.out];have:=cj.out;exact HB.out.add (by simp only at this ⊢;omega))
   subst bk;have eA:=Fk (show N+1≤maxLen∧(N+1)*24≤140737488355328 by simp only[maxLen];omega);obtain ⟨Gl,bv,b9,Z,bz⟩:=d4.out;have HO:Hid (u.ownsRow w3.heap.size 89 1 (FD A8 N c8) N (Gl.map gV)):=Fk (by rw[←HN.out] at Z ⊢;exact Z);have gc:=Fk bv;have g5:=Fk b9;have f7:=Fk bz;have c3:=Fk ce.out.size;clear bv b9 Z bz HB a2 a9 hE cj;have g4:∀ A B,((u.alloc A).alloc B).heap[u.heap.size+1]? = some B:=fun A B=>by
    have h:=heap_alloc_new (u.alloc A) B;rwa [ap] at h
   go_upto_region 9 with (fail)
   go_region_law ((refine step_append_lies _ (by rfl) _ _ _ (by rfl) w3.heap.size 89 ir _ 1 24 Tryz.underlying52 f9 e7 ff e4 rfl (by decide) (FD A8 N c8) N (Gl.map gV) (by rfl) (((HO.out.alloc _).alloc _)) ⟨u.heap.size+1,0,none⟩ 1 1 [FD (some ⟨u.heap.size,0,none⟩) 2 2] (by rfl) rfl (Fx (g4 _ _)) (by simp[Value.oneCell']) (by decide) eA.out.1 eA.out.2 (by have:=c3.out;simp;omega) _ rfl ?_;intro gw c0 w8 b0 a3 es ez))
   all_goals
    have hs:=Fk (((ce.out.alloc (FG (jB ((⟨a7,a6,a4⟩:Vl),(⟨bZ,U,b4⟩:Vl))) 46)).alloc (FG #[FD (some ⟨u.heap.size,0,none⟩) 2 2] 89)).drew.grown a3 (fun g hg=> .inr (HO.out.lt g hg).1));have hc:Hid (tT w3.heap.size w8 (FD (some ⟨gw,0,none⟩) (N+1) c0) (aM op k m (J.take (n+1)))):=Fk (by
     rw[V.out];have h:=tT.snoc (base:=w3.heap.size) (y:=u) (W:=w8) (v:=FD A8 N c8) (gs:=M) (p:=((⟨a7,a6,a4⟩:Vl),(⟨bZ,U,b4⟩:Vl))) (G:=Gl) (bn:=u.heap.size) (gw:=gw) (cap:=c0) gc.out g5.out f7.out (by rw[HN.out];exact ((HO.out.alloc (FG (jB ((⟨a7,a6,a4⟩:Vl),(⟨bZ,U,b4⟩:Vl))) 46)).alloc (FG #[FD (some ⟨u.heap.size,0,none⟩) 2 2] 89)).drew) (((Fz [] u).alloc _).alloc _).drew (Fm _) c3.out ((FA _ _ _).alloc _).drew a3 (by rw[HN.out];exact b0);rw[HN.out] at h;exact h)
    clear b0 a3 es ez;go_wp2;go_roundw
    case rel=>exact ⟨n+1,_,rfl,by omega,by go_num,hc,hl,hs⟩
    case measure=>simp[intOf];omega
  | false =>
   have c5:∃ D z,M=D++[z]∧z.1=(⟨a7,a6,a4⟩:Vl):=by
    have h2:=a9.out;rw[bk] at h2
    cases ad:M.getLast? with
    | none=>rw[ad] at h2;cases h2
    | some z =>
     rw[ad] at h2;obtain ⟨ys,hB⟩:=List.getLast?_eq_some_iff.1 ad;exact ⟨ys,z,hB,by simpa using h2⟩
   obtain ⟨D,z,aA,bo⟩:=c5;subst bk;have V:Hid (aM op k m (J.take (n+1))=D++[(z.1,rh op z.2 (⟨bZ,U,b4⟩:Vl))]):=Fk (by
    have h1:=a2.out;rw[aA,List.getLast?_concat] at h1;simp only at h1;rw[if_pos bo,List.dropLast_concat] at h1;exact h1)
   subst aA;obtain ⟨gv,cap,gl,hv,g0,b5,H,I,c1⟩:=d4.out.last;have dz:N=D.length+1:=by rw[←HN.out];simp
   injection hv with c9 dB c4;clear dB;subst c9 c4;obtain ⟨z1,⟨zk,zn,zw⟩⟩:=z;have d5:=HB.out (z1,⟨zk,zn,zw⟩) (by simp);have eX:=cj.out;simp only at d5 eX;have ha:n≤100:=by omega
   have dv:Hid (tV n D):=Fk fun p hp=>HB.out p (by simp[hp])
   have z4:u.cell? ⟨gl,4,none⟩=some (FH FI zn):=I.cell 4;have z5:u.frozen? ⟨gl,4,none⟩=false:=I.frozen 4;have ev:gl<u.heap.size:=I.lt;have hcell':u.cell? ⟨gv,D.length,none⟩=some (FD (some ⟨gl,0,none⟩) 2 2):=H;have dr:(N:Int)-1=(D.length:Int):=by omega
   have hx:(0:Int)≤(D.length:Int):=by omega
   have hD:(D.length:Int)<(N:Int):=by omega
   have cy:=Fk c1;have hQ:IntKind.i64.wrap (zn+U)=zn+U:=by simp[IntKind.wrap,IntKind.bits,IntKind.signed];omega
   have gm:Hid (tV (n+1) (D++[(z1,(⟨zk,zn+U,zw⟩:Vl))])):=Fk (dv.out.add (by simp only;omega));have f8:Hid (tV (n+1) (D++[(z1,(⟨zk,max zn U,zw⟩:Vl))])):=Fk (dv.out.add (by simp only;omega));clear d4 HB a9 a2 HN dq dz I H c1 bo d5 eX cj dv;generalize (N:Int)-1=q at *;subst dr;by_cases bm:op=sD
   ·have a8:Hid (aM op k m (J.take (n+1))=D++[(z1,(⟨zk,zn+U,zw⟩:Vl))]):=Fk (by
     rw[V.out];unfold rh;rw[if_pos bm])
    have t1:(op==[115,117,109])=true:=by rw[bm];rfl
    clear V bm;go_upto_region 11 with (fail)
    generalize D.length=L at *;refine wp_region_still_tail 15 (by kernel_rfl) (by kernel_rfl) ?_;simp only[List.take_succ_cons,List.take_zero,List.drop_succ_cons,List.drop_zero];repeat still_step
    refine wpStill_nil ?_;go_wp2;go_roundw
    case rel=>exact ⟨n+1,_,rfl,by omega,by go_num,Fk (by rw[a8.out];exact cy.out _),Fk (by rw[a8.out];exact gm.out),Fk (ce.out.drew.setCell (.inr b5) _)⟩
    case measure=>simp[intOf];omega
   have a8:Hid (aM op k m (J.take (n+1))=D++[(z1,(⟨zk,max zn U,zw⟩:Vl))]):=Fk (by
    rw[V.out];unfold rh;rw[if_neg bm])
   have t1:(op==[115,117,109])=false:=by simpa[sD] using bm
   clear V bm;go_upto_region 7 with (fail)
   generalize D.length=L at *;refine wp_region_still_tail 19 (by kernel_rfl) (by kernel_rfl) ?_;simp only[List.take_succ_cons,List.take_zero,List.drop_succ_cons,List.drop_zero];repeat still_step
   refine wpStill_nil ?_;go_wp2;go_roundw
   case rel=>exact ⟨n+1,_,rfl,by omega,by go_num,Fk (by rw[a8.out];exact cy.out _),Fk (by rw[a8.out];exact f8.out),Fk (ce.out.drew.setCell (.inr b5) _)⟩
   case measure=>simp[intOf];omega
 obtain rfl:n=J.length:=by omega
 have b1:Hid (tT w3.heap.size y v (aM op k m J)):=Fk (by have h:=HG.out;rw[List.take_length] at h;exact h);have cv:(aM op k m J).length≤100:=Ft (tU op k m J) ds.out;have e8:=Fk (e9.out.trans HK.out);clear HG HB HK e9 eB et ds cz;obtain ⟨M,aA⟩:∃ G,aM op k m J=G:=⟨_,rfl⟩
 rw[aA] at b1 cv;have fr:=Fk aA;clear aA;have ba:∃ A c,v=FD A M.length c:=by
  obtain ⟨_,_,_,Z,_⟩:=b1.out;obtain ⟨A,c,e,_⟩:=aq Z;exact ⟨A,c,e⟩
 obtain ⟨A8,c8,rfl⟩:=ba;obtain ⟨N,hN⟩:∃ N,M.length=N:=⟨_,rfl⟩
 rw[hN] at b1 cv;have HN:=Fk hN;rw[hN];clear hN;go_wp2_with fail
 go_loopw [111] (fun i wx=>∃ q:Nat,q≤N∧i=FH FI q∧Hid (∀ j (h:j<q) (h':j<M.length),eO M[j].2=true)∧Hid (aa [] y wx)) (fun i _=>N-(intOf i).toNat)
 case atStart=>exact ⟨0,Fu _,rfl,Fk (fun j h=>absurd h (by omega)),Fk (Fz _ _)⟩
 obtain ⟨q,hq,rfl,HV,b3⟩:=hrel;obtain ⟨u,rfl⟩:∃ z:World,z=wr:=⟨_,rfl⟩
 by_cases g1:q<N
 ·have d3:q<M.length:=by rw[HN.out];exact g1
  obtain ⟨Gl,bv,b9,Z,bz⟩:=(b1.out.keep b3.out);have en:q<Gl.length:=by rw[bv];exact d3
  obtain ⟨_,I⟩:=bz q en d3;obtain ⟨A',c',e',er⟩:=aq Z;injection e' with e1 e2 e3;clear e2;subst e1 e3;obtain ⟨g8,rfl,hI,H⟩:=er (by omega);have d8:u.cell? ⟨g8,q,none⟩=some (FD (some ⟨Gl[q],0,none⟩) 2 2):=H q _ (by rw[List.getElem?_map,Fp en];rfl);have cn:Hid (eO M[q].2=true→∀ j (h:j<q+1) (h':j<M.length),eO M[j].2=true):=Fk fun h j hj hj'=>by
   by_cases hA:j<q
   ·exact HV.out j hA hj'
   obtain rfl:j=q:=by omega
   exact h
  have cq:Hid (eO M[q].2=false→p6 M=none):=Fk fun h=>by
   unfold p6;rw[if_pos (List.any_eq_true.2 ⟨M[q],Fs d3,by rw[h];rfl⟩)]
  generalize Gl[q]=gq at *;generalize M[q]=pq at *;obtain ⟨p1,⟨pk,pn,pw⟩⟩:=pq;have z3:u.cell? ⟨gq,3,none⟩=some (FH FI pk):=I.cell 3;have z4:u.cell? ⟨gq,4,none⟩=some (FH FI pn):=I.cell 4;have z5:u.cell? ⟨gq,5,none⟩=some (FC (bs pw)):=I.cell 5;have hO:gq<u.heap.size:=I.lt;have ch:Hid (Calls Tryz.prog 28 #[.agg #[FH FI pk,FH FI pn,FC (bs pw)]] u fun e w'=>e=FF (.bool (eO ⟨pk,pn,pw⟩))∧aa [] u w'):=Fk (cp ⟨pk,pn,pw⟩ u);have hz:(0:Int)≤(q:Int):=by omega
  have gi:(q:Int)<(N:Int):=by omega
  simp only at cn cq;clear bv b9 Z bz I er H HV
  cases bq:eO (⟨pk,pn,pw⟩:Vl) with
  | true =>
   rw[bq] at ch;have hh:=Fk (cn.out bq);clear cn cq bq;go_wp2_with fail
   refine ch.out.mono ?_;rintro e w5 ⟨rfl,a5⟩;have g2:=Fk (b3.out.trans a5);clear a5;go_wp2;go_roundw
   case rel=>exact ⟨q+1,by omega,by go_num,hh,g2⟩
   case measure=>simp[intOf];omega
  | false =>
   rw[bq] at ch;have HF:=Fk (cq.out bq);clear cn cq bq;go_wp2_with fail
   refine ch.out.mono ?_;rintro e w5 ⟨rfl,a5⟩;go_wp2;go_ret2;exact ⟨by rw[fr.out,HF.out];rfl,(e8.out.trans b3.out).trans a5⟩
 obtain rfl:q=N:=by omega
 have HF:Hid (p6 M=some (dK M)):=Fk (by
  unfold p6;rw[if_neg];intro h;obtain ⟨p,hp,hf⟩:=List.any_eq_true.1 h;obtain ⟨i,hi,rfl⟩:=List.getElem_of_mem hp;rw[HV.out i (by rw[←HN.out];exact hi) hi] at hf;cases hf)
 have gf:=Fk (b1.out.keep b3.out).rows;have g6:=Fk (e8.out.trans b3.out);go_wp2;go_ret2;exact ⟨by rw[fr.out,HF.out];exact ⟨_,rfl,em gf.out _⟩,g6.out.alloc _⟩
end
section
open Go.RowKit Go.BigFrame
attribute [local go_sem] ag ab ae af
def AW (R:Option (List (List Vl))):Except Int (List (List (List Vl))):=match R with
 | none=> .error 2
 | some l=> .ok [l]
theorem tW (j:Jb) (t:Tb) (k:Nat) (nm:Bs) (A B:Option Addr) (c d:Nat) (V:Option Addr) (U:Nat) (Ai:Option Addr) (Z ci:Nat) (O:Option Addr) (cc:Nat) (w:World) (hT:aY w t A B c d) (h:j.cols=[nm]) (hk:an t.cols nm=some k) (J:Rd w [] 1 O 1 (strs [nm]))
  (H:∀ r∈t.rows,r.length=t.cols.length) (N:∀ r∈t.rows,fO j.left t.cols r) (M:∀ r∈t.rows,fO j.right t.cols r)
  (D:∀ r∈t.rows,-1000000000≤(bB j.left t.cols r).num∧(bB j.left t.cols r).num≤1000000000) (I:∀ r∈t.rows,-1000000000≤(bB j.right t.cols r).num∧(bB j.right t.cols r).num≤1000000000) :
  Calls Tryz.prog 99 #[eH j V U Ai Z ci O cc,.agg #[FD A t.cols.length c,FD B t.rows.length d]] w fun e w'=>jA (aO j t t.rows []) e w'∧aa [] w w':=by
 by_cases h1:j.op=[43]
 ·exact tQ j t k nm A B c d V U Ai Z ci O cc w hT h hk J H N M D I h1
 by_cases h2:j.op=[45]
 ·exact tR j t k nm A B c d V U Ai Z ci O cc w hT h hk J H N M D I h2
 exact tS j t k nm A B c d V U Ai Z ci O cc w hT h hk J H N M D I h1 h2
theorem D4 (t:Tb) (OA:Option Addr) (no od:Nat) (b o:Nat) (nt ct:Nat) (A B:Option Addr) (c d:Nat) (a0:1≤nt) (H h U ln rk V:Int) (outs cols:List Bs) (op lc lw O D:Bs) (N:Option Addr) (M:Nat) (Ai:Option Addr) (ni ci:Nat) (Ac:Option Addr) (cc:Nat) (w:World)
  (av:w.cell? ⟨b,o,none⟩=some (FD A t.cols.length c)) (a3:w.cell? ⟨b,o+1,none⟩=some (FD B t.rows.length d)) (hT:aY w t A B c d) (R:Option (List (List Vl)))
  (ad:∀ W,aa [] w W→Calls Tryz.prog 99 #[.agg #[FH FI H,FH FI 2,FD N outs.length M,FD Ai ni ci,FD Ac cols.length cc,FC (bs op),FC (bs lc),FH FI U,FH FI ln,FC (bs lw),FC (bs O),FH FI rk,FH FI V,FC (bs D),FH FI h],.agg #[FD A t.cols.length c,FD B t.rows.length d]] W fun e w'=>jA R e w'∧aa [] W w') :
  Calls Tryz.prog 64 #[.agg #[FH FI H,FH FI 2,FD N outs.length M,FD Ai ni ci,FD Ac cols.length cc,FC (bs op),FC (bs lc),FH FI U,FH FI ln,FC (bs lw),FC (bs O),FH FI rk,FH FI V,FC (bs D),FH FI h],FD (some ⟨b,o,none⟩) nt ct,FD OA no od] w fun e w'=>dw (AW R) e w'∧aa [] w w':=by
 have a2:(0:Int)<(nt:Int):=by omega
 have HT:=Fk hT;have a4:b<w.heap.size:=Fq _ _ av;have I:Hid (aa [] w ((w.alloc (FG #[FH FI H,FH FI 2,FD N outs.length M,FD Ai ni ci,FD Ac cols.length cc,FC (bs op),FC (bs lc),FH FI U,FH FI ln,FC (bs lw),FC (bs O),FH FI rk,FH FI V,FC (bs D),FH FI h] 50)).alloc (FG #[FD A t.cols.length c,FD B t.rows.length d] 54))):=Fk (((Fz _ _).alloc _).alloc _);have a1:=Fk (ao.alloc (FA w 50 #[FH FI H,FH FI 2,FD N outs.length M,FD Ai ni ci,FD Ac cols.length cc,FC (bs op),FC (bs lc),FH FI U,FH FI ln,FC (bs lw),FC (bs O),FH FI rk,FH FI V,FC (bs D),FH FI h]) (FG #[FD A t.cols.length c,FD B t.rows.length d] 54));have aA:=Fk (FA (w.alloc (FG #[FH FI H,FH FI 2,FD N outs.length M,FD Ai ni ci,FD Ac cols.length cc,FC (bs op),FC (bs lc),FH FI U,FH FI ln,FC (bs lw),FC (bs O),FH FI rk,FH FI V,FC (bs D),FH FI h] 50)) 54 #[FD A t.cols.length c,FD B t.rows.length d]);rw[ap] at aA;have J:=Fk ad;clear ad hT
 cases R with
 | none =>
  have HC:Hid (∀ W,aa [] w W→Calls Tryz.prog 99 #[.agg #[FH FI H,FH FI 2,FD N outs.length M,FD Ai ni ci,FD Ac cols.length cc,FC (bs op),FC (bs lc),FH FI U,FH FI ln,FC (bs lw),FC (bs O),FH FI rk,FH FI V,FC (bs D),FH FI h],.agg #[FD A t.cols.length c,FD B t.rows.length d]] W fun e w'=>e=FF (.tuple #[FD none 0 0,.iface 37 (FH FI 2)])∧aa [] W w'):=J;clear J;go_enter Tryz.func64,Tryz.ntmps64
  go_wp2_with fail
  refine (HC.out _ I.out).mono ?_;rintro e w5 ⟨rfl,Z⟩;go_wp2;go_ret2;exact ⟨rfl,I.out.trans Z⟩
 | some l =>
  have HC:Hid (∀ W,aa [] w W→Calls Tryz.prog 99 #[.agg #[FH FI H,FH FI 2,FD N outs.length M,FD Ai ni ci,FD Ac cols.length cc,FC (bs op),FC (bs lc),FH FI U,FH FI ln,FC (bs lw),FC (bs O),FH FI rk,FH FI V,FC (bs D),FH FI h],.agg #[FD A t.cols.length c,FD B t.rows.length d]] W fun e w'=>(∃ g,e=FF (.tuple #[FD (some ⟨g,0,none⟩) 1 1,.nilIface])∧fk w' (some ⟨g,0,none⟩) [l])∧aa [] W w'):=J;clear J;go_enter Tryz.func64,Tryz.ntmps64
  go_wp2_with fail
  refine (HC.out _ I.out).mono ?_;rintro e w5 ⟨⟨g,rfl,hr⟩,Z⟩;go_wp2;go_ret2;exact ⟨⟨_,1,rfl,Fm _,hr⟩,I.out.trans Z⟩
theorem D5 (t:Tb) (cols:List Bs) (I:Option Addr) (OA:Option Addr) (no od:Nat) (b o:Nat) (nt ct:Nat) (A B:Option Addr) (c d:Nat) (H h O ln rk U:Int) (outs:List Bs) (op lc lw N D:Bs) (M:Option Addr) (J:Nat) (Ai:Option Addr) (V Z:Nat) (cc:Nat) (w:World)
  (a6:w.cell? ⟨b,o,none⟩=some (FD A t.cols.length c)) (bb:w.cell? ⟨b,o+1,none⟩=some (FD B t.rows.length d)) (hT:aY w t A B c d) (a9:1≤nt) (a2:Rd w [] 1 I cols.length (strs cols)) (a4:cols.length≤4294967296) (aA:∀ n∈cols,∃ k,an t.cols n=some k) (av:∀ r∈t.rows,r.length=t.cols.length) (hn:t.rows.length≤1000000) :
  Calls Tryz.prog 64 #[.agg #[FH FI H,FH FI 4,FD M outs.length J,FD Ai V Z,FD I cols.length cc,FC (bs op),FC (bs lc),FH FI O,FH FI ln,FC (bs lw),FC (bs N),FH FI rk,FH FI U,FC (bs D),FH FI h],FD (some ⟨b,o,none⟩) nt ct,FD OA no od] w fun e w'=>dw (.ok [cK t cols]) e w'∧aa [] w w':=by
 have ba:(0:Int)<(nt:Int):=by omega
 have bc:b<w.heap.size:=Fq _ _ a6;have ad:Hid (aa [] w ((w.alloc (FG #[FH FI H,FH FI 4,FD M outs.length J,FD Ai V Z,FD I cols.length cc,FC (bs op),FC (bs lc),FH FI O,FH FI ln,FC (bs lw),FC (bs N),FH FI rk,FH FI U,FC (bs D),FH FI h] 50)).alloc (FG #[FD A t.cols.length c,FD B t.rows.length d] 54))):=Fk (((Fz _ _).alloc _).alloc _);have a5:=Fk (ao.alloc (FA w 50 #[FH FI H,FH FI 4,FD M outs.length J,FD Ai V Z,FD I cols.length cc,FC (bs op),FC (bs lc),FH FI O,FH FI ln,FC (bs lw),FC (bs N),FH FI rk,FH FI U,FC (bs D),FH FI h]) (FG #[FD A t.cols.length c,FD B t.rows.length d] 54));have a0:=Fk (FA (w.alloc (FG #[FH FI H,FH FI 4,FD M outs.length J,FD Ai V Z,FD I cols.length cc,FC (bs op),FC (bs lc),FH FI O,FH FI ln,FC (bs lw),FC (bs N),FH FI rk,FH FI U,FC (bs D),FH FI h] 50)) 54 #[FD A t.cols.length c,FD B t.rows.length d]);rw[ap] at a0;have a7:Hid (∀ W,aa [] w W→Calls Tryz.prog 100 #[.agg #[FH FI H,FH FI 4,FD M outs.length J,FD Ai V Z,FD I cols.length cc,FC (bs op),FC (bs lc),FH FI O,FH FI ln,FC (bs lw),FC (bs N),FH FI rk,FH FI U,FC (bs D),FH FI h],.agg #[FD A t.cols.length c,FD B t.rows.length d]] W fun e w'=>(∃ v,e=FF v∧cC w' v (cK t cols))∧aa [] W w'):=Fk fun W q =>
  pd (⟨H,4,outs,[],cols,op,⟨lc,⟨O,ln,lw⟩⟩,⟨N,⟨rk,U,D⟩⟩,h⟩:Jb) t M J Ai V Z I cc A B c d W (hT.quiet q) (a2.keep q) a4 aA av hn outs.length
 generalize cK t cols=DG at *;clear hT a2 aA av;go_enter Tryz.func64,Tryz.ntmps64
 go_wp2_with fail
 refine (a7.out _ ad.out).mono ?_;rintro e w5 ⟨⟨v,rfl,hv⟩,a1⟩;have HV:=Fk hv;have a3:=Fk (ad.out.trans a1);obtain ⟨A3,c3,a8,_,_⟩:=HV.out;subst a8;clear hv a1 a5 a0;go_wp2;go_ret2;exact ⟨⟨_,1,rfl,Fm _,em HV.out _⟩,a3.out.alloc _⟩
theorem D6 (t:Tb) (n1 n2:Bs) (k m:Nat) (hk:an t.cols n1=some k) (hm:an t.cols n2=some m) (I J:Nat) (OA:Option Addr) (no od:Nat) (b o:Nat) (nt ct:Nat) (A B:Option Addr) (c d:Nat) (H h Z ln rk rn:Int) (outs:List Bs) (op lc lw V D:Bs) (U:Option Addr) (O:Nat) (Ai:Option Addr) (ni ci:Nat) (cc:Nat) (w:World)
  (a0:w.cell? ⟨b,o,none⟩=some (FD A t.cols.length c)) (a6:w.cell? ⟨b,o+1,none⟩=some (FD B t.rows.length d)) (hT:aY w t A B c d) (a3:1≤nt) (a2:2≤cc) (s0:w.cell? ⟨I,J,none⟩=some (FC (bs n1))) (s1:w.cell? ⟨I,J+1,none⟩=some (FC (bs n2))) (aA:∀ r∈t.rows,r.length=t.cols.length) (ad:∀ r∈t.rows,-1000000000≤(r.getD m zV).num∧(r.getD m zV).num≤1000000000) (hn:t.rows.length≤100) :
  Calls Tryz.prog 64 #[.agg #[FH FI H,FH FI 8,FD U outs.length O,FD Ai ni ci,FD (some ⟨I,J,none⟩) 2 cc,FC (bs op),FC (bs lc),FH FI Z,FH FI ln,FC (bs lw),FC (bs V),FH FI rk,FH FI rn,FC (bs D),FH FI h],FD (some ⟨b,o,none⟩) nt ct,FD OA no od] w fun e w'=>dw (AW (p6 (aM op k m (cK t [n1])))) e w'∧aa [] w w':=by
 have a5:(0:Int)<(nt:Int):=by omega
 have a7:b<w.heap.size:=Fq _ _ a0;have M:Hid (aa [] w ((w.alloc (FG #[FH FI H,FH FI 8,FD U outs.length O,FD Ai ni ci,FD (some ⟨I,J,none⟩) 2 cc,FC (bs op),FC (bs lc),FH FI Z,FH FI ln,FC (bs lw),FC (bs V),FH FI rk,FH FI rn,FC (bs D),FH FI h] 50)).alloc (FG #[FD A t.cols.length c,FD B t.rows.length d] 54))):=Fk (((Fz _ _).alloc _).alloc _);have a4:=Fk (ao.alloc (FA w 50 #[FH FI H,FH FI 8,FD U outs.length O,FD Ai ni ci,FD (some ⟨I,J,none⟩) 2 cc,FC (bs op),FC (bs lc),FH FI Z,FH FI ln,FC (bs lw),FC (bs V),FH FI rk,FH FI rn,FC (bs D),FH FI h]) (FG #[FD A t.cols.length c,FD B t.rows.length d] 54));have a1:=Fk (FA (w.alloc (FG #[FH FI H,FH FI 8,FD U outs.length O,FD Ai ni ci,FD (some ⟨I,J,none⟩) 2 cc,FC (bs op),FC (bs lc),FH FI Z,FH FI ln,FC (bs lw),FC (bs V),FH FI rk,FH FI rn,FC (bs D),FH FI h] 50)) 54 #[FD A t.cols.length c,FD B t.rows.length d]);rw[ap] at a1;have N:Hid (∀ W,aa [] w W→Calls Tryz.prog 104 #[.agg #[FH FI H,FH FI 8,FD U outs.length O,FD Ai ni ci,FD (some ⟨I,J,none⟩) 2 cc,FC (bs op),FC (bs lc),FH FI Z,FH FI ln,FC (bs lw),FC (bs V),FH FI rk,FH FI rn,FC (bs D),FH FI h],.agg #[FD A t.cols.length c,FD B t.rows.length d]] W fun e w'=>jA (p6 (aM op k m (cK t [n1]))) e w'∧aa [] W w'):=Fk fun W q =>
  vN t n1 n2 k m hk hm H 8 h Z ln rk rn outs.length op lc lw V D U O Ai ni ci I J cc a2 A B c d W (q.cell_of s0 (by simp)) (q.cell_of s1 (by simp)) (hT.quiet q) aA ad hn
 generalize p6 (aM op k m (cK t [n1]))=R at *;clear hT s0 s1 aA ad
 cases R with
 | none =>
  have HC:Hid (∀ W,aa [] w W→Calls Tryz.prog 104 #[.agg #[FH FI H,FH FI 8,FD U outs.length O,FD Ai ni ci,FD (some ⟨I,J,none⟩) 2 cc,FC (bs op),FC (bs lc),FH FI Z,FH FI ln,FC (bs lw),FC (bs V),FH FI rk,FH FI rn,FC (bs D),FH FI h],.agg #[FD A t.cols.length c,FD B t.rows.length d]] W fun e w'=>e=FF (.tuple #[FD none 0 0,.iface 37 (FH FI 2)])∧aa [] W w'):=N;clear N;go_enter Tryz.func64,Tryz.ntmps64
  go_wp2_with fail
  refine (HC.out _ M.out).mono ?_;rintro e w5 ⟨rfl,av⟩;go_wp2;go_ret2;exact ⟨rfl,M.out.trans av⟩
 | some l =>
  have HC:Hid (∀ W,aa [] w W→Calls Tryz.prog 104 #[.agg #[FH FI H,FH FI 8,FD U outs.length O,FD Ai ni ci,FD (some ⟨I,J,none⟩) 2 cc,FC (bs op),FC (bs lc),FH FI Z,FH FI ln,FC (bs lw),FC (bs V),FH FI rk,FH FI rn,FC (bs D),FH FI h],.agg #[FD A t.cols.length c,FD B t.rows.length d]] W fun e w'=>(∃ g,e=FF (.tuple #[FD (some ⟨g,0,none⟩) 1 1,.nilIface])∧fk w' (some ⟨g,0,none⟩) [l])∧aa [] W w'):=N;clear N;go_enter Tryz.func64,Tryz.ntmps64
  go_wp2_with fail
  refine (HC.out _ M.out).mono ?_;rintro e w5 ⟨⟨g,rfl,hr⟩,av⟩;go_wp2;go_ret2;exact ⟨⟨_,1,rfl,Fm _,hr⟩,M.out.trans av⟩
theorem D7 (t:Tb) (u:Tb) (n1 n2:Bs) (k m:Nat) (hk:an t.cols n1=some k) (hm:an u.cols n2=some m) (A2 B2:Option Addr) (c2 d2:Nat) (N O:Nat) (OA:Option Addr) (no od:Nat) (b o:Nat) (nt ct:Nat) (A B:Option Addr) (c d:Nat) (H h U Z rk rn:Int) (outs:List Bs) (op lc lw rc D:Bs) (Ao:Option Addr) (co:Nat) (Ai:Option Addr) (ni V:Nat) (cc:Nat) (w:World)
  (a2:w.cell? ⟨b,o,none⟩=some (FD A t.cols.length c)) (a8:w.cell? ⟨b,o+1,none⟩=some (FD B t.rows.length d)) (hT:aY w t A B c d) (bz:2≤nt) (s0:w.cell? ⟨N,O,none⟩=some (FC (bs n1))) (s1:w.cell? ⟨N,O+1,none⟩=some (FC (bs n2))) (ad:w.cell? ⟨b,o+1*2,none⟩=some (FD A2 u.cols.length c2)) (aA:w.cell? ⟨b,o+1*2+1,none⟩=some (FD B2 u.rows.length d2)) (hU:aY w u A2 B2 c2 d2) (a0:∀ r∈t.rows,r.length=t.cols.length) (a3:∀ r∈u.rows,r.length=u.cols.length) (bb:t.cols.length≤100) (a5:u.cols.length≤100) (hn:t.rows.length≤100) (a9:u.rows.length≤100) :
  Calls Tryz.prog 64 #[.agg #[FH FI H,FH FI 7,FD Ao outs.length co,FD Ai ni V,FD (some ⟨N,O,none⟩) 2 cc,FC (bs op),FC (bs lc),FH FI U,FH FI Z,FC (bs lw),FC (bs rc),FH FI rk,FH FI rn,FC (bs D),FH FI h],FD (some ⟨b,o,none⟩) nt ct,FD OA no od] w fun e w'=>dw (.ok [bK k m t.rows u.rows]) e w'∧aa [] w w':=by
 have bj:(0:Int)<(nt:Int):=by omega
 have bo:(1:Int)<(nt:Int):=by omega
 have ba:b<w.heap.size:=Fq _ _ a2;have I:Hid (aa [] w ((w.alloc (FG #[FH FI H,FH FI 7,FD Ao outs.length co,FD Ai ni V,FD (some ⟨N,O,none⟩) 2 cc,FC (bs op),FC (bs lc),FH FI U,FH FI Z,FC (bs lw),FC (bs rc),FH FI rk,FH FI rn,FC (bs D),FH FI h] 50)).alloc (FG #[FD A t.cols.length c,FD B t.rows.length d] 54))):=Fk (((Fz _ _).alloc _).alloc _);have M:=Fk (ao.alloc (FA w 50 #[FH FI H,FH FI 7,FD Ao outs.length co,FD Ai ni V,FD (some ⟨N,O,none⟩) 2 cc,FC (bs op),FC (bs lc),FH FI U,FH FI Z,FC (bs lw),FC (bs rc),FH FI rk,FH FI rn,FC (bs D),FH FI h]) (FG #[FD A t.cols.length c,FD B t.rows.length d] 54));have J:=Fk (FA (w.alloc (FG #[FH FI H,FH FI 7,FD Ao outs.length co,FD Ai ni V,FD (some ⟨N,O,none⟩) 2 cc,FC (bs op),FC (bs lc),FH FI U,FH FI Z,FC (bs lw),FC (bs rc),FH FI rk,FH FI rn,FC (bs D),FH FI h] 50)) 54 #[FD A t.cols.length c,FD B t.rows.length d]);rw[ap] at J;have a4:Hid (∀ W,aa [] w W→Calls Tryz.prog 103 #[.agg #[FH FI H,FH FI 7,FD Ao outs.length co,FD Ai ni V,FD (some ⟨N,O,none⟩) 2 cc,FC (bs op),FC (bs lc),FH FI U,FH FI Z,FC (bs lw),FC (bs rc),FH FI rk,FH FI rn,FC (bs D),FH FI h],.agg #[FD A t.cols.length c,FD B t.rows.length d],.agg #[FD A2 u.cols.length c2,FD B2 u.rows.length d2]] W fun e w'=>(∃ v,e=FF v∧cC w' v (bK k m t.rows u.rows))∧aa [] W w'):=Fk fun W q =>
  yL t u n1 n2 k m hk hm H 7 h U Z rk rn outs.length op lc lw rc D Ao co Ai ni V N O cc A B c d A2 B2 c2 d2 W (q.cell_of s0 (by simp)) (q.cell_of s1 (by simp)) (hT.quiet q) (hU.quiet q) a0 a3 bb a5 hn a9
 generalize bK k m t.rows u.rows=DG at *;clear hT hU s0 s1 a0 a3;go_enter Tryz.func64,Tryz.ntmps64
 go_upto_region 37 with (fail)
 obtain ⟨w2,a1⟩:∃ w2,((w.alloc (FG #[FH FI H,FH FI 7,FD Ao outs.length co,FD Ai ni V,FD (some ⟨N,O,none⟩) 2 cc,FC (bs op),FC (bs lc),FH FI U,FH FI Z,FC (bs lw),FC (bs rc),FH FI rk,FH FI rn,FC (bs D),FH FI h] 50)).alloc (FG #[FD A t.cols.length c,FD B t.rows.length d] 54))=w2:=⟨_,rfl⟩
 rw[a1] at I M J ⊢;obtain ⟨bx,av⟩:∃ bx,w.heap.size=bx:=⟨_,rfl⟩
 rw[av] at M J ⊢;clear a1 av a2 a8;obtain ⟨x0,x1,x2,x3,x4,x5,x6,x7,x8,x9,bt,bX,bv,bk,bq⟩:=oO M.out;have br:bx<w2.heap.size:=M.out.lt;have t0:w2.cell? ⟨bx+1,0,none⟩=some (FD A t.cols.length c):=J.out.cell 0;have t1:w2.cell? ⟨bx+1,1,none⟩=some (FD B t.rows.length d):=J.out.cell 1;have bm:bx+1<w2.heap.size:=J.out.lt;have e2:=I.out.cell_of ad (by simp);have e3:=I.out.cell_of aA (by simp);have be:b<w2.heap.size:=Nat.lt_of_lt_of_le ba I.out.size;clear ad aA;go_cut [6,7] (fun v q wx=>∃ g,v=FD (some ⟨g,0,none⟩) 1 1∧q= .nilIface∧Hid (fk wx (some ⟨g,0,none⟩) [DG])∧Hid (aa [] w wx))
 case first =>
  go_region_law ((go_simp;go_at_call 103;refine (a4.out _ I.out.drew).mono ?_;rintro e w5 ⟨⟨v,rfl,hv⟩,a7⟩;have HV:=Fk hv;obtain ⟨A3,c3,a6,_,_⟩:=hv;subst a6))
  all_goals
   go_wp2;go_meet
   case rel=>exact ⟨_,rfl,rfl,Fk (em HV.out _),Fk ((I.out.drew.trans a7).alloc _)⟩
 obtain ⟨g,rfl,rfl,HR,HK⟩:=hcut;go_wp2;go_ret2;exact ⟨⟨_,1,rfl,Fm _,HR.out⟩,HK.out⟩
end
section
open Go.RowKit Go.BigFrame
attribute [local go_sem] ag ab ae af
attribute [local go_sem] KW.cell
def ep (cs:List Cl) (r:List Vl) (n:Bs):Vl:=match an cs n with
 | none=>zV
 | some k=>r.getD k zV
theorem p8 {α β:Type} (f:α→β) (l:List α) (m:Nat) (h:m<l.length):(l.map f).take (m+1)=(l.map f).take m++[f l[m]]:=by
 rw[List.take_succ_eq_append_getElem (by simpa using h),List.getElem_map]
theorem Eb (t:Tb) (OA:Option Addr) (no od:Nat) (b o:Nat) (nt ct:Nat) (A B:Option Addr) (c d:Nat) (e5:1≤nt) (a2 J lk ln rk rn:Int) (outs cols:List Bs) (op lc lw rc U:Bs) (Ao:Option Addr) (co:Nat) (Ai:Option Addr) (ni ci:Nat) (Ac:Option Addr) (cc:Nat) (w:World)
  (cq:w.cell? ⟨b,o,none⟩=some (FD A t.cols.length c)) (dz:w.cell? ⟨b,o+1,none⟩=some (FD B t.rows.length d)) (hT:aY w t A B c d) (b3:∀ r∈t.rows,r.length=t.cols.length) (cD:∀ n∈cols,∃ k,an t.cols n=some k) (Z:Rd w [] 1 Ac cols.length (strs cols)) (dB:cols.length≤100) :
  Calls Tryz.prog 64 #[.agg #[FH FI a2,FH FI 3,FD Ao outs.length co,FD Ai ni ci,FD Ac cols.length cc,FC (bs op),FC (bs lc),FH FI lk,FH FI ln,FC (bs lw),FC (bs rc),FH FI rk,FH FI rn,FC (bs U),FH FI J],FD (some ⟨b,o,none⟩) nt ct,FD OA no od] w fun e w'=>dw (.ok [t.rows.map fun r=>cols.map (ep t.cols r)]) e w'∧aa [] w w':=by
 obtain ⟨ir,c4,cm,bv,bZ⟩:=info_parts jt;obtain ⟨iv,d5,c0,c3,b4⟩:=info_parts Db;have ex:(0:Int)<(nt:Int):=by omega
 have HT:=Fk hT;have e4:b<w.heap.size:=Fq _ _ cq;have bm:Hid (aa [] w ((w.alloc (FG #[FH FI a2,FH FI 3,FD Ao outs.length co,FD Ai ni ci,FD Ac cols.length cc,FC (bs op),FC (bs lc),FH FI lk,FH FI ln,FC (bs lw),FC (bs rc),FH FI rk,FH FI rn,FC (bs U),FH FI J] 50)).alloc (FG #[FD A t.cols.length c,FD B t.rows.length d] 54))):=Fk (((Fz _ _).alloc _).alloc _);have a6:=Fk (ao.alloc (FA w 50 #[FH FI a2,FH FI 3,FD Ao outs.length co,FD Ai ni ci,FD Ac cols.length cc,FC (bs op),FC (bs lc),FH FI lk,FH FI ln,FC (bs lw),FC (bs rc),FH FI rk,FH FI rn,FC (bs U),FH FI J]) (FG #[FD A t.cols.length c,FD B t.rows.length d] 54));have a3:=Fk (FA (w.alloc (FG #[FH FI a2,FH FI 3,FD Ao outs.length co,FD Ai ni ci,FD Ac cols.length cc,FC (bs op),FC (bs lc),FH FI lk,FH FI ln,FC (bs lw),FC (bs rc),FH FI rk,FH FI rn,FC (bs U),FH FI J] 50)) 54 #[FD A t.cols.length c,FD B t.rows.length d]);rw[ap] at a3;have eY:=hT.lm;have c9:=Fk b3;have d1:=Fk cD;have c5:=Fk Z;have d3:=Fk (fun (nm:Bs) W (q:aa [] w W)=>bQ t.cols nm A c W (hT.cols.keep q) hT.ln);have e7:=hT.ln;obtain ⟨nC,bc⟩:∃ n,cols.length=n:=⟨_,rfl⟩
 have bj:=Fk bc;rw[bc] at bm a6 a3 dB ⊢;clear hT b3 cD Z bc;go_enter Tryz.func64,Tryz.ntmps64
 go_wp2;obtain ⟨w2,b5⟩:∃ w2,((w.alloc (FG #[FH FI a2,FH FI 3,FD Ao outs.length co,FD Ai ni ci,FD Ac nC cc,FC (bs op),FC (bs lc),FH FI lk,FH FI ln,FC (bs lw),FC (bs rc),FH FI rk,FH FI rn,FC (bs U),FH FI J] 50)).alloc (FG #[FD A t.cols.length c,FD B t.rows.length d] 54))=w2:=⟨_,rfl⟩
 rw[b5] at bm a6 a3 ⊢;obtain ⟨bx,bz⟩:∃ bx,w.heap.size=bx:=⟨_,rfl⟩
 rw[bz] at a6 a3 ⊢;clear b5 bz cq dz;go_loopw [13,76] (fun u i wx=>∃ (m:Nat) (v:Value),v=u∧m≤t.rows.length∧i=FH FI m∧Hid (iK wx w2.heap.size v ((t.rows.take m).map fun r=>cols.map (ep t.cols r)))∧aa [] w2 wx) (fun _ i _=>t.rows.length-(intOf i).toNat)
 case atStart=>exact ⟨0,_,rfl,Fu _,rfl,iK.nil _ _,Fz _ _⟩
 obtain ⟨m,v,rfl,hm,rfl,HG,hk⟩:=hrel;have HK:=Fk hk;have bq:=Fk (bm.out.trans hk);clear hk;by_cases br:m<t.rows.length
 ·obtain ⟨us,dq,cx,ch⟩:=HT.out.rows
  have cz:m<us.length:=by omega
  have dr:=ch m cz br;obtain ⟨b7,o7,c8,_,eX,b8⟩:=cx.open' (by omega) (by omega);have d7:=b8 (m*1) us[m] (by rw[Nat.mul_one];exact Fp cz);rw[Nat.mul_one] at d7;have bb:t.rows[m]∈t.rows:=Fs br;have cy:(t.rows.take (m+1)).map (fun r=>cols.map (ep t.cols r))=(t.rows.take m).map (fun r=>cols.map (ep t.cols r))++[cols.map (ep t.cols t.rows[m])]:=by rw[List.take_succ_eq_append_getElem br,List.map_append];rfl
  have a9:((t.rows.take m).map (fun r=>cols.map (ep t.cols r))).length=m:=by rw[List.length_map,Fw];omega
  have d9:=Fk cy;have V:=Fk a9;have bX:=c9.out _ bb;generalize t.rows[m]=r at *;obtain ⟨Ar,cr,hu,eA,a0⟩:=dr;rw[hu] at d7;have d4:=Fk a0;have ev:=Fk bX;have d8:=bq.out.cell_of d7 (by simp);subst c8;have y4:wr.cell? ⟨bx,4,none⟩=some (FD Ac nC cc):=HK.out.cell_of (a6.out.cell 4) (by simp);have d0:bx<wr.heap.size:=Fq _ _ y4;clear cy hu dq cx ch b8 d7 a0 a9 bb bX;go_wp2;obtain ⟨w8,rfl⟩:∃ w8:World,w8=wr:=⟨_,rfl⟩
  go_loopw [16,83] (fun u i wx=>∃ (I:Nat) (v2:Value),v2=u∧I≤nC∧i=FH FI I∧wx.ownsRow w8.heap.size 46 3 v2 I (al ((cols.map (ep t.cols r)).take I))∧aa [] w8 wx) (fun _ i _=>nC-(intOf i).toNat)
  case atStart=>exact ⟨0,_,rfl,Fu _,rfl,World.ownsRow_nil _ _ _ _,Fz _ _⟩
  obtain ⟨I,v2,rfl,ey,rfl,ba,be⟩:=hrel;have bk:=Fk ba;have ad:=Fk be;have aA:=Fk (bq.out.trans be);clear ba be;by_cases c1:I<nC
  ·have bo:I<cols.length:=by rw[bj.out];exact c1
   obtain ⟨b9,o9,d2,_,e6,a8⟩:=c5.out.open' (by omega) (by omega);have e0:=aA.out.cell_of (a8 I _ (cw cols I bo)) (by simp);obtain ⟨k,hk⟩:=d1.out cols[I] (Fs bo);have cd:=Fk (d3.out cols[I]);rw[hk] at cd;have ca:k<r.length:=by rw[ev.out];exact (List.findIdx?_eq_some_iff_getElem.1 hk).1
   have b0:ep t.cols r cols[I]=r[k]:=by
    unfold ep;rw[hk];simp only;rw[Fy,Fp ca];rfl
   have dv:Hid (al ((cols.map (ep t.cols r)).take (I+1))=al ((cols.map (ep t.cols r)).take I)++[FH FI r[k].kind,FH FI r[k].num,FC (bs r[k].word)]):=Fk (by
    rw[p8 _ _ _ bo,b0,ly])
   obtain ⟨b6,o6,er,_,eB,N⟩:=d4.out.open' (by omega) (by omega);obtain ⟨x0,x1,x2⟩:=ay r k ca;have f0:=aA.out.cell_of (N _ _ x0) (by simp);have f1:=aA.out.cell_of (N _ _ x1) (by simp);have f2:=aA.out.cell_of (N _ _ x2) (by simp);rw[←Nat.add_assoc] at f1 f2;have M:=Fk (show wr.cell? ⟨b6,o6+k*3,none⟩=_∧wr.cell? ⟨b6,o6+k*3+1,none⟩=_∧wr.cell? ⟨b6,o6+k*3+2,none⟩=_ from ⟨f0,f1,f2⟩);have z0:wr.cell? ⟨bx+1,0,none⟩=some (FD A t.cols.length c):=(HK.out.trans ad.out).cell_of (a3.out.cell 0) (by simp);have e3:(0:Int)≤(k:Int):=by omega
   have e1:(k:Int)<(r.length:Int):=by omega
   subst d2 er;clear x0 x1 x2 N a8 b0 f0 f1 f2 hk;generalize cols[I]=nm at *;generalize r[k]=xv at *;have a5:=Fk (show I+1≤maxLen∧(I+1)*32≤140737488355328 by simp only[maxLen];omega);go_wp2_with fail
   refine (cd.out _ aA.out).mono ?_;rintro e w5 ⟨rfl,O⟩;simp only[eG];have f0:=O.cell_of M.out.1 (by simp);have f1:=O.cell_of M.out.2.1 (by simp);have f2:=O.cell_of M.out.2.2 (by simp);have cj:=Fk (aE bk.out O (fun _ _=>by simp));have cn:=Fk (ad.out.trans O);have ez:=cn.out.size;clear O;go_wp2_with (at_builtin;(refine wpList_append_lies _ rfl _ _ 89 rfl w8.heap.size 46 iv _ 3 32 Tryz.underlying89 d5 c0 c3 b4 rfl (by decide) _ I (al ((cols.map (ep t.cols r)).take I)) rfl (cj.out.alloc _) ⟨w5.heap.size,0,none⟩ 1 1 [FH FI xv.kind,FH FI xv.num,FC (bs xv.word)] rfl rfl (Fx (heap_alloc_new _ _)) (by simp[Value.oneCell']) (by decide) a5.out.1 a5.out.2 (by rw[ap];omega) _ rfl ?_);intro gw a4 w9 H D av a1)
   have bt:=Fk ((cn.out.alloc (FG #[FH FI xv.kind,FH FI xv.num,FC (bs xv.word)] 46)).grown D (fun g hg=> .inr (cj.out.lt g hg).1));rw[←dv.out] at H;have eb:=Fk H;clear H D av a1;go_wp2;go_roundw
   case rel=>exact ⟨I+1,_,rfl,by omega,by go_num,eb.out,bt.out⟩
   case measure=>simp[intOf];omega
  obtain rfl:I=nC:=by omega
  have ho:=bk.out;rw[List.take_of_length_le (by rw[List.length_map,bj.out];exact Fm _)] at ho;obtain ⟨A6,c6,et,_,_⟩:=iD ho;subst et;have en:Hid (wr.ownsRow w2.heap.size 46 3 (FD A6 I c6) (cols.map (ep t.cols r)).length (al (cols.map (ep t.cols r)))):=Fk (by
   rw[List.length_map,bj.out];exact gX ho HK.out.size)
  have es:=Fk (HG.out.keep ad.out);obtain ⟨hs,ce,a7,cg⟩:=es.out;have dt:=Fk a7;rw[V.out] at a7;have HO:=Fk a7;have el:=Fk cg;have ds:=Fk ce;have e2:w2.heap.size≤wr.heap.size:=Ft HK.out.size ad.out.size;have a5:=Fk (show m+1≤maxLen∧(m+1)*24≤140737488355328 by simp only[maxLen];omega);clear a7 cg ce ho bk y4 d8 d0;go_wp2_with (at_builtin;(refine wpList_append_lies _ rfl _ _ 52 rfl w2.heap.size 89 ir _ 1 24 Tryz.underlying52 c4 cm bv bZ rfl (by decide) _ m hs rfl (HO.out.alloc _) ⟨wr.heap.size,0,none⟩ 1 1 [FD A6 I c6] rfl rfl (Fx (heap_alloc_new _ _)) (by simp[Value.oneCell']) (by decide) a5.out.1 a5.out.2 (by rw[ap];omega) _ rfl ?_);intro gw a4 w9 H D av a1)
  have bt:=Fk (((HK.out.trans ad.out).alloc (FG #[FD A6 I c6] 89)).grown D (fun g hg=> .inr (HO.out.lt g hg).1));have c7:Hid (iK w9 w2.heap.size (FD (some ⟨gw,0,none⟩) (m+1) a4) ((t.rows.take (m+1)).map fun r=>cols.map (ep t.cols r))):=Fk (by
   rw[d9.out];have h:=gY (W:=wr) (W':=w9) (base:=w2.heap.size) (gw:=gw) (cap:=a4) ds.out el.out dt.out en.out D (by rw[V.out];exact H);rw[V.out] at h;exact h)
  clear H D av a1;go_wp2;go_roundw
  case rel=>exact ⟨m+1,_,rfl,by omega,by go_num,c7,bt.out⟩
  case measure=>simp[intOf];omega
 obtain rfl:m=t.rows.length:=by omega
 have hg:=HG.out;rw[List.take_length] at hg;obtain ⟨B6,d6,hv,cv,a0⟩:=hg.rd;subst hv;have b1:Hid (cC wr (FD B6 (t.rows.map fun r=>cols.map (ep t.cols r)).length d6) (t.rows.map fun r=>cols.map (ep t.cols r))):=Fk ⟨B6,d6,rfl,cv,a0⟩;have cu:(t.rows.map fun r=>cols.map (ep t.cols r)).length=t.rows.length:=List.length_map ..;rw[cu] at b1;clear hg cv a0 HG;simp only[List.length_map];clear cu;go_wp2;go_ret2;exact ⟨⟨_,1,rfl,Fm _,em b1.out _⟩,bq.out.alloc _⟩
end
section
open Go.RowKit
theorem Cs {j:Jb} {ins:List (List Cl)} {out:List (List Cl)} (H:j.code=2) (h:aK j ins= .ok out):jS j (ins.getD 0 [])= .ok out:=by
 unfold aK at h;by_cases D:(aw j.code).1=0∨ins.length≠(aw j.code).1∨j.outs.length≠(aw j.code).2
 ·rw[if_pos D] at h;cases h
 rw[if_neg D,if_neg (by omega),if_pos H] at h;exact h
theorem Ct {j:Jb} {ins:List (List Cl)} {out:List (List Cl)} (H:j.code=3) (h:aK j ins= .ok out):bW j (ins.getD 0 [])= .ok out:=by
 unfold aK at h;by_cases D:(aw j.code).1=0∨ins.length≠(aw j.code).1∨j.outs.length≠(aw j.code).2
 ·rw[if_pos D] at h;cases h
 rw[if_neg D,if_neg (by omega),if_neg (by omega),if_pos (.inl H)] at h;exact h
theorem Cu (j:Jb) (a0:j.code=2∨j.code=3∨j.code=5∨j.code=6) (Ao:Option Addr) (co:Nat) (Ai:Option Addr) (ni ci:Nat) (N:Option Addr) (cc:Nat) (ins:List Tb) (AT:Option Addr) (ct:Nat) (w:World) (hE:mi w) (hJ:gT w j Ao co N cc) (hI:eu w AT ins) (hB:∀ t∈ins,AL t) (hl:ins.length≤4294967296) :
  Calls Tryz.prog 24 #[eH j Ao co Ai ni ci N cc,FD AT ins.length ct] w fun e w'=>qJ (j6 j ins) e w'∧aa [] w w':=by
 refine rX j Ao co Ai ni ci N cc ins AT ct w hI hB hl (fun W q AH ch hH=>?_) (fun out hr hc W q OA od=>?_)
 ·refine ot j Ao co Ai ni ci N cc (ins.map (·.cols)) AH ch W (hE.quiet q).c (hJ.quiet q) hH (fun l hm=>?_) (by omega) (fun h=>by omega)
  obtain ⟨t,ht,rfl⟩:=List.mem_map.1 hm;exact (hB t ht).ln
 have U:=ph hc;rw[List.length_map] at U;rcases a0 with h2|h3|h5|h6
 ·have h1:ins.length=1:=by rw[U,h2];rfl
  obtain ⟨t,rfl⟩:∃ t,ins=[t]:=by
   match ins,h1 with
   | [t],_=>exact ⟨t,rfl⟩
  have H:ak t=true:=hr t (by simp);have aA:jS j t.cols= .ok out:=Cs h2 hc;obtain ⟨⟨k,a6,a4,ad,h13,a5,a3⟩,_⟩:=vf.1 aA;obtain ⟨b,o,A1,c1,A2,c2,rfl,Z,O,hT⟩:=(hI.keep q).first (k:=0) (by simp) rfl (hB t (by simp));rw[Nat.zero_mul,Nat.add_zero] at Z O;obtain ⟨nm,a2⟩:∃ nm,j.cols=[nm]:=by
   match hj:j.cols,a6 with
   | [nm],_=>exact ⟨nm,rfl⟩
  have av:Rd W [] 1 N 1 (strs [nm]):=by
   have:=hJ.cols.keep q;rw[a2] at this;exact this
  have hk:an t.cols nm=some k:=by rw[a2] at ad;exact ad
  have J:bw j [t] out=AW (aO j t t.rows []):=by
   rw[gL (by omega) (by omega) (by omega)];unfold fo AW;simp only;rw[if_neg (by omega),if_pos h2];rfl
  rw[J];have a8:∀ V,aa [] W V→Calls Tryz.prog 99 #[eH j Ao co Ai ni ci N cc,.agg #[FD A1 t.cols.length c1,FD A2 t.rows.length c2]] V fun e w'=>jA (aO j t t.rows []) e w'∧aa [] V w':=fun V qv =>
   tW j t k nm A1 A2 c1 c2 Ao co Ai ni ci N cc V (hT.quiet qv) a2 hk (av.keep qv) (gh H) (kH H (by rw[a5];decide)) (kH H (by rw[a3];decide)) (fun r hm=>wJ H a5 hm) (fun r hm=>wJ H a3 hm)
  generalize aO j t t.rows []=CG at *;obtain ⟨M,code,outs,js,cols,op,⟨lc,lk,ln,lw⟩,⟨rc,rk,rn,I⟩,D⟩:=j;simp only at h2;subst h2;exact D4 t OA out.length od b o 1 ct A1 A2 c1 c2 (by omega) M D lk ln rk rn outs cols op lc lw rc I Ao co Ai ni ci N cc W Z O hT CG a8
 ·have h1:ins.length=1:=by rw[U,h3];rfl
  obtain ⟨t,rfl⟩:∃ t,ins=[t]:=by
   match ins,h1 with
   | [t],_=>exact ⟨t,rfl⟩
  have H:ak t=true:=hr t (by simp);have aA:bW j t.cols= .ok out:=Ct h3 hc;obtain ⟨⟨_,a4,ad,_⟩,_⟩:=fE.1 aA;obtain ⟨b,o,A1,c1,A2,c2,rfl,Z,O,hT⟩:=(hI.keep q).first (k:=0) (by simp) rfl (hB t (by simp));rw[Nat.zero_mul,Nat.add_zero] at Z O;have J:bw j [t] out= .ok [t.rows.map fun r=>j.cols.map (ep t.cols r)]:=by
   rw[gL (by omega) (by omega) (by omega)];unfold fo;simp only;rw[if_neg (by omega),if_neg (by omega),if_pos h3];rfl
  rw[J];have av:=hJ.cols.keep q;obtain ⟨M,code,outs,js,cols,op,⟨lc,lk,ln,lw⟩,⟨rc,rk,rn,I⟩,D⟩:=j;simp only at h3;subst h3;exact Eb t OA out.length od b o 1 ct A1 A2 c1 c2 (by omega) M D lk ln rk rn outs cols op lc lw rc I Ao co Ai ni ci N cc W Z O hT (gh H) ad av (by simp only at a4;omega)
 ·have h1:ins.length=2:=by rw[U,h5];rfl
  obtain ⟨t,u,rfl⟩:∃ t u,ins=[t,u]:=by
   match ins,h1 with
   | [t,u],_=>exact ⟨t,u,rfl⟩
  have H:ak t=true:=hr t (by simp);have a9:ak u=true:=hr u (by simp);obtain ⟨b,o,A1,c1,A2,c2,rfl,Z,O,hT⟩:=(hI.keep q).first (k:=0) (by simp) rfl (hB t (by simp));obtain ⟨b',o',A3,c3,A4,c4,a1,d2,d3,hU⟩:=(hI.keep q).first (k:=1) (by simp) rfl (hB u (by simp));injection a1 with a1;injection a1 with hb ho _;subst hb ho;rw[Nat.zero_mul,Nat.add_zero] at Z O;have J:bw j [t,u] out= .ok [t.rows++u.rows]:=by
   rw[gL (by omega) (by omega) (by omega)];unfold fo;simp only;rw[if_neg (by omega),if_neg (by omega),if_neg (by omega),if_pos h5];rfl
  rw[J];obtain ⟨M,code,outs,js,cols,op,⟨lc,lk,ln,lw⟩,⟨rc,rk,rn,I⟩,D⟩:=j;simp only at h5;subst h5;exact DZ t u OA out.length od b o 2 ct A1 A2 c1 c2 (by omega) M D lk ln rk rn outs cols op lc lw rc I Ao co Ai ni ci N cc W Z O hT A3 A4 c3 c4 d3 hU (by have:=bg H;omega) (by have:=bg a9;omega)
 have h1:ins.length=1:=by rw[U,h6];rfl
 obtain ⟨t,rfl⟩:∃ t,ins=[t]:=by
  match ins,h1 with
  | [t],_=>exact ⟨t,rfl⟩
 have H:ak t=true:=hr t (by simp);obtain ⟨b,o,A1,c1,A2,c2,rfl,Z,O,hT⟩:=(hI.keep q).first (k:=0) (by simp) rfl (hB t (by simp));rw[Nat.zero_mul,Nat.add_zero] at Z O;have J:bw j [t] out= .ok [aI t.rows [] []]:=by
  rw[gL (by omega) (by omega) (by omega)];unfold fo;simp only;rw[if_neg (by omega),if_neg (by omega),if_neg (by omega),if_neg (by omega)];rfl
 rw[J];have a7:=(hE.quiet q).t;obtain ⟨M,code,outs,js,cols,op,⟨lc,lk,ln,lw⟩,⟨rc,rk,rn,I⟩,D⟩:=j;simp only at h6;subst h6;exact DY t H OA out.length od b o 1 ct A1 A2 c1 c2 (by omega) M D lk ln rk rn outs cols op lc lw rc I Ao co Ai ni ci N cc W Z O hT a7
theorem Cw {j:Jb} {ins:List (List Cl)} {out:List (List Cl)} (H:j.code=4) (h:aK j ins= .ok out):bW j (ins.getD 0 [])= .ok out:=by
 unfold aK at h;by_cases D:(aw j.code).1=0∨ins.length≠(aw j.code).1∨j.outs.length≠(aw j.code).2
 ·rw[if_pos D] at h;cases h
 rw[if_neg D,if_neg (by omega),if_neg (by omega),if_pos (.inr H)] at h;exact h
theorem Cx {j:Jb} {ins:List (List Cl)} {out:List (List Cl)} (H:j.code=7) (h:aK j ins= .ok out):dg j (ins.getD 0 []) (ins.getD 1 [])= .ok out:=by
 unfold aK at h;by_cases D:(aw j.code).1=0∨ins.length≠(aw j.code).1∨j.outs.length≠(aw j.code).2
 ·rw[if_pos D] at h;cases h
 rw[if_neg D,if_neg (by omega),if_neg (by omega),if_neg (by omega),if_neg (by omega),if_pos H] at h;exact h
theorem Cy {j:Jb} {ins:List (List Cl)} {out:List (List Cl)} (H:j.code=8) (h:aK j ins= .ok out):cF j (ins.getD 0 [])= .ok out:=by
 unfold aK at h;by_cases D:(aw j.code).1=0∨ins.length≠(aw j.code).1∨j.outs.length≠(aw j.code).2
 ·rw[if_pos D] at h;cases h
 rw[if_neg D,if_neg (by omega),if_neg (by omega),if_neg (by omega),if_neg (by omega),if_neg (by omega),if_pos H] at h;exact h
theorem pp {w:World} {I:Option Addr} {x y:Bs} (h:Rd w [] 1 I 2 (strs [x,y])):∃ H D,I=some ⟨H,D,none⟩∧w.cell? ⟨H,D,none⟩=some (FC (bs x))∧w.cell? ⟨H,D+1,none⟩=some (FC (bs y)):=by
 obtain ⟨b,o,e,_,_,J⟩:=h.open' (by omega) (by omega);exact ⟨b,o,e,J 0 _ rfl,J 1 _ rfl⟩
theorem Ec (j:Jb) (Z:j.code=4∨j.code=7∨j.code=8) (Ao:Option Addr) (V:Nat) (Ai:Option Addr) (ni ci:Nat) (Ac:Option Addr) (cc:Nat) (ins:List Tb) (AT:Option Addr) (ct:Nat) (w:World) (hE:mi w) (hJ:gT w j Ao V Ac cc) (hI:eu w AT ins) (hB:∀ t∈ins,AL t) (a6:∀ t∈ins,t.cols.length≤4294967) (hl:ins.length≤4294967296) :
  Calls Tryz.prog 24 #[eH j Ao V Ai ni ci Ac cc,FD AT ins.length ct] w fun e w'=>qJ (j6 j ins) e w'∧aa [] w w':=by
 refine rX j Ao V Ai ni ci Ac cc ins AT ct w hI hB hl (fun W q AH ch hH=>?_) (fun out hr hc W q OA od=>?_)
 ·refine lY j Ao V Ai ni ci Ac cc (ins.map (·.cols)) AH ch W (hE.quiet q).c (hJ.quiet q) hH (fun l hm=>?_)
  obtain ⟨t,ht,rfl⟩:=List.mem_map.1 hm;exact a6 t ht
 have N:=ph hc;rw[List.length_map] at N;have av:=hJ.cols.keep q;have a7:=hJ.cc;rcases Z with h4|h7|h8
 ·have h1:ins.length=1:=by rw[N,h4];rfl
  obtain ⟨t,rfl⟩:∃ t,ins=[t]:=by
   match ins,h1 with
   | [t],_=>exact ⟨t,rfl⟩
  have D:ak t=true:=hr t (by simp);obtain ⟨⟨_,a9,a1,_⟩,_⟩:=fE.1 (Cw h4 hc);obtain ⟨b,o,A1,c1,A2,c2,rfl,U,O,hT⟩:=(hI.keep q).first (k:=0) (by simp) rfl (hB t (by simp));rw[Nat.zero_mul,Nat.add_zero] at U O;have J:bw j [t] out= .ok [cK t j.cols]:=by
   unfold bw;simp only;rw[if_pos h4];rfl
  rw[J];have a5:=hJ.lc;have:=bg D;obtain ⟨M,code,outs,js,cols,op,⟨lc,lk,ln,lw⟩,⟨rc,rk,rn,I⟩,h⟩:=j;simp only at h4;subst h4;exact D5 t cols Ac OA out.length od b o 1 ct A1 A2 c1 c2 M h lk ln rk rn outs op lc lw rc I Ao V Ai ni ci cc W U O hT (by omega) av a5 a1 (gh D) (by omega)
 ·have h1:ins.length=2:=by rw[N,h7];rfl
  obtain ⟨t,u,rfl⟩:∃ t u,ins=[t,u]:=by
   match ins,h1 with
   | [t,u],_=>exact ⟨t,u,rfl⟩
  have D:ak t=true:=hr t (by simp);have aA:ak u=true:=hr u (by simp);obtain ⟨x,y,k,m,H,hk,hm,_⟩:=qR (Cx h7 hc);have hk':an t.cols x=some k:=hk;have hm':an u.cols y=some m:=hm;obtain ⟨b,o,A1,c1,A2,c2,rfl,U,O,hT⟩:=(hI.keep q).first (k:=0) (by simp) rfl (hB t (by simp));obtain ⟨b',o',A3,c3,A4,c4,ad,d2,d3,hU⟩:=(hI.keep q).first (k:=1) (by simp) rfl (hB u (by simp));injection ad with ad;injection ad with hb ho _;subst hb ho;rw[Nat.zero_mul,Nat.add_zero] at U O;have J:bw j [t,u] out= .ok [bK k m t.rows u.rows]:=by
   unfold bw;simp only;rw[if_neg (by omega),if_pos h7,H];show Except.ok [bK (ed t.cols x) (ed u.cols y) t.rows u.rows]=_;rw[mQ hk',mQ hm']
  rw[J];have b1:=bg D;have b2:=bg aA;have b3:=(jE D).2.1;have b4:=(jE aA).2.1;obtain ⟨M,code,outs,js,cols,op,⟨lc,lk,ln,lw⟩,⟨rc,rk,rn,I⟩,h⟩:=j;simp only at h7 H;subst h7 H;obtain ⟨bc,oc,rfl,s0,s1⟩:=pp av;exact D7 t u x y k m hk' hm' A3 A4 c3 c4 bc oc OA out.length od b o 2 ct A1 A2 c1 c2 M h lk ln rk rn outs op lc lw rc I Ao V Ai ni ci cc W U O hT (by omega) s0 s1 d2 d3 hU (gh D) (gh aA) (by omega) (by omega) (by omega) (by omega)
 have h1:ins.length=1:=by rw[N,h8];rfl
 obtain ⟨t,rfl⟩:∃ t,ins=[t]:=by
  match ins,h1 with
  | [t],_=>exact ⟨t,rfl⟩
 have D:ak t=true:=hr t (by simp);obtain ⟨x,y,k,m,H,_,hk,hm,a4,_⟩:=pm (Cy h8 hc);have hk':an t.cols x=some k:=hk;have hm':an t.cols y=some m:=hm;obtain ⟨b,o,A1,c1,A2,c2,rfl,U,O,hT⟩:=(hI.keep q).first (k:=0) (by simp) rfl (hB t (by simp));rw[Nat.zero_mul,Nat.add_zero] at U O;have J:bw j [t] out=AW (p6 (aM j.op k m (cK t [x]))):=by
  unfold bw p6;simp only;rw[if_neg (by omega),if_neg (by omega),if_pos h8,H];show (if ((aM j.op (ed t.cols x) (ed t.cols y) (cK t [x])).any fun p=> !eO p.2)=true then Except.error 2 else Except.ok [dK (aM j.op (ed t.cols x) (ed t.cols y) (cK t [x]))])=_;rw[mQ hk',mQ hm'];split<;>rfl
 rw[J];have b1:=bg D;obtain ⟨a8,_,_⟩:=dG.1 hm';have hki':(t.cols.getD m zC).kind=1:=a4;obtain ⟨M,code,outs,js,cols,op,⟨lc,lk,ln,lw⟩,⟨rc,rk,rn,I⟩,h⟩:=j;simp only at h8 H;subst h8 H;obtain ⟨bc,oc,rfl,s0,s1⟩:=pp av;exact D6 t x y k m hk' hm' bc oc OA out.length od b o 1 ct A1 A2 c1 c2 M h lk ln rk rn outs op lc lw rc I Ao V Ai ni ci cc W U O hT (by omega) (by simpa using a7) s0 s1 (gh D) (fun r a0=>by
  obtain ⟨_,a2,a3⟩:=po D a0 a8;have:=rL a2 (a3.trans hki');exact ⟨this.1,this.2.1⟩) (by omega)
theorem Cz (j:Jb) (D:Option Addr) (h:Nat) (N:Option Addr) (I J:Nat) (H:Option Addr) (cc:Nat) (ins:List Tb) (M:Option Addr) (O:Nat) (w:World) (Z:mi w) (hJ:gT w j D h H cc) (hI:eu w M ins) (V:∀ t∈ins,AL t) (U:∀ t∈ins,t.cols.length≤4294967) (hl:ins.length≤4294967296) :
  Calls Tryz.prog 24 #[eH j D h N I J H cc,FD M ins.length O] w fun e w'=>qJ (j6 j ins) e w'∧aa [] w w':=by
 by_cases h1:j.code=1∨j.code=9
 ·exact Ea j h1 D h N I J H cc ins M O w Z hJ hI V hl
 by_cases h2:j.code=2∨j.code=3∨j.code=5∨j.code=6
 ·exact Cu j h2 D h N I J H cc ins M O w Z hJ hI V hl
 by_cases h3:j.code=4∨j.code=7∨j.code=8
 ·exact Ec j h3 D h N I J H cc ins M O w Z hJ hI V U hl
 refine rX j D h N I J H cc ins M O w hI V hl (fun W q AH ch hH=>?_) (fun out hr hc W q OA od=>?_)
 ·refine lY j D h N I J H cc (ins.map (·.cols)) AH ch W (Z.quiet q).c (hJ.quiet q) hH (fun l hm=>?_)
  obtain ⟨t,ht,rfl⟩:=List.mem_map.1 hm;exact U t ht
 unfold aK at hc;rw[if_pos] at hc
 ·cases hc
 left
 unfold aw;rw[if_neg (by omega),if_neg (by omega),if_neg (by omega)]
end
end Go.Proofs.YtecpeogejjibaaaGreatDoor
