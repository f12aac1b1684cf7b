/- The law's right: a flow that was read, and of which nothing is found. right, said yes. The law's more: a flow with one job more. The walk of the law's more. A flow with one job more: its words. -/
import Derived.Test.YtecpeogejjibaaaGreatDoorEmoM15
import Derived.Test.YtecpeogejjibaaaGreatDoorEmoM2
import Derived.Deep.DeepCutAuto
import Derived.Test.YtecpeogejjibaaaGreatDoorEmoM14
import Derived.Test.YtecpeogejjibaaaGreatDoorEmoM16
import Derived.Test.YtecpeogejjibaaaGreatDoorEmoM4
set_option linter.unusedSimpArgs false
set_option linter.unusedVariables false
set_option maxRecDepth 100000
set_option maxHeartbeats 16000000
namespace Go.Proofs.YtecpeogejjibaaaGreatDoor
open Go.Lib renaming hid → Fx
open _root_.Nat renaming le_refl → Fy, le_trans → FD
open _root_.List renaming length_append → Fz, getElem?_eq_getElem → FA
open Go.World renaming block_lt_of_cell? → FC
open aa renaming refl → FK
open ao renaming new → FL
open Go.Value renaming string → FM, slice → FN, pointer → FO, int → FR
open Go.Ending renaming returned → FP
open Go.Obj renaming cells → FQ
open Go.IntKind renaming i64 → FS
section
open Go.RowKit Go.BigFrame
attribute [local go_sem] ag ab ae af
theorem ik.box3 {W:World} {base X:Nat} {J M I u0 u1 u2:Value} {f:Fl} {cs:Array Value} (h:ik W base J M I f) (O:ao W X 29 cs):ik (((W.setCell ⟨X,0,none⟩ u0).setCell ⟨X,1,none⟩ u1).setCell ⟨X,2,none⟩ u2) base J M I f:=by
 have N:aa [X] W (((W.setCell ⟨X,0,none⟩ u0).setCell ⟨X,1,none⟩ u1).setCell ⟨X,2,none⟩ u2):=(((FK [X] W).setCell (.inl (by simp)) _).setCell (.inl (by simp)) _).setCell (.inl (by simp)) _;have D:dI [9,64,57,50,60] [X] W (((W.setCell ⟨X,0,none⟩ u0).setCell ⟨X,1,none⟩ u1).setCell ⟨X,2,none⟩ u2):=⟨N,fun x U=>⟨29,by rw[List.mem_singleton.1 U];exact O.ty,by decide⟩⟩;exact ⟨h.i0.far D (by decide) (by decide),h.i1.far D (by decide) (by decide),h.i2.far D (by decide)⟩
def pB (s:Bs):Option Fl:=if 1000<s.length then none else match fm s with
 | .error _=>none
 | .ok f=>match cQ f with
  | .error _=>none
  | .ok _=>some f
def Bw (R:Option Fl) (e:Ending) (w':World):Prop:=match R with
 | some f=>∃ base J I A1 D h c2,e=FP (.tuple #[.agg #[FN J f.ins.length I,FN A1 f.jobs.length D,FN h f.outs.length c2],.bool true])∧ik w' base (FN J f.ins.length I) (FN A1 f.jobs.length D) (FN h f.outs.length c2) f
 | none=>∃ J O I A1 N D h M c2,e=FP (.tuple #[.agg #[FN J O I,FN A1 N D,FN h M c2],.bool false])
theorem vS (s:Bs) (w:World) (hE:jU w) (hO:rC w) (hT:iJ w) :
  Calls Tryz.prog 7 #[FM (bs s)] w fun e w'=>Bw (pB s) e w'∧aa [] w w':=by
 have HE:=Fx hE;have HO:=Fx hO;have HT:=Fx hT;unfold pB;by_cases hs:1000<s.length
 ·rw[if_pos hs]
  have h1:(1000:Int)<(s.length:Int):=by omega
  clear hE hO hT;go_enter Tryz.func7,Tryz.ntmps7
  go_wp2
  (try simp only[Exit.inBlock,Exit.then])
  refine bodyPost_ret (bE rfl _ _ w.heap.size _ _ _ _ rfl (heap_alloc_new _ _) Tryz.underlying29 rfl (by kernel_rfl)) rfl ?_;exact ⟨⟨_,_,_,_,_,_,_,_,_,rfl⟩,(FK [] _).alloc _⟩
 rw[if_neg hs];have h1:¬(1000:Int)<(s.length:Int):=by omega
 obtain ⟨R,hR⟩:∃ R,fm s=R:=⟨_,rfl⟩
 have be:Hid (∀ f,R= .ok f→zu f):=Fx (fun f hf=>(pv (by omega) (hR.trans hf)).1);have H2:Hid (∀ W,aa [] w W→Calls Tryz.prog 17 #[FM (bs s)] W fun e w'=>jO R W.heap.size e w'∧aa [] W w'):=Fx (fun W z=>by
  rw[←hR];exact qT s (by omega) W (hE.quiet z))
 rw[hR]
 obtain ⟨Z,hZ⟩:∃ Z,(match R with
  | .error _=>none
  | .ok f=>match cQ f with
   | .error _=>none
   | .ok _=>some f)=Z:=⟨_,rfl⟩
 rw[hZ];have HZ:=Fx hZ;clear hE hO hT hR hZ;go_enter Tryz.func7,Tryz.ntmps7
 go_upto_region 3 with (fail)
 have ad:=FL w 29 #[FN none 0 0,FN none 0 0,FN none 0 0];have a6:=(FK [] w).alloc (FQ #[FN none 0 0,FN none 0 0,FN none 0 0] 29);obtain ⟨y0,bj⟩:∃ z,w.alloc (FQ #[FN none 0 0,FN none 0 0,FN none 0 0] 29)=z:=⟨_,rfl⟩
 rw[bj] at ad a6 ⊢;obtain ⟨X,hX⟩:∃ X,w.heap.size=X:=⟨_,rfl⟩
 rw[hX] at ad ⊢;have a7:=Fx ad;have bl:=Fx a6;have a9:Hid (w.heap.size≤X):=Fx (by omega);clear ad a6 bj hX;go_cut [4,5] (fun a b wx=>∃ F base U0 U1 U2,a=FO (some ⟨F,0,none⟩)∧Hid (ao wx F 29 #[U0,U1,U2])∧Hid (F≠X)∧Hid (ik wx base U0 U1 U2 (EW R).1)∧Hid (vR wx b R)∧Hid (aa [] y0 wx))
 case first =>
  go_wp2_with ((with_reducible refine (H2.out _ bl.out).mono ?_);rintro e w1 ⟨hp,k1⟩;obtain ⟨A0,n0,c0',A1,n1,c1',A2,n2,c2',er,rfl,hf,ba⟩:=pX hp;clear hp;have hf:=Fx hf;have ba:=Fx ba)
  go_meet;exact ⟨_,_,_,_,_,rfl,Fx (FL _ _ _),Fx (by have h1:=a7.out.lt;have h2:=k1.size;omega),Fx (hf.out.keep ((FK _ _).alloc _)),Fx (ba.out.keep ((FK _ _).alloc _)),Fx (k1.alloc _)⟩
 obtain ⟨F,base,U0,U1,U2,rfl,N,bq,a3,J,bm⟩:=hcut;obtain ⟨y1,rfl⟩:∃ z:World,z=wc:=⟨_,rfl⟩
 have I:=Fx (a7.out.keep bm.out (by simp));have a8:=Fx (bl.out.trans bm.out);clear H2 a7;have a4:∀ (V0 V1 V2:Value) (W:World),aa [] y1 W→ao (((W.setCell ⟨X,0,none⟩ V0).setCell ⟨X,1,none⟩ V1).setCell ⟨X,2,none⟩ V2) X 29 #[V0,V1,V2]∧aa [] w (((W.setCell ⟨X,0,none⟩ V0).setCell ⟨X,1,none⟩ V1).setCell ⟨X,2,none⟩ V2):=fun V0 V1 V2 W hk =>
  ⟨((((I.out.keep hk (by simp)).set 0 V0).set 1 V1).set 2 V2).congr rfl,(((a8.out.trans hk).setCell (.inr a9.out) _).setCell (.inr a9.out) _).setCell (.inr a9.out) _⟩
 have D:=Fx a4;clear a4;rcases hr:R with x|f
 ·have aA:Hid (Z=none):=Fx (by rw[←HZ.out,hr])
  rw[hr] at J;obtain ⟨gi,rfl,-⟩:=J.out;have c0:y1.cell? ⟨X,0,none⟩=some (FN none 0 0):=I.out.cell 0;have c1:y1.cell? ⟨X,1,none⟩=some (FN none 0 0):=I.out.cell 1;have c2:y1.cell? ⟨X,2,none⟩=some (FN none 0 0):=I.out.cell 2;have z0:y1.frozen? ⟨X,0,none⟩=false:=I.out.frozen 0;have z1:y1.frozen? ⟨X,1,none⟩=false:=I.out.frozen 1;have z2:y1.frozen? ⟨X,2,none⟩=false:=I.out.frozen 2;clear hr a3 J;go_wp2
  (try simp only[Exit.inBlock,Exit.then])
  refine bodyPost_ret (bE rfl _ _ X _ _ _ _ rfl (D.out _ _ _ _ (FK _ _)).1 Tryz.underlying29 rfl (by kernel_rfl)) rfl ?_;exact ⟨by rw[aA.out];exact ⟨_,_,_,_,_,_,_,_,_,rfl⟩,(D.out _ _ _ _ (FK _ _)).2⟩
 have aA:Hid ((match cQ f with
  | .error _=>none
  | .ok _=>some f)=Z):=Fx (by rw[←HZ.out,hr])
 rw[hr] at J a3;have bk:_=Value.nilIface:=J.out;subst bk;have HW:=Fx (be.out f hr);have a5:Hid (ik y1 base U0 U1 U2 f):=a3;obtain ⟨A0,a0,A1,a1,A2,a2,rfl,rfl,rfl⟩:=a5.out.forms;have f0:y1.cell? ⟨F,0,none⟩=some (FN A0 f.ins.length a0):=N.out.cell 0;have f1:y1.cell? ⟨F,1,none⟩=some (FN A1 f.jobs.length a1):=N.out.cell 1;have f2:y1.cell? ⟨F,2,none⟩=some (FN A2 f.outs.length a2):=N.out.cell 2;have HC:=Fx (qB f _ _ _ y1 (a5.out.flIn HW.out) HW.out.short (HO.out.quiet a8.out) (HT.out.keep a8.out (by simp)) HW.out.colNames);clear hr a3 J be;go_wp2_with fail
 refine HC.out.mono ?_;rintro e y2 ⟨av,O⟩;have M:=Fx O;have h:=Fx (I.out.keep O (by simp));have bb:=Fx (N.out.keep O (by simp));have c0:y2.cell? ⟨X,0,none⟩=some (FN none 0 0):=h.out.cell 0;have c1:y2.cell? ⟨X,1,none⟩=some (FN none 0 0):=h.out.cell 1;have c2:y2.cell? ⟨X,2,none⟩=some (FN none 0 0):=h.out.cell 2;have z0:y2.frozen? ⟨X,0,none⟩=false:=h.out.frozen 0;have z1:y2.frozen? ⟨X,1,none⟩=false:=h.out.frozen 1;have z2:y2.frozen? ⟨X,2,none⟩=false:=h.out.frozen 2;clear f0 f1 f2 O;have f0:y2.cell? ⟨F,0,none⟩=some (FN A0 f.ins.length a0):=bb.out.cell 0;have f1:y2.cell? ⟨F,1,none⟩=some (FN A1 f.jobs.length a1):=bb.out.cell 1;have f2:y2.cell? ⟨F,2,none⟩=some (FN A2 f.outs.length a2):=bb.out.cell 2;have d0:y2.drew.cell? ⟨X,0,none⟩=some (FN none 0 0):=h.out.cell 0;have d1:y2.drew.cell? ⟨X,1,none⟩=some (FN none 0 0):=h.out.cell 1;have d2:y2.drew.cell? ⟨X,2,none⟩=some (FN none 0 0):=h.out.cell 2;have e0:y2.drew.frozen? ⟨X,0,none⟩=false:=h.out.frozen 0;have e1:y2.drew.frozen? ⟨X,1,none⟩=false:=h.out.frozen 1;have e2:y2.drew.frozen? ⟨X,2,none⟩=false:=h.out.frozen 2
 cases U:cQ f with
 | error x =>
  have bc:Hid (Z=none):=Fx (by rw[←aA.out,U]);rw[U] at av;obtain ⟨u,rfl,gi,rfl,hb⟩:=av;clear hb;go_upto_region 7 with (fail)
  go_region
  all_goals
   go_wp2
   (try simp only[Exit.inBlock,Exit.then])
   refine bodyPost_ret (bE rfl _ _ X _ _ _ _ rfl (D.out _ _ _ _ M.out.drew).1 Tryz.underlying29 rfl (by kernel_rfl)) rfl ?_;exact ⟨by rw[bc.out];exact ⟨_,_,_,_,_,_,_,_,_,rfl⟩,(D.out _ _ _ _ M.out.drew).2⟩
 | ok m =>
  have bc:Hid (Z=some f):=Fx (by rw[←aA.out,U]);rw[U] at av;obtain ⟨b,mv,rfl,-,-,-⟩:=av;have bo:=Fx (ik.box3 (u0:=FN A0 f.ins.length a0) (u1:=FN A1 f.jobs.length a1) (u2:=FN A2 f.outs.length a2) (W:=y2.drew) (a5.out.keep M.out.drew) h.out.drew);go_upto_region 7 with (fail)
  go_region
  all_goals
   go_wp2
   (try simp only[Exit.inBlock,Exit.then])
   refine bodyPost_ret (bE rfl _ _ X _ _ _ _ rfl (D.out _ _ _ _ M.out.drew).1 Tryz.underlying29 rfl (by kernel_rfl)) rfl ?_;exact ⟨by rw[bc.out];exact ⟨_,_,_,_,_,_,_,rfl,bo.out⟩,(D.out _ _ _ _ M.out.drew).2⟩
end
section
open Go.RowKit Go.BigFrame
theorem vU {s:Bs} {f:Fl} (h:pB s=some f):s.length≤1000∧fm s= .ok f∧∃ m,cQ f= .ok m:=by
 unfold pB at h;split at h
 ·cases h
 rename_i J
 cases I:fm s with
 | error x=>rw[I] at h;cases h
 | ok g =>
  rw[I] at h;dsimp only at h
  cases D:cQ g with
  | error x=>rw[D] at h;cases h
  | ok m =>
   rw[D] at h;cases h
   exact ⟨by omega,rfl,m,D⟩
end
section
open Go.RowKit Go.BigFrame
attribute [local go_sem] ag ab ae af
def ml (f:Fl) (n:Bs):Bool:=kA f n||f.jobs.any fun j=>j.outs.contains n
def mm (f:Fl) (n:Bs):Bool:=!f.ins.isEmpty&&decide (f.jobs.length<16)&&eC n
theorem zj (f:Fl) (n:Bs):ml f n=decide (n∈bf f):=by
 rw[Bool.eq_iff_iff,decide_eq_true_iff];unfold ml bf;rw[Bool.or_eq_true,List.mem_append];refine or_congr jl ?_;rw[List.any_eq_true];constructor
 ·rintro ⟨j,D,h⟩
  exact List.mem_flatMap.2 ⟨j,D,by simpa using h⟩
 intro h;obtain ⟨j,D,h⟩:=List.mem_flatMap.1 h;exact ⟨j,D,by simpa using h⟩
def BD (h D:Nat):List Value:=[FR FS 0,FR FS 6,FN (some ⟨h,0,none⟩) 1 1,FN (some ⟨D,0,none⟩) 1 1,FN none 0 0,FM ⟨#[]⟩,FM ⟨#[]⟩,FR FS 0,FR FS 0,FM ⟨#[]⟩,FM ⟨#[]⟩,FR FS 0,FR FS 0,FM ⟨#[]⟩,FR FS 0]
def BE (y:World) (f:Fl) (N J:Bs) (M:List Value) (G:Nat) (O I:Value) (w':World):Prop :=
 ∃ D h A c,aa [G] y w'∧y.heap.size≤D∧y.heap.size≤h∧ao w' G 29 #[O,FN A (1+f.jobs.length) c,I]∧ao w' D 9 #[FM (bs N)]∧ao w' h 9 #[FM (bs J)]∧w'.ownsRow y.heap.size 50 15 (FN A (1+f.jobs.length) c) (1+f.jobs.length) (BD D h++M)
structure rY (y:World) (f:Fl) (n0 n1:Bs) (ys:List Value) (G:Nat) (v0 v2:Value) (g:Nat×Nat×Nat×Option Addr×Nat) (L:Nat→Bool) (w':World):Prop where
 d8:L 8=true→L 1=true∧L 7=true
 d9:L 9=true→L 8=true
 d12:L 12=true→L 9=true
 d14:L 14=true→BE y f n0 n1 ys G v0 v2 w'
 all:L 14=true→∀ j,j<14→L j=true
 pre:L 14=false→aa [] y w'∧(L 1=true→y.heap.size≤g.1∧ao w' g.1 9 #[FM (bs n0)])∧(L 7=true→y.heap.size≤g.2.1∧ao w' g.2.1 9 #[FM (bs n1)]) ∧
  (L 9=true→L 12=false→w'.ownsRow y.heap.size 50 15 (FN (some ⟨g.2.2.1,0,none⟩) 1 1) 1 (BD g.1 g.2.1)) ∧
  (L 12=true→w'.ownsRow y.heap.size 50 15 (FN g.2.2.2.1 (1+f.jobs.length) g.2.2.2.2) (1+f.jobs.length) (BD g.1 g.2.1++ys))
theorem rY.far {y:World} {f:Fl} {O n1:Bs} {ys:List Value} {G:Nat} {v0 N:Value} {g:Nat×Nat×Nat×Option Addr×Nat} {L:Nat→Bool} {w':World} (h:rY y f O n1 ys G v0 N g L w') {i:Nat} (Z:i≠1) (U:i≠7) (h8:i=8→L 1=true∧L 7=true) (M:i≠9) (I:i≠12) (D:i≠14):rY y f O n1 ys G v0 N g (bA L i) w':=by
 have e:∀ j,i≠j→bA L i j=L j:=fun j J=>by unfold bA;rw[if_neg (Ne.symm J)]
 refine ⟨fun h'=>?_,fun h'=>?_,fun h'=>?_,fun h'=>?_,fun h' j J=>?_,fun h'=>?_⟩
 ·rw[e 1 Z,e 7 U]
  by_cases hi:i=8
  ·exact h8 hi
  rw[e 8 hi] at h';exact h.d8 h'
 ·rw[e 9 M] at h'
  have:=h.d9 h';unfold bA;split
  ·rfl
  exact this
 ·rw[e 12 I] at h'
  rw[e 9 M];exact h.d12 h'
 ·rw[e 14 D] at h'
  exact h.d14 h'
 ·rw[e 14 D] at h'
  have:=h.all h' j J;unfold bA;split
  ·rfl
  exact this
 rw[e 14 D] at h';rw[e 1 Z,e 7 U,e 9 M,e 12 I];exact h.pre h'
theorem rY.b1 {y:World} {f:Fl} {M n1:Bs} {O:List Value} {G:Nat} {v0 N:Value} {g:Nat×Nat×Nat×Option Addr×Nat} {L:Nat→Bool} {w':World} (h:rY y f M n1 O G v0 N g L w') (U:L 1=false) (D:L 14=false):rY y f M n1 O G v0 N (w'.heap.size,g.2) (bA L 1) (w'.alloc (FQ #[FM (bs M)] 9)):=by
 have e:∀ j,1≠j→bA L 1 j=L j:=fun j J=>by unfold bA;rw[if_neg (Ne.symm J)]
 have I:∀ j,(j=8∨j=9∨j=12)→L j=true→False:=fun j J hj'=>by
  have h8:L 8=true:=by
   rcases J with rfl|rfl|rfl
   ·exact hj'
   ·exact h.d9 hj'
   exact h.d9 (h.d12 hj')
  rw[(h.d8 h8).1] at U;cases U
 obtain ⟨k,p1,Z,p9,ad⟩:=h.pre D;refine ⟨fun h'=>?_,fun h'=>?_,fun h'=>?_,fun h'=>?_,fun h'=>?_,fun _=>⟨k.alloc _,fun _=>⟨k.size,FL _ _ _⟩,fun h'=>?_,fun h'=>?_,fun h'=>?_⟩⟩
 ·rw[e 8 (by decide)] at h';exact (I 8 (by simp) h').elim
 ·rw[e 9 (by decide)] at h';exact (I 9 (by simp) h').elim
 ·rw[e 12 (by decide)] at h';exact (I 12 (by simp) h').elim
 ·rw[e 14 (by decide),D] at h';cases h'
 ·rw[e 14 (by decide),D] at h';cases h'
 ·rw[e 7 (by decide)] at h'
  exact ⟨(Z h').1,(Z h').2.alloc _⟩
 ·rw[e 9 (by decide)] at h';exact (I 9 (by simp) h').elim
 rw[e 12 (by decide)] at h';exact (I 12 (by simp) h').elim
theorem rY.b7 {y:World} {f:Fl} {O M:Bs} {U:List Value} {G:Nat} {v0 N:Value} {g:Nat×Nat×Nat×Option Addr×Nat} {L:Nat→Bool} {w':World} (h:rY y f O M U G v0 N g L w') (Z:L 7=false) (D:L 14=false):rY y f O M U G v0 N (g.1,w'.heap.size,g.2.2) (bA L 7) (w'.alloc (FQ #[FM (bs M)] 9)):=by
 have e:∀ j,7≠j→bA L 7 j=L j:=fun j J=>by unfold bA;rw[if_neg (Ne.symm J)]
 have I:∀ j,(j=8∨j=9∨j=12)→L j=true→False:=fun j J hj'=>by
  have h8:L 8=true:=by
   rcases J with rfl|rfl|rfl
   ·exact hj'
   ·exact h.d9 hj'
   exact h.d9 (h.d12 hj')
  rw[(h.d8 h8).2] at Z;cases Z
 obtain ⟨k,p1,p7,p9,ad⟩:=h.pre D;refine ⟨fun h'=>?_,fun h'=>?_,fun h'=>?_,fun h'=>?_,fun h'=>?_,fun _=>⟨k.alloc _,fun h'=>?_,fun _=>⟨k.size,FL _ _ _⟩,fun h'=>?_,fun h'=>?_⟩⟩
 ·rw[e 8 (by decide)] at h';exact (I 8 (by simp) h').elim
 ·rw[e 9 (by decide)] at h';exact (I 9 (by simp) h').elim
 ·rw[e 12 (by decide)] at h';exact (I 12 (by simp) h').elim
 ·rw[e 14 (by decide),D] at h';cases h'
 ·rw[e 14 (by decide),D] at h';cases h'
 ·rw[e 1 (by decide)] at h'
  exact ⟨(p1 h').1,(p1 h').2.alloc _⟩
 ·rw[e 9 (by decide)] at h';exact (I 9 (by simp) h').elim
 rw[e 12 (by decide)] at h';exact (I 12 (by simp) h').elim
theorem rY.b9 {y:World} {f:Fl} {M Z:Bs} {N:List Value} {G:Nat} {v0 J:Value} {g:Nat×Nat×Nat×Option Addr×Nat} {L:Nat→Bool} {w':World} (h:rY y f M Z N G v0 J g L w') (O:L 9=false) (I:L 8=true) (D:L 14=false):rY y f M Z N G v0 J (g.1,g.2.1,w'.heap.size,g.2.2.2) (bA L 9) (w'.alloc (FQ (BD g.1 g.2.1).toArray 50)):=by
 have e:∀ j,9≠j→bA L 9 j=L j:=fun j hj=>by unfold bA;rw[if_neg (Ne.symm hj)]
 have no:L 12=true→False:=fun hj'=>by
  rw[h.d12 hj'] at O;cases O
 obtain ⟨k,p1,U,p9,ad⟩:=h.pre D;refine ⟨fun h'=>?_,fun h'=>?_,fun h'=>?_,fun h'=>?_,fun h'=>?_,fun _=>⟨k.alloc _,fun h'=>?_,fun h'=>?_,fun _ _=>?_,fun h'=>?_⟩⟩
 ·rw[e 1 (by decide),e 7 (by decide)];exact h.d8 I
 ·rw[e 8 (by decide)];exact I
 ·rw[e 12 (by decide)] at h';exact (no h').elim
 ·rw[e 14 (by decide),D] at h';cases h'
 ·rw[e 14 (by decide),D] at h';cases h'
 ·exact ⟨(p1 (h.d8 I).1).1,(p1 (h.d8 I).1).2.alloc _⟩
 ·exact ⟨(U (h.d8 I).2).1,(U (h.d8 I).2).2.alloc _⟩
 ·exact ⟨rfl,.inr ⟨w'.heap.size,1,(BD g.1 g.2.1).toArray,rfl,k.size,heap_alloc_new _ _,Fy _,by decide,rfl,rfl⟩⟩
 rw[e 12 (by decide)] at h';exact (no h').elim
theorem rY.b12 {y:World} {f:Fl} {n0 n1:Bs} {Z:List Value} {G:Nat} {v0 v2:Value} {g:Nat×Nat×Nat×Option Addr×Nat} {L:Nat→Bool} {w' J:World} {A:Option Addr} {c:Nat} (h:rY y f n0 n1 Z G v0 v2 g L w') (av:L 12=false) (h9:L 9=true) (D:L 14=false) (ho:J.ownsRow y.heap.size 50 15 (FN A (1+f.jobs.length) c) (1+f.jobs.length) (BD g.1 g.2.1++Z)) (U:w'.grownBy J (some g.2.2.1)) (O:y.heap.size≤g.2.2.1) (M:g.1≠g.2.2.1∧g.2.1≠g.2.2.1):rY y f n0 n1 Z G v0 v2 (g.1,g.2.1,g.2.2.1,A,c) (bA L 12) J:=by
 have e:∀ j,12≠j→bA L 12 j=L j:=fun j hj=>by unfold bA;rw[if_neg (Ne.symm hj)]
 obtain ⟨k,p1,p7,p9,ad⟩:=h.pre D;have N:=h.d9 h9;refine ⟨fun h'=>?_,fun h'=>?_,fun h'=>?_,fun h'=>?_,fun h'=>?_,fun _=>⟨k.grown U (fun x hx=> .inr (by cases hx;exact O)),fun h'=>?_,fun h'=>?_,fun _ h'=>?_,fun _=>ho⟩⟩
 ·rw[e 1 (by decide),e 7 (by decide)];exact h.d8 N
 ·rw[e 8 (by decide)];exact N
 ·rw[e 9 (by decide)];exact h9
 ·rw[e 14 (by decide),D] at h';cases h'
 ·rw[e 14 (by decide),D] at h';cases h'
 ·have I:=p1 (h.d8 N).1
  exact ⟨I.1,(U.block _ I.2.lt (by simpa using M.1)).trans I.2⟩
 ·have I:=p7 (h.d8 N).2
  exact ⟨I.1,(U.block _ I.2.lt (by simpa using M.2)).trans I.2⟩
 cases h'
def nr (f:Fl) (n:Bs) (D h:Value) (e:Ending) (w':World):Prop :=
 if mm f n=true then ∃ A c,e=FP (.tuple #[.agg #[D,FN A (1+f.jobs.length) c,h],.bool (!ml f n)])∧fB iy 15 w' (FN A (1+f.jobs.length) c) (aW f n).jobs
 else ∃ I,e=FP (.tuple #[.agg #[D,I,h],.bool false])∧fB iy 15 w' I f.jobs
def E6 (a b c d e:Value) (l:List Value) (i:Nat):Value:=if i=1 then a else if i=7 then b else if i=8 then c else if i=9 then d else if i=12 then e else l.getD i undef
theorem lI (i:Nat) (a b c d e:Value) (l:List Value) (J N D M I:Value) (O:i=1→a=J) (h7:i=7→b=N) (Z:i=8→c=D) (U:i=9→d=M) (h:i=12→e=I):E6 a b c d e l i=E6 J N D M I l i:=by
 unfold E6;split
 ·exact O ‹_›
 split
 ·exact h7 ‹_›
 split
 ·exact Z ‹_›
 split
 ·exact U ‹_›
 split
 ·exact h ‹_›
 rfl
theorem rY.n14 {y:World} {f:Fl} {U J:Bs} {N:List Value} {G:Nat} {Z M:Value} {g:Nat×Nat×Nat×Option Addr×Nat} {L:Nat→Bool} {w':World} (h:rY y f U J N G Z M g L w') {i:Nat} (D:L i=false) (O:i<14):L 14=false:=by
 cases I:L 14 with
 | false=>rfl
 | true=>rw[h.all I i O] at D;cases D
theorem zm (x:In) (D:Value) (n:Bs) (X:Nat) (W:World) (h:W.cell? ⟨X,0,none⟩=some (FM (bs n))) :
  Calls Tryz.prog 31 #[.agg #[FR FS x.at_,FM (bs x.name),D],FO (some ⟨X,0,none⟩)] W fun e W'=>e=FP (.bool (x.name==n))∧aa [] W W':=by
 have I:=FC _ _ h;go_enter Tryz.func31,Tryz.ntmps31
 go_wp2;go_ret;exact ⟨rfl,(FK _ _).alloc _⟩
theorem zo (x:Jb) (I U Z:Value) (n:Bs) (X:Nat) (W:World) (h:W.cell? ⟨X,0,none⟩=some (FM (bs n))) (N:nZ W I x.outs) :
  Calls Tryz.prog 33 #[.agg (bK x I U Z),FO (some ⟨X,0,none⟩)] W fun e W'=>e=FP (.bool (x.outs.contains n))∧aa [] W W':=by
 have hl:=FC _ _ h;obtain ⟨D,A,c,rfl,M,J⟩:=N;have O:Hid (∀ W',aa [] W W'→Calls Tryz.prog 34 #[FN A x.outs.length c,FM (bs n)] W' fun e w'=>e=FP (.bool (x.outs.contains n))∧W'=w'):=Fx fun W' z=>by
  have:=la n x.outs A c W' (J.keep z) D;rw[←List.contains_eq_any_beq] at this;exact this
 clear J M;generalize x.outs.contains n=R at *;unfold bK;go_enter Tryz.func33,Tryz.ntmps33
 go_wp2_with ((with_reducible refine (O.out _ ((FK _ _).alloc _)).mono ?_);rintro e w5 ⟨rfl,rfl⟩)
 go_ret;exact ⟨rfl,(FK _ _).alloc _⟩
theorem BF (f:Fl) (v0 v1 v2:Value) (name:Bs) (hv:name.length≤40) (w:World) (I:jj w v0 v1 v2 f) (cg:f.jobs.length≤100000) :
  Calls Tryz.prog 15 #[.agg #[v0,v1,v2],FM (bs name)] w fun e w'=>nr f name v0 v2 e w'∧aa [] w w':=by
 have dz:=I.i0;have d2:=I.i1;obtain ⟨A1,c1,us,rfl,ht,eA,cn,el⟩:=I.i1.rows;obtain ⟨hz,A0,c0,rfl,hq,bZ⟩:=I.i0;obtain ⟨c5,A2,c2,rfl,hw,c6⟩:=I.i2;have g4:=Fx dz;have c9:=Fx d2;have fb:=Fx cn;have eB:=Fx el;have dr:=Fx cn.one;have cu:=Fx bZ;have c8:=Fx (fun W=>sa name (by omega) W);obtain ⟨OK,ce⟩:∃ B,mm f name=B:=⟨_,rfl⟩
 obtain ⟨cz,cd⟩:∃ B,eC name=B:=⟨_,rfl⟩
 rw[cd] at c8;have be:Hid (OK=(!f.ins.isEmpty&&decide (f.jobs.length<16)&&cz)):=Fx (by rw[←ce,←cd];rfl);have b4:=Fx ce;clear ce cd I dz d2 bZ c6 cn el;go_enter Tryz.func15,Tryz.ntmps15
 go_upto_region 1 with (fail)
 have a4:=((FL w 29 #[FN A0 f.ins.length c0,FN A1 f.jobs.length c1,FN A2 f.outs.length c2]).alloc (FQ #[FM (bs name)] 9)).alloc (FQ #[FN none 0 0,FN none 0 0,FN none 0 0] 29);have a3:=(FL (w.alloc (FQ #[FN A0 f.ins.length c0,FN A1 f.jobs.length c1,FN A2 f.outs.length c2] 29)) 9 #[FM (bs name)]).alloc (FQ #[FN none 0 0,FN none 0 0,FN none 0 0] 29);have a9:=FL ((w.alloc (FQ #[FN A0 f.ins.length c0,FN A1 f.jobs.length c1,FN A2 f.outs.length c2] 29)).alloc (FQ #[FM (bs name)] 9)) 29 #[FN none 0 0,FN none 0 0,FN none 0 0];have ca:=(((FK [] w).alloc (FQ #[FN A0 f.ins.length c0,FN A1 f.jobs.length c1,FN A2 f.outs.length c2] 29)).alloc (FQ #[FM (bs name)] 9)).alloc (FQ #[FN none 0 0,FN none 0 0,FN none 0 0] 29);obtain ⟨y0,d0⟩:∃ z,((w.alloc (FQ #[FN A0 f.ins.length c0,FN A1 f.jobs.length c1,FN A2 f.outs.length c2] 29)).alloc (FQ #[FM (bs name)] 9)).alloc (FQ #[FN none 0 0,FN none 0 0,FN none 0 0] 29)=z:=⟨_,rfl⟩
 rw[d0] at a4 a3 a9 ca ⊢;rw[nk] at a3;rw[nk,nk] at a9;obtain ⟨F,en⟩:∃ F,w.heap.size=F:=⟨_,rfl⟩
 rw[en] at a4 a3 a9 ⊢;obtain ⟨NB,er⟩:∃ F',F+1=F':=⟨_,rfl⟩
 obtain ⟨X,d6⟩:∃ F',F+1+1=F':=⟨_,rfl⟩
 rw[d6] at a9 ⊢;rw[er] at a3 ⊢;have f7:=Fx a4;have e5:=Fx a3;have e6:=Fx a9;have ha:=Fx ca;have eY:Hid (w.heap.size≤X):=Fx (by omega);have dB:F≠X:=by omega
 have hp:=Fx dB;have f0:y0.cell? ⟨F,0,none⟩=some (FN A0 f.ins.length c0):=a4.cell 0;have f1:y0.cell? ⟨F,1,none⟩=some (FN A1 f.jobs.length c1):=a4.cell 1;have f2:y0.cell? ⟨F,2,none⟩=some (FN A2 f.outs.length c2):=a4.cell 2;have hk:y0.cell? ⟨NB,0,none⟩=some (FM (bs name)):=a3.cell 0;clear a4 a3 a9 ca d0 en er d6 dB;go_cut [22] (fun v wx=>v= .bool (!OK)∧Hid (aa [] y0 wx))
 case first =>
  by_cases h1:f.ins.length=0
  ·have q1:((f.ins.length:Int)==0)=true:=by rw[h1];rfl
   have a2:Hid (OK=false):=Fx (by rw[be.out,List.isEmpty_iff.2 (List.eq_nil_of_length_eq_zero h1)];rfl);clear h1;go_wp2;go_meet;exact ⟨by rw[a2.out];rfl,Fx (FK _ _)⟩
  have q1:((f.ins.length:Int)==0)=false:=by rw[beq_eq_false_iff_ne];omega
  have dv:Hid (f.ins.isEmpty=false):=Fx (by
   cases hx:f.ins with
   | nil=>rw[hx] at h1;exact absurd rfl h1
   | cons _ _=>rfl)
  by_cases h2:f.jobs.length<16
  ·have q2:¬((f.jobs.length:Int)≥16):=by omega
   have a2:Hid (OK=cz):=Fx (by rw[be.out,dv.out,decide_eq_true h2];rfl);clear h1 h2;go_wp2_with ((with_reducible refine (c8.out _).mono ?_);rintro e w5 ⟨rfl,k5⟩)
   go_meet;exact ⟨by rw[a2.out],Fx k5⟩
  have q2:(f.jobs.length:Int)≥16:=by omega
  have a2:Hid (OK=false):=Fx (by rw[be.out,dv.out,decide_eq_false h2];rfl);clear h1 h2;go_wp2;go_meet;exact ⟨by rw[a2.out];rfl,Fx (FK _ _)⟩
 obtain ⟨rfl,bX⟩:=hcut;obtain ⟨y1,rfl⟩:∃ z:World,z=wc:=⟨_,rfl⟩
 clear f0 f1 f2 hk;have bb:=Fx (ha.out.trans bX.out);have a5:=Fx (f7.out.keep bX.out (by simp));have bl:=Fx (e5.out.keep bX.out (by simp));have ad:=Fx (e6.out.keep bX.out (by simp));have f0:y1.cell? ⟨F,0,none⟩=some (FN A0 f.ins.length c0):=a5.out.cell 0;have f1:y1.cell? ⟨F,1,none⟩=some (FN A1 f.jobs.length c1):=a5.out.cell 1;have f2:y1.cell? ⟨F,2,none⟩=some (FN A2 f.outs.length c2):=a5.out.cell 2
 cases a7:OK with
 | false =>
  have c0':y1.cell? ⟨X,0,none⟩=some (FN none 0 0):=ad.out.cell 0;have c1':y1.cell? ⟨X,1,none⟩=some (FN none 0 0):=ad.out.cell 1;have c2':y1.cell? ⟨X,2,none⟩=some (FN none 0 0):=ad.out.cell 2;have z0:y1.frozen? ⟨X,0,none⟩=false:=ad.out.frozen 0;have z1:y1.frozen? ⟨X,1,none⟩=false:=ad.out.frozen 1;have z2:y1.frozen? ⟨X,2,none⟩=false:=ad.out.frozen 2;have a0:aa [X] y1 (((y1.setCell ⟨X,0,none⟩ (FN A0 f.ins.length c0)).setCell ⟨X,1,none⟩ (FN A1 f.jobs.length c1)).setCell ⟨X,2,none⟩ (FN A2 f.outs.length c2)):=(((FK _ _).setCell (.inl (by simp)) _).setCell (.inl (by simp)) _).setCell (.inl (by simp)) _;have b8:=Fx ((((ad.out.set 0 (FN A0 f.ins.length c0)).set 1 (FN A1 f.jobs.length c1)).set 2 (FN A2 f.outs.length c2)).congr rfl);have bc:=Fx (bb.out.trans' a0 fun x hx hl=>by rw[List.mem_singleton] at hx;have:=eY.out;omega);have cq:Hid (mm f name=false):=Fx (b4.out.trans a7);have g8:Hid (fB iy 15 w (FN A1 f.jobs.length c1) f.jobs):=c9;clear a7 a0;go_wp2
  (try simp only[Exit.inBlock,Exit.then])
  refine bodyPost_ret (bE rfl _ _ X _ _ _ _ rfl b8.out Tryz.underlying29 rfl (by kernel_rfl)) rfl ?_;refine ⟨?_,bc.out⟩;unfold nr;rw[if_neg (by rw[cq.out];decide)];exact ⟨_,rfl,g8.out.keep bc.out fun _ _ h=>h.keep bc.out⟩
 | true =>
  have cq:Hid (mm f name=true):=Fx (b4.out.trans a7);have ev:0<f.ins.length:=by
   rcases Nat.eq_zero_or_pos f.ins.length with h|h
   ·have:=be.out
    rw[a7,List.isEmpty_iff.2 (List.eq_nil_of_length_eq_zero h)] at this;cases this
   exact h
  have hn:f.jobs.length<16:=by
   have:=be.out;rw[a7] at this;by_cases h:f.jobs.length<16
   ·exact h
   rw[decide_eq_false h] at this;simp at this
  obtain ⟨gi,cs,rfl,gm,fs,es,bk⟩:=cu.out 0 ev;obtain ⟨x0,cm⟩:∃ x,f.ins[0]=x:=⟨_,rfl⟩
  rw[cm] at es;obtain ⟨vc,rfl,-⟩:=es;have b0:w.cell? ⟨gi,1,none⟩=some (FM (bs x0.name)):=by have:=bk 1 _ rfl;simpa using this
  have fn:=Fx b0;have f5:=Fx cm;have hr:(0:Int)<(f.ins.length:Int):=by omega
  have bo:Hid (∀ W,aa [] y1 W→Calls Tryz.prog 30 #[FN (some ⟨gi,0,none⟩) f.ins.length c0,.func (.func 31) #[] #[FO (some ⟨NB,0,none⟩)]] W fun e w'=>e=FP (.bool (kA f name))∧aa [] W w'):=Fx fun W z =>
   gd 31 _ (fun _ _=>by rfl) (fun x=>x.name==name) f.ins _ W (g4.out.keep (bb.out.trans z) fun _ _ h=>h.keep (bb.out.trans z)) (fun x hx W' cs z' b5=>by
    obtain ⟨vc,rfl,_⟩:=b5;exact zm x vc name _ W' ((bl.out.keep (z.trans z') (by simp)).cell 0))
  have dq:Hid (∀ W,aa [] y1 W→Calls Tryz.prog 32 #[FN A1 f.jobs.length c1,.func (.func 33) #[] #[FO (some ⟨NB,0,none⟩)]] W fun e w'=>e=FP (.bool (f.jobs.any fun j=>j.outs.contains name))∧aa [] W w'):=Fx fun W z =>
   k4 33 _ (fun _ _=>by rfl) (fun j=>j.outs.contains name) f.jobs _ W (c9.out.keep (bb.out.trans z) fun _ _ h=>h.keep (bb.out.trans z)) (fun x hx W' cs z' b5=>by
    obtain ⟨v2,v3,v4,rfl,h2,_,_⟩:=b5;exact zo x v2 v3 v4 name _ W' ((bl.out.keep (z.trans z') (by simp)).cell 0) h2)
  have bm:Hid (ml f name=(kA f name||f.jobs.any fun j=>j.outs.contains name)):=Fx rfl;clear a7 b0 bk cm cu gm fs;obtain ⟨TK,ci⟩:∃ T,ml f name=T:=⟨_,rfl⟩
  rw[ci] at bm;have d3:=Fx ci;clear ci;generalize (f.jobs.any fun j=>j.outs.contains name)=TJ at *;go_upto_region 3 with (fail)
  go_cut [6] (fun v wx=>v= .bool TK∧Hid (aa [] y1 wx))
  case first =>
   cases hi:kA f name with
   | true =>
    rw[hi] at bo bm;have co:Hid (TK=true):=Fx bm.out;clear hi;go_wp2_with ((with_reducible refine (bo.out _ (FK _ _)).mono ?_);rintro e w5 ⟨rfl,k5⟩)
    go_meet;exact ⟨by rw[co.out],Fx k5⟩
   | false =>
    rw[hi] at bo bm;have co:Hid (TK=TJ):=Fx bm.out;clear hi;go_wp2_with (first|((with_reducible refine (bo.out _ (FK _ _)).mono ?_);rintro e w5 ⟨rfl,k5⟩;have g1:w5.cell? ⟨F,1,none⟩=some (FN A1 f.jobs.length c1):=k5.cell_of f1 (by simp))|((with_reducible refine (dq.out _ k5).mono ?_);rintro e w6 ⟨rfl,k6⟩))
    go_meet;exact ⟨by rw[co.out],Fx (k5.trans k6)⟩
  obtain ⟨rfl,bq⟩:=hcut;obtain ⟨y2,rfl⟩:∃ z:World,z=wc:=⟨_,rfl⟩
  clear f0 f1 f2 bo dq;have cy:=Fx (bb.out.trans bq.out);have a6:=Fx (a5.out.keep bq.out (by simp));have f0:y2.cell? ⟨F,0,none⟩=some (FN (some ⟨gi,0,none⟩) f.ins.length c0):=a6.out.cell 0;have f1:y2.cell? ⟨F,1,none⟩=some (FN A1 f.jobs.length c1):=a6.out.cell 1;have f2:y2.cell? ⟨F,2,none⟩=some (FN A2 f.outs.length c2):=a6.out.cell 2;go_upto_region 5 with (fail)
  have bv:=FL y2 29 #[FN (some ⟨gi,0,none⟩) f.ins.length c0,FN A1 f.jobs.length c1,FN A2 f.outs.length c2];have a8:=(FK [] y2).alloc (FQ #[FN (some ⟨gi,0,none⟩) f.ins.length c0,FN A1 f.jobs.length c1,FN A2 f.outs.length c2] 29);obtain ⟨y,hy⟩:∃ z,y2.alloc (FQ #[FN (some ⟨gi,0,none⟩) f.ins.length c0,FN A1 f.jobs.length c1,FN A2 f.outs.length c2] 29)=z:=⟨_,rfl⟩
  rw[hy] at bv a8 ⊢;have ct:w.heap.size≤y2.heap.size:=cy.out.size;have b6:y2.heap.size≠X:=by have:=(ad.out.keep bq.out (by simp)).lt;omega
  obtain ⟨G,d1⟩:∃ G,y2.heap.size=G:=⟨_,rfl⟩
  rw[d1] at bv ct b6 ⊢;have f4:=Fx bv;have fc:=Fx ct;have gk:=Fx b6;have cr:=Fx (cy.out.trans a8);have HZ:Hid (∀ W,aa [] y W→W.cell? ⟨F,0,none⟩=some (FN (some ⟨gi,0,none⟩) f.ins.length c0)∧W.cell? ⟨F,1,none⟩=some (FN A1 f.jobs.length c1)∧W.cell? ⟨NB,0,none⟩=some (FM (bs name))∧W.cell? ⟨gi,1,none⟩=some (FM (bs x0.name))):=Fx (fun W z=>by
   have h1:=a6.out.keep (a8.trans z) (by simp);exact ⟨h1.cell 0,h1.cell 1,(bl.out.keep (bq.out.trans (a8.trans z)) (by simp)).cell 0,(cr.out.trans z).cell_of fn.out (by simp)⟩)
  have f3:=Fx (eB.out.keep cr.out);have ff:=Fx ((ad.out.keep bq.out (by simp)).keep a8 (by simp));clear bv a8 hy ct b6 d1 f0 f1 f2;go_cut [] (fun wx=>Hid (BE y f name x0.name us.flatten G (FN (some ⟨gi,0,none⟩) f.ins.length c0) (FN A2 f.outs.length c2) wx))
  case first =>
   rename_i J1 K1 g6 hm;refine pT (by kernel_rfl) (by kernel_rfl) (by kernel_rfl) (fun g i=>E6 (FN (some ⟨g.1,0,none⟩) 1 1) (FN (some ⟨g.2.1,0,none⟩) 1 1) (.agg (BD g.1 g.2.1).toArray) (FN (some ⟨g.2.2.1,0,none⟩) 1 1) (FN g.2.2.2.1 (1+f.jobs.length) g.2.2.2.2) [FM (bs name),undef,FO (some ⟨F,0,none⟩),FN (some ⟨gi,0,none⟩) f.ins.length c0,FO (some ⟨gi,0,none⟩),FO (some ⟨gi,1,none⟩),FM (bs x0.name),undef,undef,undef,FO (some ⟨F,1,none⟩),FN A1 f.jobs.length c1,undef,FO (some ⟨G,1,none⟩),undef] i) (fun g L w'=>rY y f name x0.name us.flatten G (FN (some ⟨gi,0,none⟩) f.ins.length c0) (FN A2 f.outs.length c2) g L w') ⟨(0,0,0,none,0),?_⟩ ?_ ?_
   ·exact ⟨(fun h=>by cases h),(fun h=>by cases h),(fun h=>by cases h),(fun h=>by cases h),(fun h=>by cases h),fun _=>⟨(FK _ _).drew,(fun h=>by cases h),(fun h=>by cases h),(fun h=>by cases h),fun h=>by cases h⟩⟩
   ·show oQ _ 15
    refine ⟨⟨⟨⟨⟨⟨⟨⟨⟨⟨⟨⟨⟨⟨⟨trivial,?_⟩,?_⟩,?_⟩,?_⟩,?_⟩,?_⟩,?_⟩,?_⟩,?_⟩,?_⟩,?_⟩,?_⟩,?_⟩,?_⟩,?_⟩
    ·intro N g L Z U O M I J
     have e3:Z.tmps.getD 3 undef=FO (some ⟨NB,0,none⟩):=I.old 3 (by kernel_rfl);have D:L 14=false:=J.n14 O (by decide);have hN:=J.far (i:=0) (by decide) (by decide) (fun h=>absurd h (by decide)) (by decide) (by decide) (by decide);obtain ⟨z0,z1,z2,z3⟩:=HZ.out U (J.pre D).1;refine am rfl N rfl I (by exact hN) ?_;show (execOp _ _).run _ _=Result.ok (.value (FM (bs name))) _;clear hN I M N;simp only[execOp,Act.eval,e3];go_simp
    ·intro N g L Z U O M I J
     have eX:Z.tmps.getD 35 undef=FM (bs name):=I.y 0 _ 35 rfl rfl (M 0 (by kernel_rfl));have D:L 14=false:=J.n14 O (by decide);have gl:=eX;rw[Array.getD_eq_getD_getElem?] at gl;refine lB (u:=FN (some ⟨U.heap.size,0,none⟩) 1 1) (w':=U.alloc (FQ #[FM (bs name)] 9)) rfl rfl ?_ ⟨(U.heap.size,g.2),(I.congr (v':=_) fun j hj=>?_).put N rfl,J.b1 O D⟩
     ·obtain ⟨z0,z1,z2,z3⟩:=HZ.out U (J.pre D).1
      clear I M N J;simp only[execOp,Act.eval,eX];go_simp
     by_cases h1:j=1
     ·subst h1;rw[O] at hj;cases hj
     by_cases h8:j=8
     ·subst h8;rw[(J.d8 hj).1] at O;cases O
     exact lI j _ _ _ _ _ _ _ _ _ _ _ (fun h=>absurd h h1) (fun _=>rfl) (fun h=>absurd h h8) (fun _=>rfl) (fun _=>rfl)
    ·intro N g L Z U O M I J
     have e2:Z.tmps.getD 2 undef=FO (some ⟨F,0,none⟩):=I.old 2 (by kernel_rfl);have D:L 14=false:=J.n14 O (by decide);have hN:=J.far (i:=2) (by decide) (by decide) (fun h=>absurd h (by decide)) (by decide) (by decide) (by decide);refine am rfl N rfl I (by exact hN) ?_;show (execOp _ _).run _ _=Result.ok (.value (FO (some ⟨F,0,none⟩))) _;clear hN I M N;simp only[execOp,Act.eval,e2];go_simp
    ·intro N g L Z U O M I J
     have he:Z.tmps.getD 37 undef=FO (some ⟨F,0,none⟩):=I.y 2 _ 37 rfl rfl (M 2 (by kernel_rfl));have D:L 14=false:=J.n14 O (by decide);have hN:=J.far (i:=3) (by decide) (by decide) (fun h=>absurd h (by decide)) (by decide) (by decide) (by decide);obtain ⟨z0,z1,z2,z3⟩:=HZ.out U (J.pre D).1;refine am rfl N rfl I (by exact hN) ?_;show (execOp _ _).run _ _=Result.ok (.value (FN (some ⟨gi,0,none⟩) f.ins.length c0)) _;clear hN I M N;simp only[execOp,Act.eval,he];go_simp
    ·intro N g L Z U O M I J
     have g5:Z.tmps.getD 38 undef=FN (some ⟨gi,0,none⟩) f.ins.length c0:=I.y 3 _ 38 rfl rfl (M 3 (by kernel_rfl));have D:L 14=false:=J.n14 O (by decide);have hN:=J.far (i:=4) (by decide) (by decide) (fun h=>absurd h (by decide)) (by decide) (by decide) (by decide);refine am rfl N rfl I (by exact hN) ?_;show (execOp _ _).run _ _=Result.ok (.value (FO (some ⟨gi,0,none⟩))) _;clear hN I M N;simp only[execOp,Act.eval,g5];go_simp
    ·intro N g L Z U O M I J
     have f9:Z.tmps.getD 39 undef=FO (some ⟨gi,0,none⟩):=I.y 4 _ 39 rfl rfl (M 4 (by kernel_rfl));have D:L 14=false:=J.n14 O (by decide);have hN:=J.far (i:=5) (by decide) (by decide) (fun h=>absurd h (by decide)) (by decide) (by decide) (by decide);refine am rfl N rfl I (by exact hN) ?_;show (execOp _ _).run _ _=Result.ok (.value (FO (some ⟨gi,1,none⟩))) _;clear hN I M N;simp only[execOp,Act.eval,f9];go_simp
    ·intro N g L Z U O M I J
     have fr:Z.tmps.getD 40 undef=FO (some ⟨gi,1,none⟩):=I.y 5 _ 40 rfl rfl (M 5 (by kernel_rfl));have D:L 14=false:=J.n14 O (by decide);have hN:=J.far (i:=6) (by decide) (by decide) (fun h=>absurd h (by decide)) (by decide) (by decide) (by decide);obtain ⟨z0,z1,z2,z3⟩:=HZ.out U (J.pre D).1;refine am rfl N rfl I (by exact hN) ?_;show (execOp _ _).run _ _=Result.ok (.value (FM (bs x0.name))) _;clear hN I M N;simp only[execOp,Act.eval,fr];go_simp
    ·intro N g L Z U O M I J
     have d4:Z.tmps.getD 41 undef=FM (bs x0.name):=I.y 6 _ 41 rfl rfl (M 6 (by kernel_rfl));have D:L 14=false:=J.n14 O (by decide);have f6:=d4;rw[Array.getD_eq_getD_getElem?] at f6;refine lB (u:=FN (some ⟨U.heap.size,0,none⟩) 1 1) (w':=U.alloc (FQ #[FM (bs x0.name)] 9)) rfl rfl ?_ ⟨(g.1,U.heap.size,g.2.2),(I.congr (v':=_) fun j hj=>?_).put N rfl,J.b7 O D⟩
     ·obtain ⟨z0,z1,z2,z3⟩:=HZ.out U (J.pre D).1
      clear I M N J;simp only[execOp,Act.eval,d4];go_simp
     by_cases h7:j=7
     ·subst h7;rw[O] at hj;cases hj
     by_cases h8:j=8
     ·subst h8;rw[(J.d8 hj).2] at O;cases O
     exact lI j _ _ _ _ _ _ _ _ _ _ _ (fun _=>rfl) (fun h=>absurd h h7) (fun h=>absurd h h8) (fun _=>rfl) (fun _=>rfl)
    ·intro N g L Z U O M I J
     have et:Z.tmps.getD 36 undef=FN (some ⟨g.1,0,none⟩) 1 1:=I.y 1 _ 36 rfl rfl (M 1 (by kernel_rfl));have cv:Z.tmps.getD 42 undef=FN (some ⟨g.2.1,0,none⟩) 1 1:=I.y 7 _ 42 rfl rfl (M 7 (by kernel_rfl));have D:L 14=false:=J.n14 O (by decide);have gz:=et;rw[Array.getD_eq_getD_getElem?] at gz;have hg:=cv;rw[Array.getD_eq_getD_getElem?] at hg;have hN:=J.far (i:=8) (by decide) (by decide) (fun _=>⟨M 1 (by kernel_rfl),M 7 (by kernel_rfl)⟩) (by decide) (by decide) (by decide);refine am rfl N rfl I (by exact hN) ?_;show (execOp _ _).run _ _=Result.ok (.value (.agg (BD g.1 g.2.1).toArray)) _;clear hN I M N;simp only[execOp,Act.eval,et,cv];go_simp
     rfl
    ·intro N g L Z U O M I J
     have eb:Z.tmps.getD 43 undef= .agg (BD g.1 g.2.1).toArray:=I.y 8 _ 43 rfl rfl (M 8 (by kernel_rfl));have D:L 14=false:=J.n14 O (by decide);refine lB (u:=FN (some ⟨U.heap.size,0,none⟩) 1 1) (w':=U.alloc (FQ #[FR FS 0,FR FS 6,FN (some ⟨g.1,0,none⟩) 1 1,FN (some ⟨g.2.1,0,none⟩) 1 1,FN none 0 0,FM ⟨#[]⟩,FM ⟨#[]⟩,FR FS 0,FR FS 0,FM ⟨#[]⟩,FM ⟨#[]⟩,FR FS 0,FR FS 0,FM ⟨#[]⟩,FR FS 0] 50)) rfl rfl ?_ ⟨(g.1,g.2.1,U.heap.size,g.2.2.2),(I.congr (v':=_) fun j hj=>?_).put N rfl,J.b9 O (M 8 (by kernel_rfl)) D⟩
     ·have hs:Z.tmps[43]?.getD undef= .agg #[FR FS 0,FR FS 6,FN (some ⟨g.1,0,none⟩) 1 1,FN (some ⟨g.2.1,0,none⟩) 1 1,FN none 0 0,FM ⟨#[]⟩,FM ⟨#[]⟩,FR FS 0,FR FS 0,FM ⟨#[]⟩,FM ⟨#[]⟩,FR FS 0,FR FS 0,FM ⟨#[]⟩,FR FS 0]:=by
       have h:=eb;rw[Array.getD_eq_getD_getElem?] at h;exact h
      clear I M N J eb;simp only[execOp];go_simp
     by_cases h9:j=9
     ·subst h9;rw[O] at hj;cases hj
     exact lI j _ _ _ _ _ _ _ _ _ _ _ (fun _=>rfl) (fun _=>rfl) (fun _=>rfl) (fun h=>absurd h h9) (fun _=>rfl)
    ·intro N g L Z U O M I J
     have e2:Z.tmps.getD 2 undef=FO (some ⟨F,0,none⟩):=I.old 2 (by kernel_rfl);have D:L 14=false:=J.n14 O (by decide);have hN:=J.far (i:=10) (by decide) (by decide) (fun h=>absurd h (by decide)) (by decide) (by decide) (by decide);refine am rfl N rfl I (by exact hN) ?_;show (execOp _ _).run _ _=Result.ok (.value (FO (some ⟨F,1,none⟩))) _;clear hN I M N;simp only[execOp,Act.eval,e2];go_simp
    ·intro N g L Z U O M I J
     have e9:Z.tmps.getD 45 undef=FO (some ⟨F,1,none⟩):=I.y 10 _ 45 rfl rfl (M 10 (by kernel_rfl));have D:L 14=false:=J.n14 O (by decide);have hN:=J.far (i:=11) (by decide) (by decide) (fun h=>absurd h (by decide)) (by decide) (by decide) (by decide);obtain ⟨z0,z1,z2,z3⟩:=HZ.out U (J.pre D).1;refine am rfl N rfl I (by exact hN) ?_;show (execOp _ _).run _ _=Result.ok (.value (FN A1 f.jobs.length c1)) _;clear hN I M N;simp only[execOp,Act.eval,e9];go_simp
    ·intro N g L Z U O M I J
     have hf:Z.tmps.getD 44 undef=FN (some ⟨g.2.2.1,0,none⟩) 1 1:=I.y 9 _ 44 rfl rfl (M 9 (by kernel_rfl));have fS:Z.tmps.getD 46 undef=FN A1 f.jobs.length c1:=I.y 11 _ 46 rfl rfl (M 11 (by kernel_rfl));have D:L 14=false:=J.n14 O (by decide);obtain ⟨k1,p1,p7,p9,_⟩:=J.pre D;have h9:=M 9 (by kernel_rfl);have h8:=J.d9 h9;obtain ⟨q1,b1⟩:=p1 (J.d8 h8).1;obtain ⟨q7,b7⟩:=p7 (J.d8 h8).2;have ho:=p9 h9 O;obtain ⟨iv,e8,ds,c7,dt⟩:=info_parts BC;obtain ⟨v',w2,ey,d7,fz⟩:=dw (P:=Tryz.prog) U y.heap.size 26 26 50 iv _ 15 208 Tryz.underlying26 e8 ds c7 dt rfl (by decide) ho (f3.out.keep k1) c1 dr.out (by unfold maxLen;omega) (by omega) k1.size;obtain ⟨A',c',rfl,_⟩:=ar d7;have e4:∃ cur,U.heap[g.2.2.1]? = some (FQ cur 50 (0,0)):=by
      rcases ho.2 with ⟨h,_⟩|⟨_,_,cur,h,_,hh,_⟩
      ·cases h
      injection h with h;injection h with h;injection h with h;subst h;exact ⟨cur,hh⟩
     obtain ⟨cur,b3⟩:=e4;have eA:g.1≠g.2.2.1:=ao.ne b1 (show ao U g.2.2.1 _ cur from b3) (by decide);have c5:g.2.1≠g.2.2.1:=ao.ne b7 (show ao U g.2.2.1 _ cur from b3) (by decide);have g7:y.heap.size≤g.2.2.1:=(ho.lt _ rfl).1;have ez:=J.b12 O h9 D d7 fz g7 ⟨eA,c5⟩;refine Cj rfl rfl (Lib.wp_append_run U _ _ _ _ rfl _ _ (show Z.eval (.tmp 44)=_ from hf) (show Z.eval (.tmp 46)=_ from fS) _ w2 ey ?_);refine ⟨(g.1,g.2.1,g.2.2.1,A',c'),(I.congr (v':=_) fun j hj=>?_).put N rfl,ez⟩;by_cases ba:j=12
     ·subst ba;rw[O] at hj;cases hj
     exact lI j _ _ _ _ _ _ _ _ _ _ _ (fun _=>rfl) (fun _=>rfl) (fun _=>rfl) (fun _=>rfl) (fun h=>absurd h ba)
    ·intro N g L Z U O M I J
     have e7:Z.tmps.getD 7 undef=FO (some ⟨G,0,none⟩):=I.old 7 (by kernel_rfl);have D:L 14=false:=J.n14 O (by decide);have hN:=J.far (i:=13) (by decide) (by decide) (fun h=>absurd h (by decide)) (by decide) (by decide) (by decide);refine am rfl N rfl I (by exact hN) ?_;show (execOp _ _).run _ _=Result.ok (.value (FO (some ⟨G,1,none⟩))) _;clear hN I M N;simp only[execOp,Act.eval,e7];go_simp
    intro N g L Z U O M I J;have hc:Z.tmps.getD 48 undef=FO (some ⟨G,1,none⟩):=I.y 13 _ 48 rfl rfl (M 13 (by kernel_rfl));have f8:Z.tmps.getD 47 undef=FN g.2.2.2.1 (1+f.jobs.length) g.2.2.2.2:=I.y 12 _ 47 rfl rfl (M 12 (by kernel_rfl));obtain ⟨k1,p1,p7,_,d5⟩:=J.pre O;have ba:=M 12 (by kernel_rfl);have h8:=J.d9 (J.d12 ba);obtain ⟨q1,b1⟩:=p1 (J.d8 h8).1;obtain ⟨q7,b7⟩:=p7 (J.d8 h8).2;have ho:=d5 ba;have hG:=f4.out.keep k1 (by simp);have x1:U.cell? ⟨G,1,none⟩=some (FN A1 f.jobs.length c1):=hG.cell 1;have x2:U.frozen? ⟨G,1,none⟩=false:=hG.frozen 1;have aA:aa [G] U (U.setCell ⟨G,1,none⟩ (FN g.2.2.2.1 (1+f.jobs.length) g.2.2.2.2)):=(FK _ _).setCell (.inl (by simp)) _;have c4:BE y f name x0.name us.flatten G (FN (some ⟨gi,0,none⟩) f.ins.length c0) (FN A2 f.outs.length c2) (U.setCell ⟨G,1,none⟩ (FN g.2.2.2.1 (1+f.jobs.length) g.2.2.2.2)) :=
     ⟨g.1,g.2.1,g.2.2.2.1,g.2.2.2.2,k1.of_nil.trans aA,q1,q7,(hG.set 1 _).congr rfl,b1.keep aA (by simpa using ao.ne b1 hG (by decide)),b7.keep aA (by simpa using ao.ne b7 hG (by decide)),aC ho aA (fun x hx=>by simpa using dP.ne (aK ho x hx) hG.ty (by decide))⟩
    refine dR (w':=U.setCell ⟨G,1,none⟩ (FN g.2.2.2.1 (1+f.jobs.length) g.2.2.2.2)) rfl rfl ?_ ⟨g,I.put N rfl,?_⟩
    ·clear I M N J d5 ho
     simp only[execOp,Act.eval,hc,f8];go_simp
    have e:∀ j,14≠j→bA L 14 j=L j:=fun j hj=>by unfold bA;rw[if_neg (Ne.symm hj)]
    refine ⟨fun h'=>?_,fun h'=>?_,fun h'=>?_,fun _=>c4,fun _ j hj=>?_,fun h'=>by cases h'⟩
    ·rw[e 1 (by decide),e 7 (by decide)];exact J.d8 h8
    ·rw[e 8 (by decide)];exact h8
    ·rw[e 9 (by decide)];exact J.d12 ba
    rw[e j (by omega)]
    match j,hj with
    | 0,_=>exact M 0 (by kernel_rfl)
    | 1,_=>exact M 1 (by kernel_rfl)
    | 2,_=>exact M 2 (by kernel_rfl)
    | 3,_=>exact M 3 (by kernel_rfl)
    | 4,_=>exact M 4 (by kernel_rfl)
    | 5,_=>exact M 5 (by kernel_rfl)
    | 6,_=>exact M 6 (by kernel_rfl)
    | 7,_=>exact M 7 (by kernel_rfl)
    | 8,_=>exact M 8 (by kernel_rfl)
    | 9,_=>exact M 9 (by kernel_rfl)
    | 10,_=>exact M 10 (by kernel_rfl)
    | 11,_=>exact M 11 (by kernel_rfl)
    | 12,_=>exact M 12 (by kernel_rfl)
    | 13,_=>exact M 13 (by kernel_rfl)
   intro g L w' c3 J;refine hm _ _ (Met.intro (g6 _ _ ?_));repeat apply Exists.intro
   exact ⟨Fx (J.d14 (c3 14 (by decide))),rfl⟩
  obtain ⟨o1,o2,A,c,aA,l1,l2,hG,b1,b2,ho⟩:=hcut.out;obtain ⟨y4,rfl⟩:∃ z:World,z=wc:=⟨_,rfl⟩
  have av:=ff.out.keep aA (by simpa using Ne.symm gk.out);have g0:y4.cell? ⟨G,0,none⟩=some (FN (some ⟨gi,0,none⟩) f.ins.length c0):=hG.cell 0;have g1:y4.cell? ⟨G,1,none⟩=some (FN A (1+f.jobs.length) c):=hG.cell 1;have g2:y4.cell? ⟨G,2,none⟩=some (FN A2 f.outs.length c2):=hG.cell 2;have c0':y4.cell? ⟨X,0,none⟩=some (FN none 0 0):=av.cell 0;have c1':y4.cell? ⟨X,1,none⟩=some (FN none 0 0):=av.cell 1;have c2':y4.cell? ⟨X,2,none⟩=some (FN none 0 0):=av.cell 2;have z0:y4.frozen? ⟨X,0,none⟩=false:=av.frozen 0;have z1:y4.frozen? ⟨X,1,none⟩=false:=av.frozen 1;have z2:y4.frozen? ⟨X,2,none⟩=false:=av.frozen 2;have a0:aa [X] y4 (((y4.setCell ⟨X,0,none⟩ (FN (some ⟨gi,0,none⟩) f.ins.length c0)).setCell ⟨X,1,none⟩ (FN A (1+f.jobs.length) c)).setCell ⟨X,2,none⟩ (FN A2 f.outs.length c2)):=(((FK _ _).setCell (.inl (by simp)) _).setCell (.inl (by simp)) _).setCell (.inl (by simp)) _;have b8:Hid (ao (((y4.setCell ⟨X,0,none⟩ (FN (some ⟨gi,0,none⟩) f.ins.length c0)).setCell ⟨X,1,none⟩ (FN A (1+f.jobs.length) c)).setCell ⟨X,2,none⟩ (FN A2 f.outs.length c2)) X 29 #[FN (some ⟨gi,0,none⟩) f.ins.length c0,FN A (1+f.jobs.length) c,FN A2 f.outs.length c2]):=Fx ((((av.set 0 (FN (some ⟨gi,0,none⟩) f.ins.length c0)).set 1 (FN A (1+f.jobs.length) c)).set 2 (FN A2 f.outs.length c2)).congr rfl);have bc:=Fx ((cr.out.trans' aA fun x hx hl=>by rw[List.mem_singleton] at hx;have:=fc.out;omega).trans' a0 fun x hx hl=>by rw[List.mem_singleton] at hx;have:=eY.out;omega);have bz:=b1.keep a0 (by simpa using ao.ne b1 av (by decide));have br:=b2.keep a0 (by simpa using ao.ne b2 av (by decide));have ch:=aC ho a0 (fun x hx=>by simpa using dP.ne (aK ho x hx) av.ty (by decide));obtain ⟨yf,cj⟩:∃ z,(((y4.setCell ⟨X,0,none⟩ (FN (some ⟨gi,0,none⟩) f.ins.length c0)).setCell ⟨X,1,none⟩ (FN A (1+f.jobs.length) c)).setCell ⟨X,2,none⟩ (FN A2 f.outs.length c2))=z:=⟨_,rfl⟩
  have bj:=bc;rw[cj] at bz br ch bj;have cx:Hid (fB iy 15 yf (FN A (1+f.jobs.length) c) (aW f name).jobs):=Fx (by
   have e0:(f.ins.headD ⟨0,[],[]⟩).name=x0.name:=by
    rw[←f5.out,List.headD_eq_head?_getD,List.head?_eq_getElem?,FA ev];rfl
   have cg:(aW f name).jobs.length=1+f.jobs.length:=by simp[aW];omega
   have g3:dS yf (BD o1 o2::us) (aW f name).jobs:=by
    have h1:=fb.out.keep bj.out;have h2:dS yf [BD o1 o2] [iO name ((f.ins.headD ⟨0,[],[]⟩).name)]:=⟨rfl,fun j h h'=>by
     obtain rfl:j=0:=by simp at h;omega
     refine ⟨FN (some ⟨o1,0,none⟩) 1 1,FN (some ⟨o2,0,none⟩) 1 1,FN none 0 0,rfl,⟨by simp[iO],_,_,rfl,Fy _,?_⟩,⟨by simp[iO],_,_,rfl,Fy _,?_⟩,⟨by simp[iO],_,_,rfl,Fy _,Rd.nil⟩⟩
     ·exact ⟨rfl,fun _=>⟨_,rfl,by simp,bz.lt,fun j u hu=>by rw[cJ,Nat.zero_add,bz.cell j];simpa[iO,strs] using hu⟩⟩
     refine ⟨rfl,fun _=>⟨_,rfl,by simp,br.lt,fun j u hu=>?_⟩⟩;rw[cJ,Nat.zero_add,br.cell j,←e0];simpa[iO,strs] using hu⟩
    exact h2.append h1
   have e1:=g3.lsIn (base:=y.heap.size) (v:=FN A (1+f.jobs.length) c) (by rw[cg];exact ch) (by rw[cg];omega);exact e1)
  rw[←cj] at cx;clear bz br ch a0 aA av hG b1 b2 ho bj cj;go_wp2
  (try simp only[Exit.inBlock,Exit.then])
  refine bodyPost_ret (bE rfl _ _ X _ _ _ _ rfl b8.out Tryz.underlying29 rfl (by kernel_rfl)) rfl ?_;refine ⟨?_,bc.out⟩;unfold nr;rw[if_pos cq.out];exact ⟨A,c,by rw[d3.out];rfl,cx.out⟩
end
section
open Go.RowKit Go.BigFrame
attribute [local go_sem] ag ab ae af KW.cell
theorem vW {f:Fl} {name:Bs} (h:zu f) (N:f.ins≠[]) (Z:name.length≤40):om (aW f name) where
 outs:=FD h.nouts (by decide)
 all:=by
  have h1:=h.short.all;have e:(bf (aW f name)).length=(bf f).length+1:=by
   unfold bf aW iO;simp;omega
  have O:=gE f.jobs fun x M=>(h.jobs x M).outs.2.1
  have h3:=h.nins;have U:=h.njobs;rw[e];unfold bf;rw[Fz,List.length_map];omega
 names:=fun n D=>by
  have e:n=name∨n∈bf f:=by
   unfold bf aW iO at D;unfold bf;simp only[List.mem_append,List.mem_map,List.flatMap_cons,List.mem_cons,List.not_mem_nil,or_false] at D ⊢;rcases D with D|D|D
   ·exact .inr (.inl D)
   ·exact .inl D
   exact .inr (.inr D)
  rcases e with rfl|e
  ·omega
  exact h.short.names n e
 ins:=fun j I n D=>by
  rcases List.mem_cons.1 I with rfl|I
  ·obtain rfl:n=(f.ins.headD ⟨0,[],[]⟩).name:=List.mem_singleton.1 D
   cases J:f.ins with
   | nil=>exact absurd J N
   | cons x l=>exact FD (h.ins x (by rw[J];simp)).name.len (by decide)
  exact h.short.ins j I n D
 told:=h.short.told
theorem jj.more {W:World} {J N I D:Value} {f:Fl} {name:Bs} (h:jj W J N I f) (M:fB iy 15 W D (aW f name).jobs):jj W J D I (aW f name):=⟨h.i0,M,h.i2⟩
end
end Go.Proofs.YtecpeogejjibaaaGreatDoor
