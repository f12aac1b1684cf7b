/- The law's right: a flow that was read, and of which nothing is found. right, said yes. The law's more: a flow with one job more. Jobs turned: what PlanTurns' and EvalTurns' region keeps. -/
import Derived.Test.YtecpeogejjibaaaGreatDoorEtnM16
import Derived.Test.YtecpeogejjibaaaGreatDoorEtnM2
import Derived.Deep.DeepCutAuto
import Derived.Test.YtecpeogejjibaaaGreatDoorEtnM14
import Derived.Test.YtecpeogejjibaaaGreatDoorEtnM4
set_option linter.unusedSimpArgs false
set_option linter.unusedVariables false
set_option maxRecDepth 100000
set_option maxHeartbeats 16000000
namespace Go.Proofs.YtecpeogejjibaaaGreatDoor
open Go.Lib renaming hid → Fk
open _root_.Nat renaming le_refl → Fm
open aa renaming refl → Fz
open ao renaming new → FA
open Go.Value renaming string → FC, slice → FD, pointer → FE, int → FH
open Go.Ending renaming returned → FF
open Go.Obj renaming cells → FG
open Go.IntKind renaming i64 → FI
section
open Go.RowKit Go.BigFrame
attribute [local go_sem] ag ab ae af
theorem ij.box3 {W:World} {base X:Nat} {J I H u0 u1 u2:Value} {f:Fl} {cs:Array Value} (h:ij W base J I H f) (M:ao W X 29 cs):ij (((W.setCell ⟨X,0,none⟩ u0).setCell ⟨X,1,none⟩ u1).setCell ⟨X,2,none⟩ u2) base J I H f:=by
 have N:aa [X] W (((W.setCell ⟨X,0,none⟩ u0).setCell ⟨X,1,none⟩ u1).setCell ⟨X,2,none⟩ u2):=(((Fz [X] W).setCell (.inl (by simp)) _).setCell (.inl (by simp)) _).setCell (.inl (by simp)) _;have D:dE [9,64,57,50,60] [X] W (((W.setCell ⟨X,0,none⟩ u0).setCell ⟨X,1,none⟩ u1).setCell ⟨X,2,none⟩ u2):=⟨N,fun x O=>⟨29,by rw[List.mem_singleton.1 O];exact M.ty,by decide⟩⟩;exact ⟨h.i0.far D (by decide) (by decide),h.i1.far D (by decide) (by decide),h.i2.far D (by decide)⟩
def pG (s:Bs):Option Fl:=if 1000<s.length then none else match fi s with
 | .error _=>none
 | .ok f=>match cN f with
  | .error _=>none
  | .ok _=>some f
def Bz (R:Option Fl) (e:Ending) (w':World):Prop:=match R with
 | some f=>∃ base H I A1 D h c2,e=FF (.tuple #[.agg #[FD H f.ins.length I,FD A1 f.jobs.length D,FD h f.outs.length c2],.bool true])∧ij w' base (FD H f.ins.length I) (FD A1 f.jobs.length D) (FD h f.outs.length c2) f
 | none=>∃ H N I A1 J D h M c2,e=FF (.tuple #[.agg #[FD H N I,FD A1 J D,FD h M c2],.bool false])
theorem vY (s:Bs) (w:World) (hE:jW w) (hO:rH w) (hT:iJ w) :
  Calls Tryz.prog 7 #[FC (bs s)] w fun e w'=>Bz (pG s) e w'∧aa [] w w':=by
 have HE:=Fk hE;have HO:=Fk hO;have HT:=Fk hT;unfold pG;by_cases hs:1000<s.length
 ·rw[if_pos hs]
  have h1:(1000:Int)<(s.length:Int):=by omega
  clear hE hO hT;go_enter Tryz.func7,Tryz.ntmps7
  go_wp2
  (try simp only[Exit.inBlock,Exit.then])
  refine bodyPost_ret (cV rfl _ _ w.heap.size _ _ _ _ rfl (heap_alloc_new _ _) Tryz.underlying29 rfl (by kernel_rfl)) rfl ?_;exact ⟨⟨_,_,_,_,_,_,_,_,_,rfl⟩,(Fz [] _).alloc _⟩
 rw[if_neg hs];have h1:¬(1000:Int)<(s.length:Int):=by omega
 obtain ⟨R,hR⟩:∃ R,fi s=R:=⟨_,rfl⟩
 have be:Hid (∀ f,R= .ok f→wC f):=Fk (fun f hf=>(pC (by omega) (hR.trans hf)).1);have H2:Hid (∀ W,aa [] w W→Calls Tryz.prog 17 #[FC (bs s)] W fun e w'=>jP R W.heap.size e w'∧aa [] W w'):=Fk (fun W z=>by
  rw[←hR];exact qV s (by omega) W (hE.quiet z))
 rw[hR]
 obtain ⟨Z,hZ⟩:∃ Z,(match R with
  | .error _=>none
  | .ok f=>match cN f with
   | .error _=>none
   | .ok _=>some f)=Z:=⟨_,rfl⟩
 rw[hZ];have HZ:=Fk hZ;clear hE hO hT hR hZ;go_enter Tryz.func7,Tryz.ntmps7
 go_upto_region 3 with (fail)
 have V:=FA w 29 #[FD none 0 0,FD none 0 0,FD none 0 0];have a4:=(Fz [] w).alloc (FG #[FD none 0 0,FD none 0 0,FD none 0 0] 29);obtain ⟨y0,bj⟩:∃ z,w.alloc (FG #[FD none 0 0,FD none 0 0,FD none 0 0] 29)=z:=⟨_,rfl⟩
 rw[bj] at V a4 ⊢;obtain ⟨X,hX⟩:∃ X,w.heap.size=X:=⟨_,rfl⟩
 rw[hX] at V ⊢;have a3:=Fk V;have bc:=Fk a4;have a8:Hid (w.heap.size≤X):=Fk (by omega);clear V a4 bj hX;go_cut [4,5] (fun a b wx=>∃ F base U0 U1 U2,a=FE (some ⟨F,0,none⟩)∧Hid (ao wx F 29 #[U0,U1,U2])∧Hid (F≠X)∧Hid (ij wx base U0 U1 U2 (EP R).1)∧Hid (vX wx b R)∧Hid (aa [] y0 wx))
 case first =>
  go_wp2_with ((with_reducible refine (H2.out _ bc.out).mono ?_);rintro e w1 ⟨hp,k1⟩;obtain ⟨A0,n0,c0',A1,n1,c1',A2,n2,c2',er,rfl,hf,ba⟩:=qa hp;clear hp;have hf:=Fk hf;have ba:=Fk ba)
  go_meet;exact ⟨_,_,_,_,_,rfl,Fk (FA _ _ _),Fk (by have h1:=a3.out.lt;have h2:=k1.size;omega),Fk (hf.out.keep ((Fz _ _).alloc _)),Fk (ba.out.keep ((Fz _ _).alloc _)),Fk (k1.alloc _)⟩
 obtain ⟨F,base,U0,U1,U2,rfl,ad,bo,av,I,bb⟩:=hcut;obtain ⟨y1,rfl⟩:∃ z:World,z=wc:=⟨_,rfl⟩
 have H:=Fk (a3.out.keep bb.out (by simp));have a7:=Fk (bc.out.trans bb.out);clear H2 a3;have aA:∀ (V0 V1 V2:Value) (W:World),aa [] y1 W→ao (((W.setCell ⟨X,0,none⟩ V0).setCell ⟨X,1,none⟩ V1).setCell ⟨X,2,none⟩ V2) X 29 #[V0,V1,V2]∧aa [] w (((W.setCell ⟨X,0,none⟩ V0).setCell ⟨X,1,none⟩ V1).setCell ⟨X,2,none⟩ V2):=fun V0 V1 V2 W hk =>
  ⟨((((H.out.keep hk (by simp)).set 0 V0).set 1 V1).set 2 V2).congr rfl,(((a7.out.trans hk).setCell (.inr a8.out) _).setCell (.inr a8.out) _).setCell (.inr a8.out) _⟩
 have D:=Fk aA;clear aA;rcases hr:R with x|f
 ·have N:Hid (Z=none):=Fk (by rw[←HZ.out,hr])
  rw[hr] at I;obtain ⟨gi,rfl,-⟩:=I.out;have c0:y1.cell? ⟨X,0,none⟩=some (FD none 0 0):=H.out.cell 0;have c1:y1.cell? ⟨X,1,none⟩=some (FD none 0 0):=H.out.cell 1;have c2:y1.cell? ⟨X,2,none⟩=some (FD none 0 0):=H.out.cell 2;have z0:y1.frozen? ⟨X,0,none⟩=false:=H.out.frozen 0;have z1:y1.frozen? ⟨X,1,none⟩=false:=H.out.frozen 1;have z2:y1.frozen? ⟨X,2,none⟩=false:=H.out.frozen 2;clear hr av I;go_wp2
  (try simp only[Exit.inBlock,Exit.then])
  refine bodyPost_ret (cV rfl _ _ X _ _ _ _ rfl (D.out _ _ _ _ (Fz _ _)).1 Tryz.underlying29 rfl (by kernel_rfl)) rfl ?_;exact ⟨by rw[N.out];exact ⟨_,_,_,_,_,_,_,_,_,rfl⟩,(D.out _ _ _ _ (Fz _ _)).2⟩
 have N:Hid ((match cN f with
  | .error _=>none
  | .ok _=>some f)=Z):=Fk (by rw[←HZ.out,hr])
 rw[hr] at I av;have bk:_=Value.nilIface:=I.out;subst bk;have HW:=Fk (be.out f hr);have a9:Hid (ij y1 base U0 U1 U2 f):=av;obtain ⟨A0,a0,A1,a1,A2,a2,rfl,rfl,rfl⟩:=a9.out.forms;have f0:y1.cell? ⟨F,0,none⟩=some (FD A0 f.ins.length a0):=ad.out.cell 0;have f1:y1.cell? ⟨F,1,none⟩=some (FD A1 f.jobs.length a1):=ad.out.cell 1;have f2:y1.cell? ⟨F,2,none⟩=some (FD A2 f.outs.length a2):=ad.out.cell 2;have HC:=Fk (l7 f _ _ _ y1 (a9.out.flIn HW.out) HW.out.short (HO.out.quiet a7.out) (HT.out.keep a7.out (by simp)) HW.out.colNames);clear hr av I be;go_wp2_with fail
 refine HC.out.mono ?_;rintro e y2 ⟨O,U⟩;have J:=Fk U;have h:=Fk (H.out.keep U (by simp));have a6:=Fk (ad.out.keep U (by simp));have c0:y2.cell? ⟨X,0,none⟩=some (FD none 0 0):=h.out.cell 0;have c1:y2.cell? ⟨X,1,none⟩=some (FD none 0 0):=h.out.cell 1;have c2:y2.cell? ⟨X,2,none⟩=some (FD none 0 0):=h.out.cell 2;have z0:y2.frozen? ⟨X,0,none⟩=false:=h.out.frozen 0;have z1:y2.frozen? ⟨X,1,none⟩=false:=h.out.frozen 1;have z2:y2.frozen? ⟨X,2,none⟩=false:=h.out.frozen 2;clear f0 f1 f2 U;have f0:y2.cell? ⟨F,0,none⟩=some (FD A0 f.ins.length a0):=a6.out.cell 0;have f1:y2.cell? ⟨F,1,none⟩=some (FD A1 f.jobs.length a1):=a6.out.cell 1;have f2:y2.cell? ⟨F,2,none⟩=some (FD A2 f.outs.length a2):=a6.out.cell 2;have d0:y2.drew.cell? ⟨X,0,none⟩=some (FD none 0 0):=h.out.cell 0;have d1:y2.drew.cell? ⟨X,1,none⟩=some (FD none 0 0):=h.out.cell 1;have d2:y2.drew.cell? ⟨X,2,none⟩=some (FD none 0 0):=h.out.cell 2;have e0:y2.drew.frozen? ⟨X,0,none⟩=false:=h.out.frozen 0;have e1:y2.drew.frozen? ⟨X,1,none⟩=false:=h.out.frozen 1;have e2:y2.drew.frozen? ⟨X,2,none⟩=false:=h.out.frozen 2
 cases M:cN f with
 | error x =>
  have a5:Hid (Z=none):=Fk (by rw[←N.out,M]);rw[M] at O;obtain ⟨u,rfl,gi,rfl,hb⟩:=O;clear hb;go_upto_region 7 with (fail)
  go_region
  all_goals
   go_wp2
   (try simp only[Exit.inBlock,Exit.then])
   refine bodyPost_ret (cV rfl _ _ X _ _ _ _ rfl (D.out _ _ _ _ J.out.drew).1 Tryz.underlying29 rfl (by kernel_rfl)) rfl ?_;exact ⟨by rw[a5.out];exact ⟨_,_,_,_,_,_,_,_,_,rfl⟩,(D.out _ _ _ _ J.out.drew).2⟩
 | ok m =>
  have a5:Hid (Z=some f):=Fk (by rw[←N.out,M]);rw[M] at O;obtain ⟨b,mv,rfl,-,-,-⟩:=O;have bm:=Fk (ij.box3 (u0:=FD A0 f.ins.length a0) (u1:=FD A1 f.jobs.length a1) (u2:=FD A2 f.outs.length a2) (W:=y2.drew) (a9.out.keep J.out.drew) h.out.drew);go_upto_region 7 with (fail)
  go_region
  all_goals
   go_wp2
   (try simp only[Exit.inBlock,Exit.then])
   refine bodyPost_ret (cV rfl _ _ X _ _ _ _ rfl (D.out _ _ _ _ J.out.drew).1 Tryz.underlying29 rfl (by kernel_rfl)) rfl ?_;exact ⟨by rw[a5.out];exact ⟨_,_,_,_,_,_,_,rfl,bm.out⟩,(D.out _ _ _ _ J.out.drew).2⟩
end
section
open Go.RowKit Go.BigFrame
theorem we {s:Bs} {f:Fl} (h:pG s=some f):s.length≤1000∧fi s= .ok f∧∃ m,cN f= .ok m:=by
 unfold pG at h;split at h
 ·cases h
 rename_i I
 cases H:fi s with
 | error x=>rw[H] at h;cases h
 | ok g =>
  rw[H] at h;dsimp only at h
  cases D:cN g with
  | error x=>rw[D] at h;cases h
  | ok m =>
   rw[D] at h;cases h
   exact ⟨by omega,rfl,m,D⟩
end
section
open Go.RowKit Go.BigFrame
attribute [local go_sem] ag ab ae af
def ES (D h:Nat):List Value:=[FH FI 0,FH FI 6,FD (some ⟨D,0,none⟩) 1 1,FD (some ⟨h,0,none⟩) 1 1,FD none 0 0,FC ⟨#[]⟩,FC ⟨#[]⟩,FH FI 0,FH FI 0,FC ⟨#[]⟩,FC ⟨#[]⟩,FH FI 0,FH FI 0,FC ⟨#[]⟩,FH FI 0]
def ET (y:World) (f:Fl) (N I:Bs) (H:List Value) (G:Nat) (M J:Value) (w':World):Prop :=
 ∃ D h A c,aa [G] y w'∧y.heap.size≤D∧y.heap.size≤h∧ao w' G 29 #[M,FD A (1+f.jobs.length) c,J]∧ao w' D 9 #[FC (bs N)]∧ao w' h 9 #[FC (bs I)]∧w'.ownsRow y.heap.size 50 15 (FD A (1+f.jobs.length) c) (1+f.jobs.length) (ES D h++H)
structure zB (y:World) (f:Fl) (n0 n1:Bs) (ys:List Value) (G:Nat) (v0 v2:Value) (g:Nat×Nat×Nat×Option Addr×Nat) (L:Nat→Bool) (w':World):Prop where
 d8:L 8=true→L 1=true∧L 7=true
 d9:L 9=true→L 8=true
 d12:L 12=true→L 9=true
 d14:L 14=true→ET y f n0 n1 ys G v0 v2 w'
 all:L 14=true→∀ j,j<14→L j=true
 pre:L 14=false→aa [] y w'∧(L 1=true→y.heap.size≤g.1∧ao w' g.1 9 #[FC (bs n0)])∧(L 7=true→y.heap.size≤g.2.1∧ao w' g.2.1 9 #[FC (bs n1)]) ∧
  (L 9=true→L 12=false→w'.ownsRow y.heap.size 50 15 (FD (some ⟨g.2.2.1,0,none⟩) 1 1) 1 (ES g.1 g.2.1)) ∧
  (L 12=true→w'.ownsRow y.heap.size 50 15 (FD g.2.2.2.1 (1+f.jobs.length) g.2.2.2.2) (1+f.jobs.length) (ES g.1 g.2.1++ys))
theorem zB.far {y:World} {f:Fl} {Z N:Bs} {ys:List Value} {G:Nat} {U O:Value} {g:Nat×Nat×Nat×Option Addr×Nat} {L:Nat→Bool} {w':World} (h:zB y f Z N ys G U O g L w') {i:Nat} (V:i≠1) (h7:i≠7) (h8:i=8→L 1=true∧L 7=true) (I:i≠9) (H:i≠12) (D:i≠14):zB y f Z N ys G U O g (bd L i) w':=by
 have e:∀ j,i≠j→bd L i j=L j:=fun j J=>by unfold bd;rw[if_neg (Ne.symm J)]
 refine ⟨fun h'=>?_,fun h'=>?_,fun h'=>?_,fun h'=>?_,fun h' j J=>?_,fun h'=>?_⟩
 ·rw[e 1 V,e 7 h7]
  by_cases M:i=8
  ·exact h8 M
  rw[e 8 M] at h';exact h.d8 h'
 ·rw[e 9 I] at h'
  have:=h.d9 h';unfold bd;split
  ·rfl
  exact this
 ·rw[e 12 H] at h'
  rw[e 9 I];exact h.d12 h'
 ·rw[e 14 D] at h'
  exact h.d14 h'
 ·rw[e 14 D] at h'
  have:=h.all h' j J;unfold bd;split
  ·rfl
  exact this
 rw[e 14 D] at h';rw[e 1 V,e 7 h7,e 9 I,e 12 H];exact h.pre h'
theorem zB.b1 {y:World} {f:Fl} {I M:Bs} {U:List Value} {G:Nat} {O N:Value} {g:Nat×Nat×Nat×Option Addr×Nat} {L:Nat→Bool} {w':World} (h:zB y f I M U G O N g L w') (Z:L 1=false) (D:L 14=false):zB y f I M U G O N (w'.heap.size,g.2) (bd L 1) (w'.alloc (FG #[FC (bs I)] 9)):=by
 have e:∀ j,1≠j→bd L 1 j=L j:=fun j J=>by unfold bd;rw[if_neg (Ne.symm J)]
 have H:∀ j,(j=8∨j=9∨j=12)→L j=true→False:=fun j J hj'=>by
  have h8:L 8=true:=by
   rcases J with rfl|rfl|rfl
   ·exact hj'
   ·exact h.d9 hj'
   exact h.d9 (h.d12 hj')
  rw[(h.d8 h8).1] at Z;cases Z
 obtain ⟨k,p1,V,p9,ad⟩:=h.pre D;refine ⟨fun h'=>?_,fun h'=>?_,fun h'=>?_,fun h'=>?_,fun h'=>?_,fun _=>⟨k.alloc _,fun _=>⟨k.size,FA _ _ _⟩,fun h'=>?_,fun h'=>?_,fun h'=>?_⟩⟩
 ·rw[e 8 (by decide)] at h';exact (H 8 (by simp) h').elim
 ·rw[e 9 (by decide)] at h';exact (H 9 (by simp) h').elim
 ·rw[e 12 (by decide)] at h';exact (H 12 (by simp) h').elim
 ·rw[e 14 (by decide),D] at h';cases h'
 ·rw[e 14 (by decide),D] at h';cases h'
 ·rw[e 7 (by decide)] at h'
  exact ⟨(V h').1,(V h').2.alloc _⟩
 ·rw[e 9 (by decide)] at h';exact (H 9 (by simp) h').elim
 rw[e 12 (by decide)] at h';exact (H 12 (by simp) h').elim
theorem zB.b7 {y:World} {f:Fl} {O I:Bs} {U:List Value} {G:Nat} {N M:Value} {g:Nat×Nat×Nat×Option Addr×Nat} {L:Nat→Bool} {w':World} (h:zB y f O I U G N M g L w') (Z:L 7=false) (D:L 14=false):zB y f O I U G N M (g.1,w'.heap.size,g.2.2) (bd L 7) (w'.alloc (FG #[FC (bs I)] 9)):=by
 have e:∀ j,7≠j→bd L 7 j=L j:=fun j J=>by unfold bd;rw[if_neg (Ne.symm J)]
 have H:∀ j,(j=8∨j=9∨j=12)→L j=true→False:=fun j J hj'=>by
  have h8:L 8=true:=by
   rcases J with rfl|rfl|rfl
   ·exact hj'
   ·exact h.d9 hj'
   exact h.d9 (h.d12 hj')
  rw[(h.d8 h8).2] at Z;cases Z
 obtain ⟨k,V,p7,p9,ad⟩:=h.pre D;refine ⟨fun h'=>?_,fun h'=>?_,fun h'=>?_,fun h'=>?_,fun h'=>?_,fun _=>⟨k.alloc _,fun h'=>?_,fun _=>⟨k.size,FA _ _ _⟩,fun h'=>?_,fun h'=>?_⟩⟩
 ·rw[e 8 (by decide)] at h';exact (H 8 (by simp) h').elim
 ·rw[e 9 (by decide)] at h';exact (H 9 (by simp) h').elim
 ·rw[e 12 (by decide)] at h';exact (H 12 (by simp) h').elim
 ·rw[e 14 (by decide),D] at h';cases h'
 ·rw[e 14 (by decide),D] at h';cases h'
 ·rw[e 1 (by decide)] at h'
  exact ⟨(V h').1,(V h').2.alloc _⟩
 ·rw[e 9 (by decide)] at h';exact (H 9 (by simp) h').elim
 rw[e 12 (by decide)] at h';exact (H 12 (by simp) h').elim
theorem zB.b9 {y:World} {f:Fl} {N I:Bs} {O:List Value} {G:Nat} {M J:Value} {g:Nat×Nat×Nat×Option Addr×Nat} {L:Nat→Bool} {w':World} (h:zB y f N I O G M J g L w') (hL:L 9=false) (H:L 8=true) (D:L 14=false):zB y f N I O G M J (g.1,g.2.1,w'.heap.size,g.2.2.2) (bd L 9) (w'.alloc (FG (ES g.1 g.2.1).toArray 50)):=by
 have e:∀ j,9≠j→bd L 9 j=L j:=fun j hj=>by unfold bd;rw[if_neg (Ne.symm hj)]
 have V:L 12=true→False:=fun hj'=>by
  rw[h.d12 hj'] at hL;cases hL
 obtain ⟨k,Z,U,p9,ad⟩:=h.pre D;refine ⟨fun h'=>?_,fun h'=>?_,fun h'=>?_,fun h'=>?_,fun h'=>?_,fun _=>⟨k.alloc _,fun h'=>?_,fun h'=>?_,fun _ _=>?_,fun h'=>?_⟩⟩
 ·rw[e 1 (by decide),e 7 (by decide)];exact h.d8 H
 ·rw[e 8 (by decide)];exact H
 ·rw[e 12 (by decide)] at h';exact (V h').elim
 ·rw[e 14 (by decide),D] at h';cases h'
 ·rw[e 14 (by decide),D] at h';cases h'
 ·exact ⟨(Z (h.d8 H).1).1,(Z (h.d8 H).1).2.alloc _⟩
 ·exact ⟨(U (h.d8 H).2).1,(U (h.d8 H).2).2.alloc _⟩
 ·exact ⟨rfl,.inr ⟨w'.heap.size,1,(ES g.1 g.2.1).toArray,rfl,k.size,heap_alloc_new _ _,Fm _,by decide,rfl,rfl⟩⟩
 rw[e 12 (by decide)] at h';exact (V h').elim
end
section
open Go.RowKit Go.BigFrame
attribute [local go_sem] ag ab ae af KW.cell
def um (f:Fl) (k:Nat):Fl:=⟨f.ins,f.jobs.drop k++f.jobs.take k,f.outs⟩
theorem jQ (f:Fl) (k:Nat):(um f k).jobs.Perm f.jobs:=by
 show (f.jobs.drop k++f.jobs.take k).Perm f.jobs;have h:=List.perm_append_comm (l₁:=f.jobs.drop k) (l₂:=f.jobs.take k);rwa [List.take_append_drop] at h
theorem BG {f:Fl} (h:wC f) (k:Nat):wC (um f k):=⟨h.nins,by rw[(jQ f k).length_eq];exact h.njobs,h.nouts,h.ins,fun j D=>h.jobs j ((jQ f k).mem_iff.1 D),h.outs⟩
def Dh (y:World) (f:Fl) (k:Nat) (us:List (List Value)) (G:Nat) (v0 v2:Value) (w':World):Prop :=
 ∃ base A c,aa [G] y w'∧ao w' G 29 #[v0,FD A (f.jobs.length-k+k) c,v2]∧w'.ownsRow base 50 15 (FD A (f.jobs.length-k+k) c) (f.jobs.length-k+k) ((us.drop k).flatten++(us.take k).flatten)
structure zD (y:World) (f:Fl) (k:Nat) (us:List (List Value)) (G:Nat) (v0 v2:Value) (g:Option Addr×Nat×Option Addr×Nat) (L:Nat→Bool) (w':World):Prop where
 d9:L 9=true→L 4=true
 d11:L 11=true→Dh y f k us G v0 v2 w'
 all:L 11=true→∀ j,j<11→L j=true
 pre:L 11=false→aa [] y w'∧(L 4=true→L 9=false→∃ base,(y.heap.size≤base∧base≤w'.heap.size)∧w'.ownsRow base 50 15 (FD g.1 (f.jobs.length-k) g.2.1) (f.jobs.length-k) (us.drop k).flatten) ∧
  (L 9=true→∃ base,y.heap.size≤base∧w'.ownsRow base 50 15 (FD g.2.2.1 (f.jobs.length-k+k) g.2.2.2) (f.jobs.length-k+k) ((us.drop k).flatten++(us.take k).flatten))
section
variable {y:World} {f:Fl} {k:Nat} {us:List (List Value)} {G:Nat} {v0 v2:Value} {g:Option Addr×Nat×Option Addr×Nat} {L:Nat→Bool} {w' w'':World} {A:Option Addr} {c:Nat}
theorem zD.n11 (h:zD y f k us G v0 v2 g L w') {i:Nat} (D:L i=false) (H:i<11):L 11=false:=by
 cases I:L 11 with
 | false=>rfl
 | true=>rw[h.all I i H] at D;cases D
theorem zD.far (h:zD y f k us G v0 v2 g L w') {i:Nat} (I:i≠4) (J:i≠9) (D:i≠11):zD y f k us G v0 v2 g (bd L i) w':=by
 have e:∀ j,i≠j→bd L i j=L j:=fun j H=>by unfold bd;rw[if_neg (Ne.symm H)]
 refine ⟨fun h'=>?_,fun h'=>?_,fun h' j H=>?_,fun h'=>?_⟩
 ·rw[e 9 J] at h'
  rw[e 4 I];exact h.d9 h'
 ·rw[e 11 D] at h'
  exact h.d11 h'
 ·rw[e 11 D] at h'
  have:=h.all h' j H;unfold bd;split
  ·rfl
  exact this
 rw[e 11 D] at h';rw[e 4 I,e 9 J];exact h.pre h'
theorem zD.b4 (h:zD y f k us G v0 v2 g L w') (M:L 4=false) (D:L 11=false) (J:aa [] w' w'') (N:w''.ownsRow w'.heap.size 50 15 (FD A (f.jobs.length-k) c) (f.jobs.length-k) (us.drop k).flatten):zD y f k us G v0 v2 (A,c,g.2.2) (bd L 4) w'':=by
 have e:∀ j,4≠j→bd L 4 j=L j:=fun j O=>by unfold bd;rw[if_neg (Ne.symm O)]
 have H:L 9=true→False:=fun hj'=>by rw[h.d9 hj'] at M;cases M
 obtain ⟨I,_,_⟩:=h.pre D;refine ⟨fun h'=>?_,fun h'=>?_,fun h'=>?_,fun _=>⟨I.trans J,fun _ _=>⟨_,⟨I.size,J.size⟩,N⟩,fun h'=>?_⟩⟩
 ·rw[e 9 (by decide)] at h';exact (H h').elim
 ·rw[e 11 (by decide),D] at h';cases h'
 ·rw[e 11 (by decide),D] at h';cases h'
 rw[e 9 (by decide)] at h';exact (H h').elim
theorem zD.b9 (h:zD y f k us G v0 v2 g L w') (Z:L 9=false) (M:L 4=true) (D:L 11=false) {base:Nat} (N:w''.ownsRow base 50 15 (FD A (f.jobs.length-k+k) c) (f.jobs.length-k+k) ((us.drop k).flatten++(us.take k).flatten)) {H:Option Nat} (U:w'.grownBy w'' H) (I:∀ x,H=some x→y.heap.size≤x) (J:y.heap.size≤base):zD y f k us G v0 v2 (g.1,g.2.1,A,c) (bd L 9) w'':=by
 have e:∀ j,9≠j→bd L 9 j=L j:=fun j hj=>by unfold bd;rw[if_neg (Ne.symm hj)]
 obtain ⟨O,_,_⟩:=h.pre D;refine ⟨fun h'=>?_,fun h'=>?_,fun h'=>?_,fun _=>⟨O.grown U (fun x V=> .inr (I x V)),fun _ h'=>?_,fun _=>⟨_,J,N⟩⟩⟩
 ·rw[e 4 (by decide)];exact M
 ·rw[e 11 (by decide),D] at h';cases h'
 ·rw[e 11 (by decide),D] at h';cases h'
 cases h'
end
theorem un (b o n d h:Nat) (V:h<n) (O:n≤d) (W:World):(Instr.slice 26 (FD (some ⟨b,o,none⟩) n d) (some (FH FI (h:Int))) none none).run Tryz.prog W= .ok (FD (some ⟨b,o+h*15,none⟩) (n-h) (d-h)) W:=by
 have U:=Tryz.underlying26;have N:(0:Int)≤(h:Int):=by omega
 have M:(h:Int)≤(n:Int):=by omega
 have I:(n:Int)≤(d:Int):=by omega
 have H:h<d:=by omega
 have D:((n:Int)-(h:Int)).toNat=n-h:=by omega
 have J:((d:Int)-(h:Int)).toNat=d-h:=by omega
 go_simp
 exact fun e=>absurd e (by omega)
theorem zv (b o n d h:Nat) (M:h≤n) (I:n≤d) (W:World):(Instr.slice 26 (FD (some ⟨b,o,none⟩) n d) none (some (FH FI (h:Int))) none).run Tryz.prog W= .ok (FD (some ⟨b,o,none⟩) h d) W:=by
 have J:=Tryz.underlying26;have H:(0:Int)≤(h:Int):=by omega
 have D:(h:Int)≤(d:Int):=by omega
 go_simp
end
end Go.Proofs.YtecpeogejjibaaaGreatDoor
