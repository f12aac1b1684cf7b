/- plan.Check. -/
import Derived.Test.YtecpeogejjibaaaGreatDoorEmoM11
import Derived.Test.YtecpeogejjibaaaGreatDoorEmoM12
import Derived.Test.YtecpeogejjibaaaGreatDoorEmoM6
import Derived.Test.YtecpeogejjibaaaGreatDoorEmoM3
import Derived.Test.YtecpeogejjibaaaGreatDoorEmoM13
import Derived.Test.YtecpeogejjibaaaGreatDoorEmoM8
import Derived.Test.YtecpeogejjibaaaGreatDoorEmoM1
set_option linter.unusedSimpArgs false
set_option linter.unusedVariables false
set_option maxRecDepth 100000
set_option maxHeartbeats 16000000
namespace Go.Proofs.YtecpeogejjibaaaGreatDoor
open Go.Lib renaming hid → Fx
open _root_.Nat renaming le_refl → Fy, le_trans → FD, zero_le → FF
open _root_.List renaming length_append → Fz, getElem?_eq_getElem → FA, getElem_mem → FE, length_cons → FG, length_take → FH
open Go.World renaming news_of_block → FI
open aa renaming refl → FK
open ao renaming new → FL
open Go.Value renaming string → FM, slice → FN, int → FR
open Go.Ending renaming returned → FP
open Go.Obj renaming cells → FQ
open Go.IntKind renaming i64 → FS
section
open Go.RowKit Go.BigFrame
attribute [local go_sem] ag ab ae af
def qA (W:World):List (Bs×Value)→Cm→Prop
 | [],[]=>True
 | p::mv,q::m=>p.1=q.1∧jV W p.2 q.2∧qA W mv m
 | _,_=>False
theorem qA.keep {W W':World} (D:aa [] W W'):∀ {mv:List (Bs×Value)} {m:Cm},qA W mv m→qA W' mv m
 | [],[],_=>trivial
 | _::_,_::_,h=>⟨h.1,h.2.1.keep D,qA.keep D h.2.2⟩
theorem qA.len {W:World}:∀ {mv:List (Bs×Value)} {m:Cm},qA W mv m→mv.length=m.length
 | [],[],_=>rfl
 | _::_,_::_,h=>congrArg (· + 1) h.2.2.len
theorem qA.fst {W:World}:∀ {mv:List (Bs×Value)} {m:Cm},qA W mv m→mv.map (·.1)=m.map (·.1)
 | [],[],_=>rfl
 | p::mv,q::m,h=>by rw[List.map_cons,List.map_cons,h.1,h.2.2.fst]
theorem qA.look {W:World} (n:Bs):∀ {mv:List (Bs×Value)} {m:Cm},qA W mv m→(mv.lookup n=none∧m.lookup n=none)∨∃ v c,mv.lookup n=some v∧m.lookup n=some c∧jV W v c
 | [],[],_=> .inl ⟨rfl,rfl⟩
 | p::mv,q::m,h=>by
  obtain ⟨I,N⟩:=p;obtain ⟨q1,q2⟩:=q;obtain ⟨e,J,M⟩:=h;simp only at e;subst e;rw[List.lookup_cons,List.lookup_cons];by_cases D:n=I
  ·subst D
   simp only[beq_self_eq_true];exact .inr ⟨_,_,rfl,rfl,J⟩
  have:(n==I)=false:=by simpa using D
  rw[this];exact qA.look n M
theorem jV.nil (W:World):jV W (FN none 0 0) []:=⟨by simp,none,0,rfl,Fy _,Rd.nil⟩
theorem qA.get {W:World} {mv:List (Bs×Value)} {m:Cm} (h:qA W mv m) (n:Bs):jV W ((mv.lookup n).getD (FN none 0 0)) (ep m n):=by
 unfold ep;rcases h.look n with ⟨D,I⟩|⟨v,c,D,I,J⟩
 ·rw[D,I];exact jV.nil W
 rw[D,I];exact J
structure oE (w:World) (X b:Nat) (v0 v1 v2:Value) (mv:List (Bs×Value)) (m:Cm) (W:World):Prop where
 k:aa [] w W
 fb:ao W X 29 #[v0,v1,v2]
 mp:bI Tryz.prog 9 W b mv
 cv:qA W mv m
 hb:w.heap.size≤b
 xb:X≠b
theorem rH {W:World} {b o:Nat} {h:Array MapEntry} {cl:Nat} {v:Value} (D:W.heap[b]? = some (.map h cl)):W.cell? ⟨b,o,none⟩≠some v:=by
 unfold World.cell?;rw[D];simp
theorem Rd.keepM {W W':World} {b size n:Nat} {A:Option Addr} {xs:List Value} {es:Array MapEntry} {cl:Nat} (U:W.heap[b]? = some (.map es cl)) (M:aa [b] W W') (O:0<size) (h:Rd W [] size A n xs):Rd W' [] size A n xs:=by
 refine ⟨h.1,fun J=>?_⟩;obtain ⟨ad,e,h1,N,h3⟩:=h.2 J;have h0:0<xs.length:=by rw[h.1];exact Nat.mul_pos J O
 obtain ⟨b2,o2,D,_,_,h4⟩:=Rd.open' h J O;rw[e] at D;injection D with D;subst D;have I:b2≠b:=fun hh=>by
  subst hh;exact rH U (h4 0 _ (FA h0))
 exact ⟨_,e,h1,Nat.lt_of_lt_of_le N M.size,fun j u Z=>(M.cell (by rw[cZ];exact N) (by rw[cZ];simpa using I)).trans (h3 j u Z)⟩
theorem jV.keepM {W W':World} {b:Nat} {v:Value} {l:List Cl} {I:Array MapEntry} {cl:Nat} (N:W.heap[b]? = some (.map I cl)) (D:aa [b] W W') (h:jV W v l):jV W' v l:=by
 obtain ⟨M,A,c,O,U,J⟩:=h;exact ⟨M,A,c,O,U,J.keepM N D (by decide)⟩
theorem qA.keepM {W W':World} {b:Nat} {J:Array MapEntry} {cl:Nat} (I:W.heap[b]? = some (.map J cl)) (D:aa [b] W W'):∀ {mv:List (Bs×Value)} {m:Cm},qA W mv m→qA W' mv m
 | [],[],_=>trivial
 | _::_,_::_,h=>⟨h.1,h.2.1.keepM I D,qA.keepM I D h.2.2⟩
theorem bI.isM {W:World} {b:Nat} {mv:List (Bs×Value)} (h:bI Tryz.prog 9 W b mv):∃ I cl,W.heap[b]? = some (.map I cl):=by
 obtain ⟨D,⟨I,cl,J,_⟩,_⟩:=h;exact ⟨I,cl,J⟩
theorem oE.keep {w W W':World} {X b:Nat} {J M I:Value} {mv:List (Bs×Value)} {m:Cm} (h:oE w X b J M I mv m W) (D:aa [] W W'):oE w X b J M I mv m W' :=
 ⟨h.k.trans D,h.fb.keep D (by simp),h.mp.keep D (by simp),h.cv.keep D,h.hb,h.xb⟩
theorem bI.get {w:World} {b:Nat} {mv:List (Bs×Value)} (h:bI Tryz.prog 9 w b mv) (k:Bs) (D:k.length≤1000):(Instr.lookup 32 (.map (some b)) (FM (bs k)) false).run Tryz.prog w= .ok ((mv.lookup k).getD (FN none 0 0)) w :=
 bI.look0 h (T:=32) (E:=51) Tryz.underlying32 Tryz.underlying9 (by kernel_rfl) k (by simp only[maxLen];omega)
theorem bI.put {w:World} {b:Nat} {mv:List (Bs×Value)} (h:bI Tryz.prog 9 w b mv) (k:Bs) (v:Value) (D:k.length≤1000) (I:mv.length≤1000000000000000):∃ w',(Instr.mapUpdate 32 (.map (some b)) (FM (bs k)) v).run Tryz.prog w= .ok () w'∧bI Tryz.prog 9 w' b ((k,v)::mv)∧w.grownBy w' (some b) :=
 bI.store h (T:=32) (E:=51) Tryz.underlying32 Tryz.underlying9 k v (by simp only[maxLen];omega) (by simp only[maxLen];omega)
theorem oE.put {w W W':World} {X b:Nat} {N M J:Value} {mv:List (Bs×Value)} {m:Cm} (h:oE w X b N M J mv m W) {n:Bs} {v:Value} {c:List Cl} (Z:jV W v c) (U:bI Tryz.prog 9 W' b ((n,v)::mv)) (D:aa [b] W W'):oE w X b N M J ((n,v)::mv) ((n,c)::m) W':=by
 obtain ⟨es,cl,I⟩:=h.mp.isM;exact ⟨h.k.trans' D (fun x O hl=>by rw[List.mem_singleton.1 O] at hl;exact absurd h.hb (by omega)),h.fb.keep D (by simpa using h.xb),U,⟨rfl,Z.keepM I D,h.cv.keepM I D⟩,h.hb,h.xb⟩
def Ae (R:Except (Int×Int) Cm) (base:Nat) (e:Ending) (w':World):Prop:=match R with
 | .ok m=>∃ b mv,e=FP (.tuple #[.map (some b),.nilIface])∧bI Tryz.prog 9 w' b mv∧qA w' mv m∧base≤b
 | .error x=>∃ u,e=FP (.tuple #[.map none,u])∧qp x u w'
theorem ym (f:Fl):cQ f=gS (kC f.ins []) fun m=>gS (dK f) fun _=>gS (cG f) fun l=>ed f l m:=by
 unfold cQ gS
 cases kC f.ins [] with
 | error x=>rfl
 | ok m =>
  show (dK f >>= _)=_;simp only
  cases dK f with
  | error x=>rfl
  | ok u =>
   show (cG f >>= _)=_;simp only
   cases cG f with
   | error x=>rfl
   | ok l=>rfl
theorem yo (x:In) (l:List In) (m:Cm):kC (x::l) m=if cp x.cols then kC l ((x.name,x.cols)::m) else .error (3,x.at_):=rfl
theorem ti (l:List Nat) (t:Nat) (h:t<l.length):(gQ l)[t]? = some (FR FS (l[t]:Nat)):=by simp[gQ,dc,h]
theorem wC {D:List Jb} {j:Jb} (h:j∈D):j.outs.length≤(D.flatMap (·.outs)).length:=by
 induction D with
 | nil=>cases h
 | cons q D ih =>
  rw[List.flatMap_cons,Fz];rcases List.mem_cons.1 h with rfl|h
  ·omega
  have:=ih h;omega
def oF (f:Fl) (h:List Nat) (x:Jb) (m:Cm) (r:Except Int (List (List Cl))):Except (Int×Int) Cm:=match r with
 | .error e=> .error (e,x.at_)
 | .ok cs=>ed f h (gN x.outs cs m)
theorem u7 (f:Fl) (k:Nat) (h:List Nat) (m:Cm):ed f (k::h) m=oF f h (jb f k) m (aL (jb f k) ((jb f k).ins.map (ep m))):=by
 unfold oF;rw[ed];cases aL (jb f k) (List.map (ep m) (jb f k).ins)<;>rfl
theorem yp (ns:List Bs) (cs:List (List Cl)) (q:Nat) (h:q<ns.length) (h':q<cs.length) (m:Cm):gN (ns.drop q) (cs.drop q) m=gN (ns.drop (q+1)) (cs.drop (q+1)) ((ns[q],cs[q])::m):=by
 rw[List.drop_eq_getElem_cons h,List.drop_eq_getElem_cons h'];rfl
theorem Af (ns:List Bs) (cs:List (List Cl)) (q:Nat) (h:ns.length≤q) (m:Cm):gN (ns.drop q) (cs.drop q) m=m:=by
 rw[List.drop_of_length_le h];unfold gN;rfl
def Ce (D W:World) (base:Nat) (u:Value) (cs:List (List Cl)):Prop:=∃ us:List Value,us.length=cs.length∧W.ownsRow base 51 1 u cs.length us∧∀ i (h:i<us.length) (h':i<cs.length),jV D us[i] cs[i]
theorem Ce.nil (D W:World) (base:Nat):Ce D W base (FN none 0 0) []:=⟨[],rfl,World.ownsRow_nil _ _ _ _,fun i h=>absurd h (by simp)⟩
theorem Ce.heads {D W:World} {base:Nat} {u:Value} {cs:List (List Cl)} (h:Ce D W base u cs) (I:aa [] D W):∃ A c,u=FN A cs.length c∧aU W A cs:=by
 obtain ⟨us,N,M,O⟩:=h;obtain ⟨A,c,rfl,hc,J⟩:=fA M;exact ⟨A,c,rfl,us,N,J,fun i Z hi'=>by
  obtain ⟨-,B,d,e,hd,U⟩:=O i Z hi';exact ⟨B,d,e,hd,U.keep I⟩⟩
theorem D9:(Tryz.prog.info? 51).map (fun i=>(i.zero,i.size,i.bytes))=some (some (FN none 0 0),1,24):=by kernel_rfl
theorem aU.keepM {W W':World} {b:Nat} {A:Option Addr} {J:List (List Cl)} {O:Array MapEntry} {cl:Nat} (I:W.heap[b]? = some (.map O cl)) (D:aa [b] W W') (h:aU W A J):aU W' A J:=by
 obtain ⟨us,N,M,U⟩:=h;exact ⟨us,N,M.keepM I D (by decide),fun i hi hi'=>by
  obtain ⟨B,d,e,hd,Z⟩:=U i hi hi';exact ⟨B,d,e,hd,Z.keepM I D (by decide)⟩⟩
theorem qB (f:Fl) (v0 v1 v2:Value) (w:World) (hF:jj w v0 v1 v2 f) (hS:om f) (hE:rC w) (hT:iJ w) (b0:∀ x∈f.ins,∀ c∈x.cols,c.name.length≤1000000000) :
  Calls Tryz.prog 8 #[.agg #[v0,v1,v2]] w fun e w'=>Ae (cQ f) w.heap.size e w'∧aa [] w w':=by
 have hD:= @run_makeMap Tryz.prog;obtain ⟨i0,hU,hH,h9,hG⟩:=info_parts D9;obtain ⟨R,hR⟩:∃ R,cQ f=R:=⟨_,rfl⟩
 rw[hR];rw[ym] at hR;have HF:=Fx hF;have hN:=hF.i0;have hA:=hF.i1;have hC:=hF.i2;obtain ⟨jf,A0,c0,rfl,kf,co⟩:=hN;obtain ⟨km,A1,c1,rfl,i5,cm⟩:=hA;obtain ⟨j4,A2,c2,rfl,jc,g8⟩:=hC;have H0:=Fx co;have H1:=Fx cm;have HR:=Fx hR;have HS:=Fx hS;have HE:=Fx hE;have HT:=Fx hT;have HCL:=Fx b0;have hh:oE w w.heap.size (w.heap.size+1) (FN A0 f.ins.length c0) (FN A1 f.jobs.length c1) (FN A2 f.outs.length c2) [] [] ((w.alloc (FQ #[FN A0 f.ins.length c0,FN A1 f.jobs.length c1,FN A2 f.outs.length c2] 29)).alloc (.map #[] 0)):=by
  have hm:=bI.made (P:=Tryz.prog) (S:=9) (w.alloc (FQ #[FN A0 f.ins.length c0,FN A1 f.jobs.length c1,FN A2 f.outs.length c2] 29));rw[nk] at hm;exact ⟨((FK _ _).alloc _).alloc _,(FL _ _ _).alloc _,hm,trivial,by omega,by omega⟩
 have bk:=Fx hh;clear hF hR hS co cm g8 hh hE hT b0;obtain ⟨X,hX⟩:∃ X,w.heap.size=X:=⟨_,rfl⟩
 go_enter Tryz.func8,Tryz.ntmps8
 go_upto_block 0 with (fail)
 rw[hX] at bk;generalize ((w.alloc (FQ #[FN A0 f.ins.length c0,FN A1 f.jobs.length c1,FN A2 f.outs.length c2] 29)).alloc (.map #[] 0))=y0 at bk ⊢;generalize j3:X+1=b at bk ⊢;have hP:X≤b:=by omega
 clear hD;go_cut [] (fun wx=>∃ mv m,Hid (oE w X b (FN A0 f.ins.length c0) (FN A1 f.jobs.length c1) (FN A2 f.outs.length c2) mv m wx)∧m.length≤f.ins.length∧Hid (BL m)∧Hid (gS (dK f) (fun _=>gS (cG f) fun l=>ed f l m)=R))
 case first =>
  have hB:f.ins.length≤100000:=by
   have:=HS.out.all;unfold bf at this;rw[Fz,List.length_map] at this;omega
  go_wp2_with fail
  go_loopw [24] (fun i wr=>∃ (j:Nat) (mv:List (Bs×Value)) (m:Cm),j≤f.ins.length∧i=FR FS j∧m.length≤j∧Hid (BL m)∧Hid (oE w X b (FN A0 f.ins.length c0) (FN A1 f.jobs.length c1) (FN A2 f.outs.length c2) mv m wr)∧Hid (gS (kC (f.ins.drop j) m) (fun m=>gS (dK f) fun _=>gS (cG f) fun l=>ed f l m)=R)) (fun i _=>f.ins.length-(intOf i).toNat)
  case atStart=>exact ⟨0,[],[],FF _,rfl,Fy _,Fx (fun q hq=>by cases hq),bk,HR⟩
  obtain ⟨j,mv,m,hj,rfl,eX,ad,D,HG⟩:=hrel;obtain ⟨wj,rfl⟩:∃ z:World,z=wr:=⟨_,rfl⟩
  by_cases cg:j<f.ins.length
  ·have hy:(j:Int)<(f.ins.length:Int):=by omega
   obtain ⟨g,cs,rfl,hg,-,⟨vc,rfl,bq⟩,N⟩:=H0.out j cg;have be:=bq;obtain ⟨b0,Ac,cc,rfl,e9,a9⟩:=bq;have d0:=D.out.k.cell_of (N 0 _ rfl) (by simp);have d1:=D.out.k.cell_of (N 1 _ rfl) (by simp);have d2:=D.out.k.cell_of (N 2 _ rfl) (by simp);rw[Nat.add_zero] at d0;have hl:(f.ins[j]).name.length≤1000:=HS.out.names _ (by unfold bf;exact List.mem_append_left _ (List.mem_map.2 ⟨_,FE cg,rfl⟩));have c7:=HCL.out _ (FE cg);have O:=HG.out;rw[List.drop_eq_getElem_cons cg,yo] at O;obtain ⟨x,hx⟩:∃ x,f.ins[j]=x:=⟨_,rfl⟩
   rw[hx] at d0 d1 d2 hl O b0 e9 a9 c7 be;have a3:=Fx O;have hV:=Fx be;have HC:Hid (∀ W,aa [] wj W→Calls Tryz.prog 19 #[FN Ac x.cols.length cc] W fun e w'=>e=FP (.bool (cp x.cols))∧aa [] W w'):=Fx fun W z=>gj x.cols Ac cc W (a9.keep (D.out.k.trans z)) e9 c7 b0
   have cx:=D.out.cv.len;clear O hx N a9 c7 be
   cases a2:cp x.cols with
   | true =>
    have a8:Hid (gS (kC (f.ins.drop (j+1)) ((x.name,x.cols)::m)) (fun m=>gS (dK f) fun _=>gS (cG f) fun l=>ed f l m)=R):=Fx (by
     have:=a3.out;rw[if_pos a2] at this;exact this)
    have br:Hid (BL ((x.name,x.cols)::m)):=Fx (ad.out.put (ef.1 a2).2.1);rw[a2] at HC;clear a2;go_wp2_with fail
    refine (HC.out _ ((FK _ _).alloc _)).mono ?_;rintro e w5 ⟨rfl,k5⟩;have b5:=(FL wj 57 #[FR FS x.at_,FM (bs x.name),FN Ac x.cols.length cc]).keep k5 (by simp);have e1:w5.cell? ⟨wj.heap.size,1,none⟩=some (FM (bs x.name)):=b5.cell 1;have e2:w5.cell? ⟨wj.heap.size,2,none⟩=some (FN Ac x.cols.length cc):=b5.cell 2;have el:=b5.lt;have M:=Fx (D.out.keep (((FK _ _).alloc (FQ #[FR FS x.at_,FM (bs x.name),FN Ac x.cols.length cc] 57)).trans k5));obtain ⟨w6,f5,fr,g4⟩:=M.out.mp.put x.name (FN Ac x.cols.length cc) hl (by rw[cx];omega);have av:=Fx (M.out.put (hV.out.keep M.out.k) fr ((FK [b] _).grown g4 (fun g hg=> .inl (by injection hg with hg;simp[hg]))));clear b5 k5 fr g4;go_wp2;go_roundw
    case rel=>exact ⟨j+1,_,_,by omega,by go_num,by simp only[FG];omega,br,av,a8⟩
    case measure=>simp[intOf];omega
   | false =>
    have Z:Hid (R= .error (3,x.at_)):=Fx (by
     have:=a3.out;rw[a2] at this;exact this.symm)
    rw[a2] at HC;clear a2;go_wp2_with fail
    refine (HC.out _ ((FK _ _).alloc _)).mono ?_;rintro e w5 ⟨rfl,k5⟩;have b5:=(FL wj 57 #[FR FS x.at_,FM (bs x.name),FN Ac x.cols.length cc]).keep k5 (by simp);have e0:w5.cell? ⟨wj.heap.size,0,none⟩=some (FR FS x.at_):=b5.cell 0;have el:=b5.lt;have ba:=Fx ((D.out.k.alloc _).trans k5);clear b5 k5;go_wp2;go_region
    all_goals
     go_wp2;go_ret2;exact ⟨by rw[Z.out];exact ⟨_,rfl,_,rfl,(FL _ _ _).drew⟩,(ba.out.alloc _).drew⟩
  have hy:¬(j:Int)<(f.ins.length:Int):=by omega
  have a8:Hid (gS (dK f) (fun _=>gS (cG f) fun l=>ed f l m)=R):=Fx (by
   have:=HG.out;rw[List.drop_of_length_le (by omega)] at this;exact this)
  go_wp2;go_meet
  case rel=>exact ⟨mv,m,D,by omega,ad,a8⟩
 obtain ⟨mv,m,D,eX,ad,HG⟩:=hcut;clear bk HR;have p0:wc.cell? ⟨X,0,none⟩=some (FN A0 f.ins.length c0):=D.out.fb.cell 0;have p1:wc.cell? ⟨X,1,none⟩=some (FN A1 f.jobs.length c1):=D.out.fb.cell 1;have p2:wc.cell? ⟨X,2,none⟩=some (FN A2 f.outs.length c2):=D.out.fb.cell 2;have pl:=D.out.fb.lt;have bo:=Fx (pP f _ _ _ wc (HF.out.keep D.out.k) HS.out)
 cases a7:dK f with
 | error x =>
  rw[a7] at bo;have Z:Hid (R= .error x):=Fx (by
   have:=HG.out;rw[a7] at this;exact this.symm)
  clear a7 HG;go_wp2_with fail
  refine bo.out.mono ?_;rintro e w5 ⟨⟨u,rfl,gi,rfl,b3⟩,k5⟩;have c5:=Fx b3;have ba:=Fx (D.out.k.trans k5);clear b3 k5;go_wp2;go_ret2;exact ⟨by rw[Z.out];exact ⟨_,rfl,_,rfl,c5.out⟩,ba.out⟩
 | ok uu =>
  rw[a7] at bo;have ca:Hid (gS (cG f) (fun l=>ed f l m)=R):=Fx (by
   have:=HG.out;rw[a7] at this;exact this)
  clear a7 HG;go_wp2_with fail
  refine bo.out.mono ?_;rintro e w5 ⟨he,k5⟩;obtain rfl:e=FP .nilIface:=he;have M:=Fx (D.out.keep k5);clear D k5 p0 p1 p2 pl bo;have p0:w5.cell? ⟨X,0,none⟩=some (FN A0 f.ins.length c0):=M.out.fb.cell 0;have p1:w5.cell? ⟨X,1,none⟩=some (FN A1 f.jobs.length c1):=M.out.fb.cell 1;have p2:w5.cell? ⟨X,2,none⟩=some (FN A2 f.outs.length c2):=M.out.fb.cell 2;have pl:=M.out.fb.lt;have bj:=Fx (qo f _ _ _ w5 (HF.out.keep M.out.k))
  cases a0:cG f with
  | error x =>
   rw[a0] at bj;have Z:Hid (R= .error x):=Fx (by
    have:=ca.out;rw[a0] at this;exact this.symm)
   clear a0 ca;go_wp2_with fail
   refine bj.out.mono ?_;rintro e w6 ⟨⟨gi,rfl,b3⟩,k6⟩;have c5:=Fx b3;have ba:=Fx (M.out.k.trans k6);clear b3 k6;go_wp2;go_ret2;exact ⟨by rw[Z.out];exact ⟨_,rfl,_,rfl,c5.out⟩,ba.out⟩
  | ok l =>
   rw[a0] at bj;have a3:Hid (ed f l m=R):=Fx (by
    have:=ca.out;rw[a0] at this;exact this)
   obtain ⟨fz,kd⟩:=fF a0;have hW:=Fx fz.lt;clear a0 ca fz;go_wp2_with fail
   refine bj.out.mono ?_;rintro e w6 ⟨⟨Al,cl,rfl,kg,f8⟩,k6⟩;have av:=Fx (M.out.keep k6);have bv:=Fx f8;have j1:=Fx k6;have j2:Hid (w.heap.size≤w6.heap.size):=Fx av.out.k.size;clear k6 f8 p0 p1 p2 pl bj M;have p0:w6.cell? ⟨X,0,none⟩=some (FN A0 f.ins.length c0):=av.out.fb.cell 0;have p1:w6.cell? ⟨X,1,none⟩=some (FN A1 f.jobs.length c1):=av.out.fb.cell 1;have pl:=av.out.fb.lt;have hB:f.ins.length≤100000:=by
    have:=HS.out.all;unfold bf at this;rw[Fz,List.length_map] at this;omega
   go_wp2_with fail
   go_loopw [58] (fun i wr=>∃ (t:Nat) (mv:List (Bs×Value)) (m:Cm),t≤l.length∧i=FR FS t∧m.length≤100000+t*100000∧Hid (BL m)∧Hid (oE w X b (FN A0 f.ins.length c0) (FN A1 f.jobs.length c1) (FN A2 f.outs.length c2) mv m wr)∧Hid (Rd wr [] 1 Al l.length (gQ l))∧Hid (ed f (l.drop t) m=R)) (fun i _=>l.length-(intOf i).toNat)
   case atStart=>exact ⟨0,mv,m,FF _,rfl,by omega,ad,av,bv,a3⟩
   clear p0 p1 pl av a3 bv eX ad;obtain ⟨t,mv,m,ht,rfl,eX,ad,D,bv,HG⟩:=hrel;obtain ⟨J,rfl⟩:∃ z:World,z=wr:=⟨_,rfl⟩
   have p1:J.cell? ⟨X,1,none⟩=some (FN A1 f.jobs.length c1):=D.out.fb.cell 1;have pl:=D.out.fb.lt;by_cases c3:t<l.length
   ·have hZ:(t:Int)<(l.length:Int):=by omega
    have ix:t<f.jobs.length:=by omega
    have ih:(t:Int)<(f.jobs.length:Int):=by omega
    obtain ⟨bl,ol,rfl,-,kl,ct⟩:=bv.out.open' (by omega) (by omega);have q0:J.cell? ⟨bl,ol+t,none⟩=some (FR FS (l[t]:Nat)):=ct t _ (ti l t c3);have hk:=hW.out _ (FE c3);have O:=HG.out;rw[List.drop_eq_getElem_cons c3,u7] at O;obtain ⟨k,f0⟩:∃ k,l[t]=k:=⟨_,rfl⟩
    rw[f0] at q0 hk O;have ks:(k:Int)<(f.jobs.length:Int):=by omega
    obtain ⟨g,cs,rfl,hg,-,⟨_,_,_,rfl,⟨f7,B2,e2,rfl,g1,dz⟩,⟨hw,B3,e3,rfl,c8,e6⟩,⟨cn,B4,e4,rfl,ci,bZ⟩⟩,N⟩:=H1.out k hk;have d0:=D.out.k.cell_of (N 0 _ rfl) (by simp);have d1:=D.out.k.cell_of (N 1 _ rfl) (by simp);have d2:=D.out.k.cell_of (N 2 _ rfl) (by simp);have d3:=D.out.k.cell_of (N 3 _ rfl) (by simp);have d4:=D.out.k.cell_of (N 4 _ rfl) (by simp);have d5:=D.out.k.cell_of (N 5 _ rfl) (by simp);have d6:=D.out.k.cell_of (N 6 _ rfl) (by simp);have d7:=D.out.k.cell_of (N 7 _ rfl) (by simp);have d8:=D.out.k.cell_of (N 8 _ rfl) (by simp);have d9:=D.out.k.cell_of (N 9 _ rfl) (by simp);have dr:=D.out.k.cell_of (N 10 _ rfl) (by simp);have c9:=D.out.k.cell_of (N 11 _ rfl) (by simp);have eA:=D.out.k.cell_of (N 12 _ rfl) (by simp);have dB:=D.out.k.cell_of (N 13 _ rfl) (by simp);have c6:=D.out.k.cell_of (N 14 _ rfl) (by simp);rw[Nat.add_zero] at d0;rw[ee hk] at O;have e7:∀ n∈f.jobs[k].ins,n.length≤1000:=fun n hn=>HS.out.ins _ (FE hk) n hn
    have e5:∀ n∈f.jobs[k].outs,n.length≤1000:=fun n hn=>HS.out.names n (by unfold bf;exact List.mem_append_right _ (List.mem_flatMap.2 ⟨_,FE hk,hn⟩))
    have h3:f.jobs[k].outs.length≤100000:=by
     have h1:=wC (FE hk);have:=HS.out.all;unfold bf at this;rw[Fz] at this;omega
    obtain ⟨x,hx⟩:∃ x,f.jobs[k]=x:=⟨_,rfl⟩
    rw[hx] at d0 d1 d2 d3 d4 d5 d6 d7 d8 d9 dr c9 eA dB c6 e7 e5 h3 O f7 g1 dz hw c8 e6 cn ci bZ;have a3:=Fx O;have hO:=Fx e7;have hY:=Fx e5;have gm:=Fx dz;have hJ:=Fx e6;have h5:=Fx bZ;have cx:=D.out.cv.len;clear ct O f0 hx N e7 e5 dz e6 bZ hk;go_upto_block 4 with (fail)
    go_cut [13,15] (fun u _ wx=>Hid (Ce (J.alloc (FQ #[FR FS x.at_,FR FS x.code,FN B2 x.outs.length e2,FN B3 x.ins.length e3,FN B4 x.cols.length e4,FM (bs x.op),FM (bs x.left.col),FR FS x.left.val.kind,FR FS x.left.val.num,FM (bs x.left.val.word),FM (bs x.right.col),FR FS x.right.val.kind,FR FS x.right.val.num,FM (bs x.right.val.word),FR FS x.retry] 50)) wx (J.alloc (FQ #[FR FS x.at_,FR FS x.code,FN B2 x.outs.length e2,FN B3 x.ins.length e3,FN B4 x.cols.length e4,FM (bs x.op),FM (bs x.left.col),FR FS x.left.val.kind,FR FS x.left.val.num,FM (bs x.left.val.word),FM (bs x.right.col),FR FS x.right.val.kind,FR FS x.right.val.num,FM (bs x.right.val.word),FR FS x.retry] 50)).heap.size u (x.ins.map (ep m)))∧Hid (aa [] (J.alloc (FQ #[FR FS x.at_,FR FS x.code,FN B2 x.outs.length e2,FN B3 x.ins.length e3,FN B4 x.cols.length e4,FM (bs x.op),FM (bs x.left.col),FR FS x.left.val.kind,FR FS x.left.val.num,FM (bs x.left.val.word),FM (bs x.right.col),FR FS x.right.val.kind,FR FS x.right.val.num,FM (bs x.right.val.word),FR FS x.retry] 50)) wx))
    case first =>
     have b4:ao (J.alloc (FQ #[FR FS x.at_,FR FS x.code,FN B2 x.outs.length e2,FN B3 x.ins.length e3,FN B4 x.cols.length e4,FM (bs x.op),FM (bs x.left.col),FR FS x.left.val.kind,FR FS x.left.val.num,FM (bs x.left.val.word),FM (bs x.right.col),FR FS x.right.val.kind,FR FS x.right.val.num,FM (bs x.right.val.word),FR FS x.retry] 50)) J.heap.size 50 #[FR FS x.at_,FR FS x.code,FN B2 x.outs.length e2,FN B3 x.ins.length e3,FN B4 x.cols.length e4,FM (bs x.op),FM (bs x.left.col),FR FS x.left.val.kind,FR FS x.left.val.num,FM (bs x.left.val.word),FM (bs x.right.col),FR FS x.right.val.kind,FR FS x.right.val.num,FM (bs x.right.val.word),FR FS x.retry]:=FL _ _ _;have eb:=D.out.keep ((FK _ _).alloc (FQ #[FR FS x.at_,FR FS x.code,FN B2 x.outs.length e2,FN B3 x.ins.length e3,FN B4 x.cols.length e4,FM (bs x.op),FM (bs x.left.col),FR FS x.left.val.kind,FR FS x.left.val.num,FM (bs x.left.val.word),FM (bs x.right.col),FR FS x.right.val.kind,FR FS x.right.val.num,FM (bs x.right.val.word),FR FS x.retry] 50));clear d0 d1 d2 d3 d4 d5 d6 d7 d8 d9 dr c9 eA dB c6;generalize gl:(J.alloc (FQ #[FR FS x.at_,FR FS x.code,FN B2 x.outs.length e2,FN B3 x.ins.length e3,FN B4 x.cols.length e4,FM (bs x.op),FM (bs x.left.col),FR FS x.left.val.kind,FR FS x.left.val.num,FM (bs x.left.val.word),FM (bs x.right.col),FR FS x.right.val.kind,FR FS x.right.val.num,FM (bs x.right.val.word),FR FS x.retry] 50))=y1 at b4 eb ⊢;have g5:=Fx gl;clear gl;have fS:=Fx eb;have x3:y1.cell? ⟨J.heap.size,3,none⟩=some (FN B3 x.ins.length e3):=b4.cell 3;have xl:=b4.lt;clear b4 eb;go_wp2_with fail
     go_loopw [13,15,70] (fun u _ i wr=>∃ q:Nat,q≤x.ins.length∧i=FR FS q∧Hid (Ce y1 wr y1.heap.size u ((x.ins.take q).map (ep m)))∧Hid (aa [] y1 wr)) (fun _ _ i _=>x.ins.length-(intOf i).toNat)
     case atStart=>exact ⟨0,FF _,rfl,Fx (Ce.nil _ _ _),Fx (FK _ _)⟩
     clear x3 xl;obtain ⟨q,hq,rfl,HH,cd⟩:=hrel;obtain ⟨wq,rfl⟩:∃ z:World,z=wr:=⟨_,rfl⟩
     by_cases a4:q<x.ins.length
     ·have e8:(q:Int)<(x.ins.length:Int):=by omega
      have f1:=Fx (fS.out.keep cd.out);obtain ⟨b6,o6,rfl,-,ic,b1⟩:=(hJ.out.keep f1.out.k).open' (by omega) (by omega);have s0:=b1 q _ (cC x.ins q a4);have bm:=hO.out _ (FE a4);have ez:(x.ins.take (q+1)).map (ep m)=(x.ins.take q).map (ep m)++[ep m x.ins[q]]:=by rw[List.take_succ_eq_append_getElem a4,List.map_append];rfl
      obtain ⟨n,hn⟩:∃ n,x.ins[q]=n:=⟨_,rfl⟩
      rw[hn] at s0 bm ez;have lk:=f1.out.mp.get n bm;have gk:=fS.out.cv.get n;have f4:=Fx gk;obtain ⟨i3,Av,cv,ev,hr,fc⟩:=gk;rw[ev] at lk f4;have hu:=Fx ez;obtain ⟨us,bc,aA,bz⟩:=HH.out;have ce:((x.ins.take q).map (ep m)).length=q:=by rw[List.length_map,FH,Nat.min_eq_left hq]
      rw[ce] at bc aA;obtain ⟨Au,cu,rfl,-⟩:=ar aA;have gz:=Fx aA;have ie:=Fx bz;have h4:=Fx (show y1.heap.size≤(wq.alloc (FQ #[FN Av (ep m n).length cv] 51)).heap.size by have:=cd.out.size;simp;omega);have f3:=Fx (show q+1≤maxLen∧(q+1)*24≤140737488355328 by simp only[maxLen];omega);clear b1 hn ez hr fc ev aA bz HH;go_wp2_with (at_builtin;refine wpList_append_own _ rfl _ _ 80 rfl y1.heap.size 51 i0 (FN none 0 0) 1 24 Tryz.underlying80 hU hH h9 hG rfl (by decide) _ _ _ rfl (gz.out.alloc _) ⟨wq.heap.size,0,none⟩ 1 1 [FN Av (ep m n).length cv] rfl rfl (FI (heap_alloc_new _ _)) (by simp[Value.oneCell']) f3.out.1 f3.out.2 h4.out ?_)
      intro vv w7 a1 a5 hp;have ey:=Fx ((cd.out.alloc _).grown a5 (fun g hg=> .inr (gz.out.lt g hg).1));have dt:Hid (Ce y1 w7 y1.heap.size vv ((x.ins.take (q+1)).map (ep m))):=Fx (by
       rw[hu.out];refine ⟨us++[FN Av (ep m n).length cv],by rw[Fz,Fz,bc,ce];rfl,by rw[Fz,ce];exact a1,fun i hi hi'=>?_⟩;by_cases jx:i<q
       ·rw[List.getElem_append_left (by omega),List.getElem_append_left (by omega)]
        exact ie.out i (by omega) (by omega)
       have c8:i=q:=by simp at hi;omega
       subst c8;rw[List.getElem_append_right (by omega),List.getElem_append_right (by omega)];simpa[bc,ce] using f4.out)
      obtain ⟨g7,a6,rfl⟩:∃ g7 a6,vv=FN (some ⟨g7,0,none⟩) (q+1) a6:=by
       rcases a1.2 with ⟨_,h0⟩|⟨g7,a6,cur,hv,_⟩
       ·omega
       exact ⟨g7,a6,hv⟩
      clear a1 a5 hp;go_wp2;go_roundw
      case rel=>exact ⟨q+1,by omega,by go_num,dt,ey⟩
      case measure=>simp[intOf];omega
     have e8:¬(q:Int)<(x.ins.length:Int):=by omega
     have dt:Hid (Ce y1 wq y1.heap.size u13 (x.ins.map (ep m))):=Fx (by
      have:=HH.out;rw[List.take_of_length_le (by omega)] at this;exact this)
     go_wp2;go_meet
     case rel=>exact ⟨by rw[g5.out];exact dt,by rw[g5.out];exact cd⟩
    obtain ⟨HH,b8⟩:=hcut;clear d0 d1 d2 d3 d4 d5 d6 d7 d8 d9 dr c9 eA dB c6;obtain ⟨yc,rfl⟩:∃ z:World,z=wc:=⟨_,rfl⟩
    have I:Hid (ao yc J.heap.size 50 #[FR FS x.at_,FR FS x.code,FN B2 x.outs.length e2,FN B3 x.ins.length e3,FN B4 x.cols.length e4,FM (bs x.op),FM (bs x.left.col),FR FS x.left.val.kind,FR FS x.left.val.num,FM (bs x.left.val.word),FM (bs x.right.col),FR FS x.right.val.kind,FR FS x.right.val.num,FM (bs x.right.val.word),FR FS x.retry]):=Fx ((FL _ _ _).keep b8.out (by simp));have U:=Fx (D.out.keep (((FK _ _).alloc (FQ #[FR FS x.at_,FR FS x.code,FN B2 x.outs.length e2,FN B3 x.ins.length e3,FN B4 x.cols.length e4,FM (bs x.op),FM (bs x.left.col),FR FS x.left.val.kind,FR FS x.left.val.num,FM (bs x.left.val.word),FM (bs x.right.col),FR FS x.right.val.kind,FR FS x.right.val.num,FM (bs x.right.val.word),FR FS x.retry] 50)).trans b8.out));obtain ⟨Ah,ch,rfl,bb⟩:=HH.out.heads b8.out;have cy:∀ q∈x.ins.map (ep m),q.length≤4294967:=fun q hq=>by
     obtain ⟨n,_,rfl⟩:=List.mem_map.1 hq;exact FD (ad.out.get n) (by decide)
    have c4:Hid (Calls Tryz.prog 22 #[.agg #[FR FS x.at_,FR FS x.code,FN B2 x.outs.length e2,FN B3 x.ins.length e3,FN B4 x.cols.length e4,FM (bs x.op),FM (bs x.left.col),FR FS x.left.val.kind,FR FS x.left.val.num,FM (bs x.left.val.word),FM (bs x.right.col),FR FS x.right.val.kind,FR FS x.right.val.num,FM (bs x.right.val.word),FR FS x.retry],FN Ah x.ins.length ch] yc fun e w'=>aP (aL x (x.ins.map (ep m))) e w'∧aa [] yc w'):=Fx (by
     have ff:=lY x B2 e2 B3 x.ins.length e3 B4 e4 (x.ins.map (ep m)) Ah ch yc (HE.out.quiet U.out.k) ⟨gm.out.keep U.out.k,g1,h5.out.keep U.out.k,ci,f7,cn⟩ bb cy;rw[List.length_map] at ff;exact ff)
    have cj:=Fx (fun cs (h:aL x (x.ins.map (ep m))= .ok cs)=>xZ h (fun q hq=>by
     obtain ⟨n,_,rfl⟩:=List.mem_map.1 hq;exact ad.out.get n))
    have cr:=Fx (fun cs (h:aL x (x.ins.map (ep m))= .ok cs)=>gP h);clear bb cy;have y0:yc.cell? ⟨J.heap.size,0,none⟩=some (FR FS x.at_):=I.out.cell 0;have y1:yc.cell? ⟨J.heap.size,1,none⟩=some (FR FS x.code):=I.out.cell 1;have y2:yc.cell? ⟨J.heap.size,2,none⟩=some (FN B2 x.outs.length e2):=I.out.cell 2;have y3:yc.cell? ⟨J.heap.size,3,none⟩=some (FN B3 x.ins.length e3):=I.out.cell 3;have y4:yc.cell? ⟨J.heap.size,4,none⟩=some (FN B4 x.cols.length e4):=I.out.cell 4;have y5:yc.cell? ⟨J.heap.size,5,none⟩=some (FM (bs x.op)):=I.out.cell 5;have y6:yc.cell? ⟨J.heap.size,6,none⟩=some (FM (bs x.left.col)):=I.out.cell 6;have y7:yc.cell? ⟨J.heap.size,7,none⟩=some (FR FS x.left.val.kind):=I.out.cell 7;have y8:yc.cell? ⟨J.heap.size,8,none⟩=some (FR FS x.left.val.num):=I.out.cell 8;have y9:yc.cell? ⟨J.heap.size,9,none⟩=some (FM (bs x.left.val.word)):=I.out.cell 9;have ho:yc.cell? ⟨J.heap.size,10,none⟩=some (FM (bs x.right.col)):=I.out.cell 10;have hb:yc.cell? ⟨J.heap.size,11,none⟩=some (FR FS x.right.val.kind):=I.out.cell 11;have g6:yc.cell? ⟨J.heap.size,12,none⟩=some (FR FS x.right.val.num):=I.out.cell 12;have g2:yc.cell? ⟨J.heap.size,13,none⟩=some (FM (bs x.right.val.word)):=I.out.cell 13;have f9:yc.cell? ⟨J.heap.size,14,none⟩=some (FR FS x.retry):=I.out.cell 14;have yl:=I.out.lt;generalize a9:aL x (x.ins.map (ep m))=CR at c4 cj cr;have a8:Hid (oF f (l.drop (t+1)) x m CR=R):=Fx (by
     have:=a3.out;rw[a9] at this;exact this)
    clear a9
    cases CR with
    | error er =>
     have Z:Hid (R= .error (er,x.at_)):=Fx a8.out.symm;go_wp2_with fail
     refine c4.out.mono ?_;rintro e w7 ⟨hz,k7⟩;obtain rfl:e=FP (.tuple #[FN none 0 0,.iface 37 (FR FS er)]):=hz;have hL:Hid (∀ W,aa [] w7 W→Calls Tryz.prog 23 #[.iface 37 (FR FS er)] W fun ev W'=>ev=FP (FR FS er)∧aa [] W W'):=Fx fun W z=>oy er W (HT.out.keep (U.out.k.trans (k7.trans z)) (by simp))
     have z0:∀ W,aa [] w7 W→W.cell? ⟨J.heap.size,0,none⟩=some (FR FS x.at_):=fun W z=>(I.out.keep (k7.trans z) (by simp)).cell 0
     have ey:=Fx (U.out.k.trans k7);clear k7 y0 y1 y2 y3 y4 y5 y6 y7 y8 y9 ho hb g6 g2 f9;go_upto_region 27 with (fail)
     go_region_held3 (fun W=>aa [] w7 W) (first|exact (FK [] w7).drew|exact (FK [] w7).drew.trans k8|exact aa.alloc ‹_› _) (first|((with_reducible refine (hL.out _ (FK [] w7).drew).mono ?_);rintro e w8 ⟨rfl,k8⟩))
     all_goals
      go_wp2;go_ret2;exact ⟨by rw[Z.out];exact ⟨_,rfl,_,rfl,FL _ _ _⟩,(ey.out.trans ((FK [] w7).drew.trans k8)).alloc _⟩
    | ok out =>
     have h2:Hid (ed f (l.drop (t+1)) (gN x.outs out m)=R):=a8;have iv:=cr.out out rfl;have br:=Fx (cj.out out rfl);go_wp2_with fail
     refine c4.out.mono ?_;rintro e w7 ⟨⟨B,d,rfl,i4,bb⟩,k7⟩;have hK:=Fx bb;have hs:=Fx (U.out.keep k7);have h7:=Fx (bv.out.keep (((FK _ _).alloc (FQ #[FR FS x.at_,FR FS x.code,FN B2 x.outs.length e2,FN B3 x.ins.length e3,FN B4 x.cols.length e4,FM (bs x.op),FM (bs x.left.col),FR FS x.left.val.kind,FR FS x.left.val.num,FM (bs x.left.val.word),FM (bs x.right.col),FR FS x.right.val.kind,FR FS x.right.val.num,FM (bs x.right.val.word),FR FS x.retry] 50)).trans (b8.out.trans k7)));have z2:w7.cell? ⟨J.heap.size,2,none⟩=some (FN B2 x.outs.length e2):=(I.out.keep k7 (by simp)).cell 2;have zl:=(I.out.keep k7 (by simp)).lt;clear k7 y0 y1 y2 y3 y4 y5 y6 y7 y8 y9 ho hb g6 g2 f9 yl bb;go_wp2_with fail
     go_loopw [18,19,99] (fun _ _ i wr=>∃ (q:Nat) (ds:List (Bs×Value)) (m':Cm),q≤x.outs.length∧i=FR FS q∧m'.length≤m.length+q∧Hid (BL m')∧Hid (oE w X b (FN A0 f.ins.length c0) (FN (some ⟨g,0,none⟩) f.jobs.length c1) (FN A2 f.outs.length c2) ds m' wr)∧Hid (Rd wr [] 1 (some ⟨bl,ol,none⟩) l.length (gQ l))∧Hid (aU wr B out)∧Hid (gN (x.outs.drop q) (out.drop q) m'=gN x.outs out m)) (fun _ _ i _=>x.outs.length-(intOf i).toNat)
     case atStart=>exact ⟨0,mv,m,FF _,rfl,Fy _,ad,hs,h7,hK,Fx rfl⟩
     clear z2 zl;obtain ⟨q,ds,m',hq,rfl,it,cz,HN',f2,cq,g0⟩:=hrel;obtain ⟨wq,rfl⟩:∃ z:World,z=wr:=⟨_,rfl⟩
     by_cases a4:q<x.outs.length
     ·have e8:(q:Int)<(x.outs.length:Int):=by omega
      have eB:q<out.length:=by omega
      obtain ⟨b6,o6,rfl,-,ic,b1⟩:=(gm.out.keep HN'.out.k).open' (by omega) (by omega);have s0:=b1 q _ (cC x.outs q a4);have bm:=hY.out _ (FE a4);obtain ⟨us,bc,aA,bz⟩:=cq.out;have eY:q<us.length:=by omega
      obtain ⟨Bq,dq,ha,en,et⟩:=bz q eY eB;obtain ⟨b7,o7,rfl,-,i9,fs⟩:=aA.open' (by omega) (by omega);have s1:=fs q us[q] (FA eY);rw[ha] at s1;have h6:=br.out _ (FE eB);have bX:=yp x.outs out q a4 eB m';rw[g0.out] at bX;have ir:(q:Int)<(out.length:Int):=by omega
      obtain ⟨n,hn⟩:∃ n,x.outs[q]=n:=⟨_,rfl⟩
      obtain ⟨c,N⟩:∃ c,out[q]=c:=⟨_,rfl⟩
      rw[hn] at s0 bm bX;rw[N] at s1 en et h6 bX;have hQ:=Fx bX.symm;have bq:jV wq (FN Bq c.length dq) c:=⟨by omega,_,_,rfl,en,et⟩;obtain ⟨w8,f5,hf,f6⟩:=HN'.out.mp.put n (FN Bq c.length dq) bm (by have:=HN'.out.cv.len;omega);have b9:aa [b] wq w8:=(FK [b] _).grown f6 (fun g hg=> .inl (by injection hg with hg;simp[hg]));obtain ⟨es,js,dv⟩:=HN'.out.mp.isM;have hI:=Fx (HN'.out.put bq hf b9);have hM:=Fx (f2.out.keepM dv b9 (by decide));have g3:=Fx (cq.out.keepM dv b9);have fn:=Fx (cz.out.put (n:=n) h6);clear b1 fs bc aA bz ha en et h6 bX hn N bq hf f6 b9 dv eY;go_wp2;go_roundw
      case rel=>exact ⟨q+1,_,_,by omega,by go_num,by simp only[FG];omega,fn,hI,hM,g3,hQ⟩
      case measure=>simp[intOf];omega
     have e8:¬(q:Int)<(x.outs.length:Int):=by omega
     have h8:Hid (ed f (l.drop (t+1)) m'=R):=Fx (by
      rw[←h2.out,←g0.out,Af _ _ _ (by omega)])
     go_wp2;go_roundw
     case rel=>exact ⟨t+1,ds,m',by omega,by go_num,by omega,cz,HN',f2,h8⟩
     case measure=>simp[intOf];omega
   have hZ:¬(t:Int)<(l.length:Int):=by omega
   have Z:Hid (R= .ok m):=Fx (by
    have:=HG.out;rw[List.drop_of_length_le (by omega)] at this;exact this.symm)
   go_wp2;go_ret2;exact ⟨by rw[Z.out];exact ⟨_,_,rfl,D.out.mp,D.out.cv,hP⟩,D.out.k⟩
end
end Go.Proofs.YtecpeogejjibaaaGreatDoor
