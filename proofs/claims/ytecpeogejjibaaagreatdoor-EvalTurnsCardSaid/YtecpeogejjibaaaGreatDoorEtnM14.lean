/- plan.Check. -/
import Derived.Test.YtecpeogejjibaaaGreatDoorEtnM11
import Derived.Test.YtecpeogejjibaaaGreatDoorEtnM12
import Derived.Test.YtecpeogejjibaaaGreatDoorEtnM6
import Derived.Test.YtecpeogejjibaaaGreatDoorEtnM3
import Derived.Test.YtecpeogejjibaaaGreatDoorEtnM10
import Derived.Test.YtecpeogejjibaaaGreatDoorEtnM8
import Derived.Test.YtecpeogejjibaaaGreatDoorEtnM1
set_option linter.unusedSimpArgs false
set_option linter.unusedVariables false
set_option maxRecDepth 100000
set_option maxHeartbeats 16000000
namespace Go.Proofs.YtecpeogejjibaaaGreatDoor
open Go.Lib renaming hid → Fk
open _root_.Nat renaming le_refl → Fm, le_trans → Ft, zero_le → Fu
open _root_.List renaming length_append → Fo, getElem?_eq_getElem → Fp, getElem_mem → Fs, length_cons → Fv, length_take → Fw
open Go.World renaming news_of_block → Fx
open aa renaming refl → Fz
open ao renaming new → FA
open Go.Value renaming string → FC, slice → FD, int → FH
open Go.Ending renaming returned → FF
open Go.Obj renaming cells → FG
open Go.IntKind renaming i64 → FI
section
open Go.RowKit Go.BigFrame
attribute [local go_sem] ag ab ae af
def qG (W:World):List (Bs×Value)→Cm→Prop
 | [],[]=>True
 | p::mv,q::m=>p.1=q.1∧jX W p.2 q.2∧qG W mv m
 | _,_=>False
theorem qG.keep {W W':World} (D:aa [] W W'):∀ {mv:List (Bs×Value)} {m:Cm},qG W mv m→qG W' mv m
 | [],[],_=>trivial
 | _::_,_::_,h=>⟨h.1,h.2.1.keep D,qG.keep D h.2.2⟩
theorem qG.len {W:World}:∀ {mv:List (Bs×Value)} {m:Cm},qG W mv m→mv.length=m.length
 | [],[],_=>rfl
 | _::_,_::_,h=>congrArg (· + 1) h.2.2.len
theorem qG.fst {W:World}:∀ {mv:List (Bs×Value)} {m:Cm},qG W mv m→mv.map (·.1)=m.map (·.1)
 | [],[],_=>rfl
 | p::mv,q::m,h=>by rw[List.map_cons,List.map_cons,h.1,h.2.2.fst]
theorem qG.look {W:World} (n:Bs):∀ {mv:List (Bs×Value)} {m:Cm},qG W mv m→(mv.lookup n=none∧m.lookup n=none)∨∃ v c,mv.lookup n=some v∧m.lookup n=some c∧jX W v c
 | [],[],_=> .inl ⟨rfl,rfl⟩
 | p::mv,q::m,h=>by
  obtain ⟨D,M⟩:=p;obtain ⟨N,q2⟩:=q;obtain ⟨e,I,J⟩:=h;simp only at e;subst e;rw[List.lookup_cons,List.lookup_cons];by_cases H:n=D
  ·subst H
   simp only[beq_self_eq_true];exact .inr ⟨_,_,rfl,rfl,I⟩
  have:(n==D)=false:=by simpa using H
  rw[this];exact qG.look n J
theorem jX.nil (W:World):jX W (FD none 0 0) []:=⟨by simp,none,0,rfl,Fm _,Rd.nil⟩
theorem qG.get {W:World} {mv:List (Bs×Value)} {m:Cm} (h:qG W mv m) (n:Bs):jX W ((mv.lookup n).getD (FD none 0 0)) (dM m n):=by
 unfold dM;rcases h.look n with ⟨D,H⟩|⟨v,c,D,H,I⟩
 ·rw[D,H];exact jX.nil W
 rw[D,H];exact I
structure oE (w:World) (X b:Nat) (v0 v1 v2:Value) (mv:List (Bs×Value)) (m:Cm) (W:World):Prop where
 k:aa [] w W
 fb:ao W X 29 #[v0,v1,v2]
 mp:bA Tryz.prog 9 W b mv
 cv:qG W mv m
 hb:w.heap.size≤b
 xb:X≠b
theorem rM {W:World} {b o:Nat} {D:Array MapEntry} {cl:Nat} {v:Value} (h:W.heap[b]? = some (.map D cl)):W.cell? ⟨b,o,none⟩≠some v:=by
 unfold World.cell?;rw[h];simp
theorem Rd.keepM {W W':World} {b size n:Nat} {A:Option Addr} {xs:List Value} {es:Array MapEntry} {cl:Nat} (V:W.heap[b]? = some (.map es cl)) (J:aa [b] W W') (N:0<size) (h:Rd W [] size A n xs):Rd W' [] size A n xs:=by
 refine ⟨h.1,fun H=>?_⟩;obtain ⟨ad,e,U,M,h3⟩:=h.2 H;have Z:0<xs.length:=by rw[h.1];exact Nat.mul_pos H N
 obtain ⟨b2,o2,D,_,_,h4⟩:=Rd.open' h H N;rw[e] at D;injection D with D;subst D;have I:b2≠b:=fun O=>by
  subst O;exact rM V (h4 0 _ (Fp Z))
 exact ⟨_,e,U,Nat.lt_of_lt_of_le M J.size,fun j u hu=>(J.cell (by rw[cY];exact M) (by rw[cY];simpa using I)).trans (h3 j u hu)⟩
theorem jX.keepM {W W':World} {b:Nat} {v:Value} {l:List Cl} {O:Array MapEntry} {cl:Nat} (D:W.heap[b]? = some (.map O cl)) (N:aa [b] W W') (h:jX W v l):jX W' v l:=by
 obtain ⟨H,A,c,J,M,I⟩:=h;exact ⟨H,A,c,J,M,I.keepM D N (by decide)⟩
theorem qG.keepM {W W':World} {b:Nat} {I:Array MapEntry} {cl:Nat} (D:W.heap[b]? = some (.map I cl)) (H:aa [b] W W'):∀ {mv:List (Bs×Value)} {m:Cm},qG W mv m→qG W' mv m
 | [],[],_=>trivial
 | _::_,_::_,h=>⟨h.1,h.2.1.keepM D H,qG.keepM D H h.2.2⟩
theorem bA.isM {W:World} {b:Nat} {mv:List (Bs×Value)} (h:bA Tryz.prog 9 W b mv):∃ H cl,W.heap[b]? = some (.map H cl):=by
 obtain ⟨D,⟨H,cl,I,_⟩,_⟩:=h;exact ⟨H,cl,I⟩
theorem oE.keep {w W W':World} {X b:Nat} {J I H:Value} {mv:List (Bs×Value)} {m:Cm} (h:oE w X b J I H mv m W) (D:aa [] W W'):oE w X b J I H mv m W' :=
 ⟨h.k.trans D,h.fb.keep D (by simp),h.mp.keep D (by simp),h.cv.keep D,h.hb,h.xb⟩
theorem bA.get {w:World} {b:Nat} {mv:List (Bs×Value)} (h:bA Tryz.prog 9 w b mv) (k:Bs) (D:k.length≤1000):(Instr.lookup 32 (.map (some b)) (FC (bs k)) false).run Tryz.prog w= .ok ((mv.lookup k).getD (FD none 0 0)) w :=
 bA.look0 h (T:=32) (E:=51) Tryz.underlying32 Tryz.underlying9 (by kernel_rfl) k (by simp only[maxLen];omega)
theorem bA.put {w:World} {b:Nat} {mv:List (Bs×Value)} (h:bA Tryz.prog 9 w b mv) (k:Bs) (v:Value) (D:k.length≤1000) (H:mv.length≤1000000000000000):∃ w',(Instr.mapUpdate 32 (.map (some b)) (FC (bs k)) v).run Tryz.prog w= .ok () w'∧bA Tryz.prog 9 w' b ((k,v)::mv)∧w.grownBy w' (some b) :=
 bA.store h (T:=32) (E:=51) Tryz.underlying32 Tryz.underlying9 k v (by simp only[maxLen];omega) (by simp only[maxLen];omega)
theorem oE.put {w W W':World} {X b:Nat} {I M H:Value} {mv:List (Bs×Value)} {m:Cm} (h:oE w X b I M H mv m W) {n:Bs} {v:Value} {c:List Cl} (N:jX W v c) (V:bA Tryz.prog 9 W' b ((n,v)::mv)) (D:aa [b] W W'):oE w X b I M H ((n,v)::mv) ((n,c)::m) W':=by
 obtain ⟨Z,cl,J⟩:=h.mp.isM;exact ⟨h.k.trans' D (fun x O U=>by rw[List.mem_singleton.1 O] at U;exact absurd h.hb (by omega)),h.fb.keep D (by simpa using h.xb),V,⟨rfl,N.keepM J D,h.cv.keepM J D⟩,h.hb,h.xb⟩
def tq (R:Except (Int×Int) Cm) (base:Nat) (e:Ending) (w':World):Prop:=match R with
 | .ok m=>∃ b mv,e=FF (.tuple #[.map (some b),.nilIface])∧bA Tryz.prog 9 w' b mv∧qG w' mv m∧base≤b
 | .error x=>∃ u,e=FF (.tuple #[.map none,u])∧qy x u w'
theorem yr (f:Fl):cN f=gS (kA f.ins []) fun m=>gS (dF f) fun _=>gS (cM f) fun l=>dZ f l m:=by
 unfold cN gS
 cases kA f.ins [] with
 | error x=>rfl
 | ok m =>
  show (dF f >>= _)=_;simp only
  cases dF f with
  | error x=>rfl
  | ok u =>
   show (cM f >>= _)=_;simp only
   cases cM f with
   | error x=>rfl
   | ok l=>rfl
theorem yt (x:In) (l:List In) (m:Cm):kA (x::l) m=if bV x.cols then kA l ((x.name,x.cols)::m) else .error (3,x.at_):=rfl
theorem tr (l:List Nat) (t:Nat) (h:t<l.length):(gQ l)[t]? = some (FH FI (l[t]:Nat)):=by simp[gQ,db,h]
theorem wK {D:List Jb} {j:Jb} (h:j∈D):j.outs.length≤(D.flatMap (·.outs)).length:=by
 induction D with
 | nil=>cases h
 | cons q D ih =>
  rw[List.flatMap_cons,Fo];rcases List.mem_cons.1 h with rfl|h
  ·omega
  have:=ih h;omega
def oF (f:Fl) (h:List Nat) (x:Jb) (m:Cm) (r:Except Int (List (List Cl))):Except (Int×Int) Cm:=match r with
 | .error e=> .error (e,x.at_)
 | .ok cs=>dZ f h (gM x.outs cs m)
theorem vg (f:Fl) (k:Nat) (h:List Nat) (m:Cm):dZ f (k::h) m=oF f h (jb f k) m (aK (jb f k) ((jb f k).ins.map (dM m))):=by
 unfold oF;rw[dZ];cases aK (jb f k) (List.map (dM m) (jb f k).ins)<;>rfl
theorem yu (ns:List Bs) (cs:List (List Cl)) (q:Nat) (h:q<ns.length) (h':q<cs.length) (m:Cm):gM (ns.drop q) (cs.drop q) m=gM (ns.drop (q+1)) (cs.drop (q+1)) ((ns[q],cs[q])::m):=by
 rw[List.drop_eq_getElem_cons h,List.drop_eq_getElem_cons h'];rfl
theorem Am (ns:List Bs) (cs:List (List Cl)) (q:Nat) (h:ns.length≤q) (m:Cm):gM (ns.drop q) (cs.drop q) m=m:=by
 rw[List.drop_of_length_le h];unfold gM;rfl
def Cd (D W:World) (base:Nat) (u:Value) (cs:List (List Cl)):Prop:=∃ us:List Value,us.length=cs.length∧W.ownsRow base 51 1 u cs.length us∧∀ i (h:i<us.length) (h':i<cs.length),jX D us[i] cs[i]
theorem Cd.nil (D W:World) (base:Nat):Cd D W base (FD none 0 0) []:=⟨[],rfl,World.ownsRow_nil _ _ _ _,fun i h=>absurd h (by simp)⟩
theorem Cd.heads {D W:World} {base:Nat} {u:Value} {cs:List (List Cl)} (h:Cd D W base u cs) (J:aa [] D W):∃ A c,u=FD A cs.length c∧aU W A cs:=by
 obtain ⟨us,N,M,O⟩:=h;obtain ⟨A,c,rfl,V,U⟩:=fx M;exact ⟨A,c,rfl,us,N,U,fun i I hi'=>by
  obtain ⟨-,B,d,e,hd,H⟩:=O i I hi';exact ⟨B,d,e,hd,H.keep J⟩⟩
theorem DX:(Tryz.prog.info? 51).map (fun i=>(i.zero,i.size,i.bytes))=some (some (FD none 0 0),1,24):=by kernel_rfl
theorem aU.keepM {W W':World} {b:Nat} {A:Option Addr} {I:List (List Cl)} {V:Array MapEntry} {cl:Nat} (H:W.heap[b]? = some (.map V cl)) (D:aa [b] W W') (h:aU W A I):aU W' A I:=by
 obtain ⟨us,O,N,U⟩:=h;exact ⟨us,O,N.keepM H D (by decide),fun i M hi'=>by
  obtain ⟨B,d,e,hd,J⟩:=U i M hi';exact ⟨B,d,e,hd,J.keepM H D (by decide)⟩⟩
theorem l7 (f:Fl) (v0 v1 v2:Value) (w:World) (hF:lT w v0 v1 v2 f) (hS:rF f) (hE:rH w) (hT:iJ w) (bb:∀ x∈f.ins,∀ c∈x.cols,c.name.length≤1000000000) :
  Calls Tryz.prog 8 #[.agg #[v0,v1,v2]] w fun e w'=>tq (cN f) w.heap.size e w'∧aa [] w w':=by
 have ho:= @run_makeMap Tryz.prog;obtain ⟨i0,hQ,h2,hU,hN⟩:=info_parts DX;obtain ⟨R,hR⟩:∃ R,cN f=R:=⟨_,rfl⟩
 rw[hR];rw[yr] at hR;have HF:=Fk hF;have hY:=hF.i0;have hW:=hF.i1;have hK:=hF.i2;obtain ⟨j3,A0,c0,rfl,j4,cg⟩:=hY;obtain ⟨i5,A1,c1,rfl,i9,cr⟩:=hW;obtain ⟨js,A2,c2,rfl,ie,g1⟩:=hK;have H0:=Fk cg;have H1:=Fk cr;have HR:=Fk hR;have HS:=Fk hS;have HE:=Fk hE;have HT:=Fk hT;have HCL:=Fk bb;have gc:oE w w.heap.size (w.heap.size+1) (FD A0 f.ins.length c0) (FD A1 f.jobs.length c1) (FD A2 f.outs.length c2) [] [] ((w.alloc (FG #[FD A0 f.ins.length c0,FD A1 f.jobs.length c1,FD A2 f.outs.length c2] 29)).alloc (.map #[] 0)):=by
  have hm:=bA.made (P:=Tryz.prog) (S:=9) (w.alloc (FG #[FD A0 f.ins.length c0,FD A1 f.jobs.length c1,FD A2 f.outs.length c2] 29));rw[pT] at hm;exact ⟨((Fz _ _).alloc _).alloc _,(FA _ _ _).alloc _,hm,trivial,by omega,by omega⟩
 have ba:=Fk gc;clear hF hR hS cg cr g1 gc hE hT bb;obtain ⟨X,hX⟩:∃ X,w.heap.size=X:=⟨_,rfl⟩
 go_enter Tryz.func8,Tryz.ntmps8
 go_upto_block 0 with (fail)
 rw[hX] at ba;generalize ((w.alloc (FG #[FD A0 f.ins.length c0,FD A1 f.jobs.length c1,FD A2 f.outs.length c2] 29)).alloc (.map #[] 0))=y0 at ba ⊢;generalize i4:X+1=b at ba ⊢;have hz:X≤b:=by omega
 clear ho;go_cut [] (fun wx=>∃ mv m,Hid (oE w X b (FD A0 f.ins.length c0) (FD A1 f.jobs.length c1) (FD A2 f.outs.length c2) mv m wx)∧m.length≤f.ins.length∧Hid (BL m)∧Hid (gS (dF f) (fun _=>gS (cM f) fun l=>dZ f l m)=R))
 case first =>
  have hh:f.ins.length≤100000:=by
   have:=HS.out.all;unfold aW at this;rw[Fo,List.length_map] at this;omega
  go_wp2_with fail
  go_loopw [24] (fun i wr=>∃ (j:Nat) (mv:List (Bs×Value)) (m:Cm),j≤f.ins.length∧i=FH FI j∧m.length≤j∧Hid (BL m)∧Hid (oE w X b (FD A0 f.ins.length c0) (FD A1 f.jobs.length c1) (FD A2 f.outs.length c2) mv m wr)∧Hid (gS (kA (f.ins.drop j) m) (fun m=>gS (dF f) fun _=>gS (cM f) fun l=>dZ f l m)=R)) (fun i _=>f.ins.length-(intOf i).toNat)
  case atStart=>exact ⟨0,[],[],Fu _,rfl,Fm _,Fk (fun q hq=>by cases hq),ba,HR⟩
  obtain ⟨j,mv,m,hj,rfl,eY,V,D,HG⟩:=hrel;obtain ⟨wj,rfl⟩:∃ z:World,z=wr:=⟨_,rfl⟩
  by_cases b9:j<f.ins.length
  ·have hf:(j:Int)<(f.ins.length:Int):=by omega
   obtain ⟨g,cs,rfl,hg,-,⟨vc,rfl,bv⟩,M⟩:=H0.out j b9;have bZ:=bv;obtain ⟨bb,Ac,cc,rfl,e8,a8⟩:=bv;have d0:=D.out.k.cell_of (M 0 _ rfl) (by simp);have d1:=D.out.k.cell_of (M 1 _ rfl) (by simp);have d2:=D.out.k.cell_of (M 2 _ rfl) (by simp);rw[Nat.add_zero] at d0;have hl:(f.ins[j]).name.length≤1000:=HS.out.names _ (by unfold aW;exact List.mem_append_left _ (List.mem_map.2 ⟨_,Fs b9,rfl⟩));have ds:=HCL.out _ (Fs b9);have N:=HG.out;rw[List.drop_eq_getElem_cons b9,yt] at N;obtain ⟨x,hx⟩:∃ x,f.ins[j]=x:=⟨_,rfl⟩
   rw[hx] at d0 d1 d2 hl N bb e8 a8 ds bZ;have aA:=Fk N;have hL:=Fk bZ;have HC:Hid (∀ W,aa [] wj W→Calls Tryz.prog 19 #[FD Ac x.cols.length cc] W fun e w'=>e=FF (.bool (bV x.cols))∧aa [] W w'):=Fk fun W z=>gj x.cols Ac cc W (a8.keep (D.out.k.trans z)) e8 ds bb
   have cq:=D.out.cv.len;clear N hx M a8 ds bZ
   cases a0:bV x.cols with
   | true =>
    have a7:Hid (gS (kA (f.ins.drop (j+1)) ((x.name,x.cols)::m)) (fun m=>gS (dF f) fun _=>gS (cM f) fun l=>dZ f l m)=R):=Fk (by
     have:=aA.out;rw[if_pos a0] at this;exact this)
    have b0:Hid (BL ((x.name,x.cols)::m)):=Fk (V.out.put (ec.1 a0).2.1);rw[a0] at HC;clear a0;go_wp2_with fail
    refine (HC.out _ ((Fz _ _).alloc _)).mono ?_;rintro e w5 ⟨rfl,k5⟩;have b5:=(FA wj 57 #[FH FI x.at_,FC (bs x.name),FD Ac x.cols.length cc]).keep k5 (by simp);have e1:w5.cell? ⟨wj.heap.size,1,none⟩=some (FC (bs x.name)):=b5.cell 1;have e2:w5.cell? ⟨wj.heap.size,2,none⟩=some (FD Ac x.cols.length cc):=b5.cell 2;have el:=b5.lt;have J:=Fk (D.out.keep (((Fz _ _).alloc (FG #[FH FI x.at_,FC (bs x.name),FD Ac x.cols.length cc] 57)).trans k5));obtain ⟨w6,e9,fz,f9⟩:=J.out.mp.put x.name (FD Ac x.cols.length cc) hl (by rw[cq];omega);have ad:=Fk (J.out.put (hL.out.keep J.out.k) fz ((Fz [b] _).grown f9 (fun g hg=> .inl (by injection hg with hg;simp[hg]))));clear b5 k5 fz f9;go_wp2;go_roundw
    case rel=>exact ⟨j+1,_,_,by omega,by go_num,by simp only[Fv];omega,b0,ad,a7⟩
    case measure=>simp[intOf];omega
   | false =>
    have U:Hid (R= .error (3,x.at_)):=Fk (by
     have:=aA.out;rw[a0] at this;exact this.symm)
    rw[a0] at HC;clear a0;go_wp2_with fail
    refine (HC.out _ ((Fz _ _).alloc _)).mono ?_;rintro e w5 ⟨rfl,k5⟩;have b5:=(FA wj 57 #[FH FI x.at_,FC (bs x.name),FD Ac x.cols.length cc]).keep k5 (by simp);have e0:w5.cell? ⟨wj.heap.size,0,none⟩=some (FH FI x.at_):=b5.cell 0;have el:=b5.lt;have bc:=Fk ((D.out.k.alloc _).trans k5);clear b5 k5;go_wp2;go_region
    all_goals
     go_wp2;go_ret2;exact ⟨by rw[U.out];exact ⟨_,rfl,_,rfl,(FA _ _ _).drew⟩,(bc.out.alloc _).drew⟩
  have hf:¬(j:Int)<(f.ins.length:Int):=by omega
  have a7:Hid (gS (dF f) (fun _=>gS (cM f) fun l=>dZ f l m)=R):=Fk (by
   have:=HG.out;rw[List.drop_of_length_le (by omega)] at this;exact this)
  go_wp2;go_meet
  case rel=>exact ⟨mv,m,D,by omega,V,a7⟩
 obtain ⟨mv,m,D,eY,V,HG⟩:=hcut;clear ba HR;have p0:wc.cell? ⟨X,0,none⟩=some (FD A0 f.ins.length c0):=D.out.fb.cell 0;have p1:wc.cell? ⟨X,1,none⟩=some (FD A1 f.jobs.length c1):=D.out.fb.cell 1;have p2:wc.cell? ⟨X,2,none⟩=some (FD A2 f.outs.length c2):=D.out.fb.cell 2;have pl:=D.out.fb.lt;have bk:=Fk (pV f _ _ _ wc (HF.out.keep D.out.k) HS.out)
 cases a6:dF f with
 | error x =>
  rw[a6] at bk;have U:Hid (R= .error x):=Fk (by
   have:=HG.out;rw[a6] at this;exact this.symm)
  clear a6 HG;go_wp2_with fail
  refine bk.out.mono ?_;rintro e w5 ⟨⟨u,rfl,gi,rfl,be⟩,k5⟩;have en:=Fk be;have bc:=Fk (D.out.k.trans k5);clear be k5;go_wp2;go_ret2;exact ⟨by rw[U.out];exact ⟨_,rfl,_,rfl,en.out⟩,bc.out⟩
 | ok uu =>
  rw[a6] at bk;have b1:Hid (gS (cM f) (fun l=>dZ f l m)=R):=Fk (by
   have:=HG.out;rw[a6] at this;exact this)
  clear a6 HG;go_wp2_with fail
  refine bk.out.mono ?_;rintro e w5 ⟨he,k5⟩;obtain rfl:e=FF .nilIface:=he;have J:=Fk (D.out.keep k5);clear D k5 p0 p1 p2 pl bk;have p0:w5.cell? ⟨X,0,none⟩=some (FD A0 f.ins.length c0):=J.out.fb.cell 0;have p1:w5.cell? ⟨X,1,none⟩=some (FD A1 f.jobs.length c1):=J.out.fb.cell 1;have p2:w5.cell? ⟨X,2,none⟩=some (FD A2 f.outs.length c2):=J.out.fb.cell 2;have pl:=J.out.fb.lt;have br:=Fk (qx f _ _ _ w5 (HF.out.keep J.out.k))
  cases a2:cM f with
  | error x =>
   rw[a2] at br;have U:Hid (R= .error x):=Fk (by
    have:=b1.out;rw[a2] at this;exact this.symm)
   clear a2 b1;go_wp2_with fail
   refine br.out.mono ?_;rintro e w6 ⟨⟨gi,rfl,be⟩,k6⟩;have en:=Fk be;have bc:=Fk (J.out.k.trans k6);clear be k6;go_wp2;go_ret2;exact ⟨by rw[U.out];exact ⟨_,rfl,_,rfl,en.out⟩,bc.out⟩
  | ok l =>
   rw[a2] at br;have aA:Hid (dZ f l m=R):=Fk (by
    have:=b1.out;rw[a2] at this;exact this)
   obtain ⟨gk,iv⟩:=gN a2;have hp:=Fk gk.lt;clear a2 b1 gk;go_wp2_with fail
   refine br.out.mono ?_;rintro e w6 ⟨⟨Al,cl,rfl,jf,fc⟩,k6⟩;have ad:=Fk (J.out.keep k6);have bz:=Fk fc;have ir:=Fk k6;have j1:Hid (w.heap.size≤w6.heap.size):=Fk ad.out.k.size;clear k6 fc p0 p1 p2 pl br J;have p0:w6.cell? ⟨X,0,none⟩=some (FD A0 f.ins.length c0):=ad.out.fb.cell 0;have p1:w6.cell? ⟨X,1,none⟩=some (FD A1 f.jobs.length c1):=ad.out.fb.cell 1;have pl:=ad.out.fb.lt;have hh:f.ins.length≤100000:=by
    have:=HS.out.all;unfold aW at this;rw[Fo,List.length_map] at this;omega
   go_wp2_with fail
   go_loopw [58] (fun i wr=>∃ (t:Nat) (mv:List (Bs×Value)) (m:Cm),t≤l.length∧i=FH FI t∧m.length≤100000+t*100000∧Hid (BL m)∧Hid (oE w X b (FD A0 f.ins.length c0) (FD A1 f.jobs.length c1) (FD A2 f.outs.length c2) mv m wr)∧Hid (Rd wr [] 1 Al l.length (gQ l))∧Hid (dZ f (l.drop t) m=R)) (fun i _=>l.length-(intOf i).toNat)
   case atStart=>exact ⟨0,mv,m,Fu _,rfl,by omega,V,ad,bz,aA⟩
   clear p0 p1 pl ad aA bz eY V;obtain ⟨t,mv,m,ht,rfl,eY,V,D,bz,HG⟩:=hrel;obtain ⟨I,rfl⟩:∃ z:World,z=wr:=⟨_,rfl⟩
   have p1:I.cell? ⟨X,1,none⟩=some (FD A1 f.jobs.length c1):=D.out.fb.cell 1;have pl:=D.out.fb.lt;by_cases et:t<l.length
   ·have hM:(t:Int)<(l.length:Int):=by omega
    have h5:t<f.jobs.length:=by omega
    have h9:(t:Int)<(f.jobs.length:Int):=by omega
    obtain ⟨bl,ol,rfl,-,ih,cn⟩:=bz.out.open' (by omega) (by omega);have q0:I.cell? ⟨bl,ol+t,none⟩=some (FH FI (l[t]:Nat)):=cn t _ (tr l t et);have hk:=hp.out _ (Fs et);have N:=HG.out;rw[List.drop_eq_getElem_cons et,vg] at N;obtain ⟨k,e5⟩:∃ k,l[t]=k:=⟨_,rfl⟩
    rw[e5] at q0 hk N;have j2:(k:Int)<(f.jobs.length:Int):=by omega
    obtain ⟨g,cs,rfl,hg,-,⟨_,_,_,rfl,⟨f7,B2,e2,rfl,fs,eA⟩,⟨hV,B3,e3,rfl,cy,c3⟩,⟨ce,B4,e4,rfl,co,bX⟩⟩,M⟩:=H1.out k hk;have d0:=D.out.k.cell_of (M 0 _ rfl) (by simp);have d1:=D.out.k.cell_of (M 1 _ rfl) (by simp);have d2:=D.out.k.cell_of (M 2 _ rfl) (by simp);have d3:=D.out.k.cell_of (M 3 _ rfl) (by simp);have d4:=D.out.k.cell_of (M 4 _ rfl) (by simp);have d5:=D.out.k.cell_of (M 5 _ rfl) (by simp);have d6:=D.out.k.cell_of (M 6 _ rfl) (by simp);have d7:=D.out.k.cell_of (M 7 _ rfl) (by simp);have d8:=D.out.k.cell_of (M 8 _ rfl) (by simp);have d9:=D.out.k.cell_of (M 9 _ rfl) (by simp);have c9:=D.out.k.cell_of (M 10 _ rfl) (by simp);have ey:=D.out.k.cell_of (M 11 _ rfl) (by simp);have dv:=D.out.k.cell_of (M 12 _ rfl) (by simp);have eb:=D.out.k.cell_of (M 13 _ rfl) (by simp);have c5:=D.out.k.cell_of (M 14 _ rfl) (by simp);rw[Nat.add_zero] at d0;rw[ea hk] at N;have c7:∀ n∈f.jobs[k].ins,n.length≤1000:=fun n hn=>HS.out.ins _ (Fs hk) n hn
    have dz:∀ n∈f.jobs[k].outs,n.length≤1000:=fun n hn=>HS.out.names n (by unfold aW;exact List.mem_append_right _ (List.mem_flatMap.2 ⟨_,Fs hk,hn⟩))
    have hC:f.jobs[k].outs.length≤100000:=by
     have h1:=wK (Fs hk);have:=HS.out.all;unfold aW at this;rw[Fo] at this;omega
    obtain ⟨x,hx⟩:∃ x,f.jobs[k]=x:=⟨_,rfl⟩
    rw[hx] at d0 d1 d2 d3 d4 d5 d6 d7 d8 d9 c9 ey dv eb c5 c7 dz hC N f7 fs eA hV cy c3 ce co bX;have aA:=Fk N;have hJ:=Fk c7;have hw:=Fk dz;have fr:=Fk eA;have h3:=Fk c3;have hr:=Fk bX;have cq:=D.out.cv.len;clear cn N e5 hx M c7 dz eA c3 bX hk;go_upto_block 4 with (fail)
    go_cut [13,15] (fun u _ wx=>Hid (Cd (I.alloc (FG #[FH FI x.at_,FH FI x.code,FD B2 x.outs.length e2,FD B3 x.ins.length e3,FD B4 x.cols.length e4,FC (bs x.op),FC (bs x.left.col),FH FI x.left.val.kind,FH FI x.left.val.num,FC (bs x.left.val.word),FC (bs x.right.col),FH FI x.right.val.kind,FH FI x.right.val.num,FC (bs x.right.val.word),FH FI x.retry] 50)) wx (I.alloc (FG #[FH FI x.at_,FH FI x.code,FD B2 x.outs.length e2,FD B3 x.ins.length e3,FD B4 x.cols.length e4,FC (bs x.op),FC (bs x.left.col),FH FI x.left.val.kind,FH FI x.left.val.num,FC (bs x.left.val.word),FC (bs x.right.col),FH FI x.right.val.kind,FH FI x.right.val.num,FC (bs x.right.val.word),FH FI x.retry] 50)).heap.size u (x.ins.map (dM m)))∧Hid (aa [] (I.alloc (FG #[FH FI x.at_,FH FI x.code,FD B2 x.outs.length e2,FD B3 x.ins.length e3,FD B4 x.cols.length e4,FC (bs x.op),FC (bs x.left.col),FH FI x.left.val.kind,FH FI x.left.val.num,FC (bs x.left.val.word),FC (bs x.right.col),FH FI x.right.val.kind,FH FI x.right.val.num,FC (bs x.right.val.word),FH FI x.retry] 50)) wx))
    case first =>
     have b8:ao (I.alloc (FG #[FH FI x.at_,FH FI x.code,FD B2 x.outs.length e2,FD B3 x.ins.length e3,FD B4 x.cols.length e4,FC (bs x.op),FC (bs x.left.col),FH FI x.left.val.kind,FH FI x.left.val.num,FC (bs x.left.val.word),FC (bs x.right.col),FH FI x.right.val.kind,FH FI x.right.val.num,FC (bs x.right.val.word),FH FI x.retry] 50)) I.heap.size 50 #[FH FI x.at_,FH FI x.code,FD B2 x.outs.length e2,FD B3 x.ins.length e3,FD B4 x.cols.length e4,FC (bs x.op),FC (bs x.left.col),FH FI x.left.val.kind,FH FI x.left.val.num,FC (bs x.left.val.word),FC (bs x.right.col),FH FI x.right.val.kind,FH FI x.right.val.num,FC (bs x.right.val.word),FH FI x.retry]:=FA _ _ _;have dr:=D.out.keep ((Fz _ _).alloc (FG #[FH FI x.at_,FH FI x.code,FD B2 x.outs.length e2,FD B3 x.ins.length e3,FD B4 x.cols.length e4,FC (bs x.op),FC (bs x.left.col),FH FI x.left.val.kind,FH FI x.left.val.num,FC (bs x.left.val.word),FC (bs x.right.col),FH FI x.right.val.kind,FH FI x.right.val.num,FC (bs x.right.val.word),FH FI x.retry] 50));clear d0 d1 d2 d3 d4 d5 d6 d7 d8 d9 c9 ey dv eb c5;generalize gl:(I.alloc (FG #[FH FI x.at_,FH FI x.code,FD B2 x.outs.length e2,FD B3 x.ins.length e3,FD B4 x.cols.length e4,FC (bs x.op),FC (bs x.left.col),FH FI x.left.val.kind,FH FI x.left.val.num,FC (bs x.left.val.word),FC (bs x.right.col),FH FI x.right.val.kind,FH FI x.right.val.num,FC (bs x.right.val.word),FH FI x.retry] 50))=y1 at b8 dr ⊢;have fn:=Fk gl;clear gl;have gz:=Fk dr;have x3:y1.cell? ⟨I.heap.size,3,none⟩=some (FD B3 x.ins.length e3):=b8.cell 3;have xl:=b8.lt;clear b8 dr;go_wp2_with fail
     go_loopw [13,15,70] (fun u _ i wr=>∃ q:Nat,q≤x.ins.length∧i=FH FI q∧Hid (Cd y1 wr y1.heap.size u ((x.ins.take q).map (dM m)))∧Hid (aa [] y1 wr)) (fun _ _ i _=>x.ins.length-(intOf i).toNat)
     case atStart=>exact ⟨0,Fu _,rfl,Fk (Cd.nil _ _ _),Fk (Fz _ _)⟩
     clear x3 xl;obtain ⟨q,hq,rfl,HH,ca⟩:=hrel;obtain ⟨wq,rfl⟩:∃ z:World,z=wr:=⟨_,rfl⟩
     by_cases av:q<x.ins.length
     ·have c8:(q:Int)<(x.ins.length:Int):=by omega
      have gf:=Fk (gz.out.keep ca.out);obtain ⟨b6,o6,rfl,-,hP,bm⟩:=(h3.out.keep gf.out.k).open' (by omega) (by omega);have s0:=bm q _ (cw x.ins q av);have bt:=hJ.out _ (Fs av);have eB:(x.ins.take (q+1)).map (dM m)=(x.ins.take q).map (dM m)++[dM m x.ins[q]]:=by rw[List.take_succ_eq_append_getElem av,List.map_append];rfl
      obtain ⟨n,hn⟩:∃ n,x.ins[q]=n:=⟨_,rfl⟩
      rw[hn] at s0 bt eB;have lk:=gf.out.mp.get n bt;have f5:=gz.out.cv.get n;have g3:=Fk f5;obtain ⟨i3,Av,cv,ev,gm,f8⟩:=f5;rw[ev] at lk g3;have hZ:=Fk eB;obtain ⟨us,bj,a1,a9⟩:=HH.out;have b4:((x.ins.take q).map (dM m)).length=q:=by rw[List.length_map,Fw,Nat.min_eq_left hq]
      rw[b4] at bj a1;obtain ⟨Au,cu,rfl,-⟩:=aq a1;have f4:=Fk a1;have hy:=Fk a9;have hs:=Fk (show y1.heap.size≤(wq.alloc (FG #[FD Av (dM m n).length cv] 51)).heap.size by have:=ca.out.size;simp;omega);have f0:=Fk (show q+1≤maxLen∧(q+1)*24≤140737488355328 by simp only[maxLen];omega);clear bm hn eB gm f8 ev a1 a9 HH;go_wp2_with (at_builtin;refine wpList_append_own _ rfl _ _ 80 rfl y1.heap.size 51 i0 (FD none 0 0) 1 24 Tryz.underlying80 hQ h2 hU hN rfl (by decide) _ _ _ rfl (f4.out.alloc _) ⟨wq.heap.size,0,none⟩ 1 1 [FD Av (dM m n).length cv] rfl rfl (Fx (heap_alloc_new _ _)) (by simp[Value.oneCell']) f0.out.1 f0.out.2 hs.out ?_)
      intro vv w7 a3 a4 g8;have c6:=Fk ((ca.out.alloc _).grown a4 (fun g hg=> .inr (f4.out.lt g hg).1));have cD:Hid (Cd y1 w7 y1.heap.size vv ((x.ins.take (q+1)).map (dM m))):=Fk (by
       rw[hZ.out];refine ⟨us++[FD Av (dM m n).length cv],by rw[Fo,Fo,bj,b4];rfl,by rw[Fo,b4];exact a3,fun i hi hi'=>?_⟩;by_cases ix:i<q
       ·rw[List.getElem_append_left (by omega),List.getElem_append_left (by omega)]
        exact hy.out i (by omega) (by omega)
       have cy:i=q:=by simp at hi;omega
       subst cy;rw[List.getElem_append_right (by omega),List.getElem_append_right (by omega)];simpa[bj,b4] using g3.out)
      obtain ⟨g7,a5,rfl⟩:∃ g7 a5,vv=FD (some ⟨g7,0,none⟩) (q+1) a5:=by
       rcases a3.2 with ⟨_,h0⟩|⟨g7,a5,cur,hv,_⟩
       ·omega
       exact ⟨g7,a5,hv⟩
      clear a3 a4 g8;go_wp2;go_roundw
      case rel=>exact ⟨q+1,by omega,by go_num,cD,c6⟩
      case measure=>simp[intOf];omega
     have c8:¬(q:Int)<(x.ins.length:Int):=by omega
     have cD:Hid (Cd y1 wq y1.heap.size u13 (x.ins.map (dM m))):=Fk (by
      have:=HH.out;rw[List.take_of_length_le (by omega)] at this;exact this)
     go_wp2;go_meet
     case rel=>exact ⟨by rw[fn.out];exact cD,by rw[fn.out];exact ca⟩
    obtain ⟨HH,cd⟩:=hcut;clear d0 d1 d2 d3 d4 d5 d6 d7 d8 d9 c9 ey dv eb c5;obtain ⟨Z,rfl⟩:∃ z:World,z=wc:=⟨_,rfl⟩
    have H:Hid (ao Z I.heap.size 50 #[FH FI x.at_,FH FI x.code,FD B2 x.outs.length e2,FD B3 x.ins.length e3,FD B4 x.cols.length e4,FC (bs x.op),FC (bs x.left.col),FH FI x.left.val.kind,FH FI x.left.val.num,FC (bs x.left.val.word),FC (bs x.right.col),FH FI x.right.val.kind,FH FI x.right.val.num,FC (bs x.right.val.word),FH FI x.retry]):=Fk ((FA _ _ _).keep cd.out (by simp));have O:=Fk (D.out.keep (((Fz _ _).alloc (FG #[FH FI x.at_,FH FI x.code,FD B2 x.outs.length e2,FD B3 x.ins.length e3,FD B4 x.cols.length e4,FC (bs x.op),FC (bs x.left.col),FH FI x.left.val.kind,FH FI x.left.val.num,FC (bs x.left.val.word),FC (bs x.right.col),FH FI x.right.val.kind,FH FI x.right.val.num,FC (bs x.right.val.word),FH FI x.retry] 50)).trans cd.out));obtain ⟨Ah,ch,rfl,bo⟩:=HH.out.heads cd.out;have ct:∀ q∈x.ins.map (dM m),q.length≤4294967:=fun q hq=>by
     obtain ⟨n,_,rfl⟩:=List.mem_map.1 hq;exact Ft (V.out.get n) (by decide)
    have eX:Hid (Calls Tryz.prog 22 #[.agg #[FH FI x.at_,FH FI x.code,FD B2 x.outs.length e2,FD B3 x.ins.length e3,FD B4 x.cols.length e4,FC (bs x.op),FC (bs x.left.col),FH FI x.left.val.kind,FH FI x.left.val.num,FC (bs x.left.val.word),FC (bs x.right.col),FH FI x.right.val.kind,FH FI x.right.val.num,FC (bs x.right.val.word),FH FI x.retry],FD Ah x.ins.length ch] Z fun e w'=>aP (aK x (x.ins.map (dM m))) e w'∧aa [] Z w'):=Fk (by
     have g0:=lY x B2 e2 B3 x.ins.length e3 B4 e4 (x.ins.map (dM m)) Ah ch Z (HE.out.quiet O.out.k) ⟨fr.out.keep O.out.k,fs,hr.out.keep O.out.k,co,f7,ce⟩ bo ct;rw[List.length_map] at g0;exact g0)
    have cx:=Fk (fun cs (h:aK x (x.ins.map (dM m))= .ok cs)=>yh h (fun q hq=>by
     obtain ⟨n,_,rfl⟩:=List.mem_map.1 hq;exact V.out.get n))
    have cm:=Fk (fun cs (h:aK x (x.ins.map (dM m))= .ok cs)=>gO h);clear bo ct;have y0:Z.cell? ⟨I.heap.size,0,none⟩=some (FH FI x.at_):=H.out.cell 0;have y1:Z.cell? ⟨I.heap.size,1,none⟩=some (FH FI x.code):=H.out.cell 1;have y2:Z.cell? ⟨I.heap.size,2,none⟩=some (FD B2 x.outs.length e2):=H.out.cell 2;have y3:Z.cell? ⟨I.heap.size,3,none⟩=some (FD B3 x.ins.length e3):=H.out.cell 3;have y4:Z.cell? ⟨I.heap.size,4,none⟩=some (FD B4 x.cols.length e4):=H.out.cell 4;have y5:Z.cell? ⟨I.heap.size,5,none⟩=some (FC (bs x.op)):=H.out.cell 5;have y6:Z.cell? ⟨I.heap.size,6,none⟩=some (FC (bs x.left.col)):=H.out.cell 6;have y7:Z.cell? ⟨I.heap.size,7,none⟩=some (FH FI x.left.val.kind):=H.out.cell 7;have y8:Z.cell? ⟨I.heap.size,8,none⟩=some (FH FI x.left.val.num):=H.out.cell 8;have y9:Z.cell? ⟨I.heap.size,9,none⟩=some (FC (bs x.left.val.word)):=H.out.cell 9;have f2:Z.cell? ⟨I.heap.size,10,none⟩=some (FC (bs x.right.col)):=H.out.cell 10;have e7:Z.cell? ⟨I.heap.size,11,none⟩=some (FH FI x.right.val.kind):=H.out.cell 11;have g2:Z.cell? ⟨I.heap.size,12,none⟩=some (FH FI x.right.val.num):=H.out.cell 12;have ff:Z.cell? ⟨I.heap.size,13,none⟩=some (FC (bs x.right.val.word)):=H.out.cell 13;have f6:Z.cell? ⟨I.heap.size,14,none⟩=some (FH FI x.retry):=H.out.cell 14;have yl:=H.out.lt;generalize a8:aK x (x.ins.map (dM m))=CR at eX cx cm;have a7:Hid (oF f (l.drop (t+1)) x m CR=R):=Fk (by
     have:=aA.out;rw[a8] at this;exact this)
    clear a8
    cases CR with
    | error er =>
     have U:Hid (R= .error (er,x.at_)):=Fk a7.out.symm;go_wp2_with fail
     refine eX.out.mono ?_;rintro e w7 ⟨hH,k7⟩;obtain rfl:e=FF (.tuple #[FD none 0 0,.iface 37 (FH FI er)]):=hH;have hG:Hid (∀ W,aa [] w7 W→Calls Tryz.prog 23 #[.iface 37 (FH FI er)] W fun ev W'=>ev=FF (FH FI er)∧aa [] W W'):=Fk fun W z=>oy er W (HT.out.keep (O.out.k.trans (k7.trans z)) (by simp))
     have z0:∀ W,aa [] w7 W→W.cell? ⟨I.heap.size,0,none⟩=some (FH FI x.at_):=fun W z=>(H.out.keep (k7.trans z) (by simp)).cell 0
     have c6:=Fk (O.out.k.trans k7);clear k7 y0 y1 y2 y3 y4 y5 y6 y7 y8 y9 f2 e7 g2 ff f6;go_upto_region 27 with (fail)
     go_region_held3 (fun W=>aa [] w7 W) (first|exact (Fz [] w7).drew|exact (Fz [] w7).drew.trans k8|exact aa.alloc ‹_› _) (first|((with_reducible refine (hG.out _ (Fz [] w7).drew).mono ?_);rintro e w8 ⟨rfl,k8⟩))
     all_goals
      go_wp2;go_ret2;exact ⟨by rw[U.out];exact ⟨_,rfl,_,rfl,FA _ _ _⟩,(c6.out.trans ((Fz [] w7).drew.trans k8)).alloc _⟩
    | ok out =>
     have hb:Hid (dZ f (l.drop (t+1)) (gM x.outs out m)=R):=a7;have h8:=cm.out out rfl;have b0:=Fk (cx.out out rfl);go_wp2_with fail
     refine eX.out.mono ?_;rintro e w7 ⟨⟨B,d,rfl,it,bo⟩,k7⟩;have h4:=Fk bo;have hB:=Fk (O.out.keep k7);have hD:=Fk (bz.out.keep (((Fz _ _).alloc (FG #[FH FI x.at_,FH FI x.code,FD B2 x.outs.length e2,FD B3 x.ins.length e3,FD B4 x.cols.length e4,FC (bs x.op),FC (bs x.left.col),FH FI x.left.val.kind,FH FI x.left.val.num,FC (bs x.left.val.word),FC (bs x.right.col),FH FI x.right.val.kind,FH FI x.right.val.num,FC (bs x.right.val.word),FH FI x.retry] 50)).trans (cd.out.trans k7)));have z2:w7.cell? ⟨I.heap.size,2,none⟩=some (FD B2 x.outs.length e2):=(H.out.keep k7 (by simp)).cell 2;have zl:=(H.out.keep k7 (by simp)).lt;clear k7 y0 y1 y2 y3 y4 y5 y6 y7 y8 y9 f2 e7 g2 ff f6 yl bo;go_wp2_with fail
     go_loopw [18,19,99] (fun _ _ i wr=>∃ (q:Nat) (dt:List (Bs×Value)) (m':Cm),q≤x.outs.length∧i=FH FI q∧m'.length≤m.length+q∧Hid (BL m')∧Hid (oE w X b (FD A0 f.ins.length c0) (FD (some ⟨g,0,none⟩) f.jobs.length c1) (FD A2 f.outs.length c2) dt m' wr)∧Hid (Rd wr [] 1 (some ⟨bl,ol,none⟩) l.length (gQ l))∧Hid (aU wr B out)∧Hid (gM (x.outs.drop q) (out.drop q) m'=gM x.outs out m)) (fun _ _ i _=>x.outs.length-(intOf i).toNat)
     case atStart=>exact ⟨0,mv,m,Fu _,rfl,Fm _,V,hB,hD,h4,Fk rfl⟩
     clear z2 zl;obtain ⟨q,dt,m',hq,rfl,h7,ci,HN',ha,cj,g5⟩:=hrel;obtain ⟨wq,rfl⟩:∃ z:World,z=wr:=⟨_,rfl⟩
     by_cases av:q<x.outs.length
     ·have c8:(q:Int)<(x.outs.length:Int):=by omega
      have cz:q<out.length:=by omega
      obtain ⟨b6,o6,rfl,-,hP,bm⟩:=(fr.out.keep HN'.out.k).open' (by omega) (by omega);have s0:=bm q _ (cw x.outs q av);have bt:=hw.out _ (Fs av);obtain ⟨us,bj,a1,a9⟩:=cj.out;have ex:q<us.length:=by omega
      obtain ⟨Bq,dq,e6,ez,dB⟩:=a9 q ex cz;obtain ⟨b7,o7,rfl,-,jc,g4⟩:=a1.open' (by omega) (by omega);have s1:=g4 q us[q] (Fp ex);rw[e6] at s1;have h6:=b0.out _ (Fs cz);have bq:=yu x.outs out q av cz m';rw[g5.out] at bq;have ic:(q:Int)<(out.length:Int):=by omega
      obtain ⟨n,hn⟩:∃ n,x.outs[q]=n:=⟨_,rfl⟩
      obtain ⟨c,M⟩:∃ c,out[q]=c:=⟨_,rfl⟩
      rw[hn] at s0 bt bq;rw[M] at s1 ez dB h6 bq;have hO:=Fk bq.symm;have bv:jX wq (FD Bq c.length dq) c:=⟨by omega,_,_,rfl,ez,dB⟩;obtain ⟨w8,e9,fS,f3⟩:=HN'.out.mp.put n (FD Bq c.length dq) bt (by have:=HN'.out.cv.len;omega);have b3:aa [b] wq w8:=(Fz [b] _).grown f3 (fun g hg=> .inl (by injection hg with hg;simp[hg]));obtain ⟨es,jx,c4⟩:=HN'.out.mp.isM;have hI:=Fk (HN'.out.put bv fS b3);have hu:=Fk (ha.out.keepM c4 b3 (by decide));have f1:=Fk (cj.out.keepM c4 b3);have g6:=Fk (ci.out.put (n:=n) h6);clear bm g4 bj a1 a9 e6 ez dB h6 bq hn M bv fS f3 b3 c4 ex;go_wp2;go_roundw
      case rel=>exact ⟨q+1,_,_,by omega,by go_num,by simp only[Fv];omega,g6,hI,hu,f1,hO⟩
      case measure=>simp[intOf];omega
     have c8:¬(q:Int)<(x.outs.length:Int):=by omega
     have hA:Hid (dZ f (l.drop (t+1)) m'=R):=Fk (by
      rw[←hb.out,←g5.out,Am _ _ _ (by omega)])
     go_wp2;go_roundw
     case rel=>exact ⟨t+1,dt,m',by omega,by go_num,by omega,ci,HN',ha,hA⟩
     case measure=>simp[intOf];omega
   have hM:¬(t:Int)<(l.length:Int):=by omega
   have U:Hid (R= .ok m):=Fk (by
    have:=HG.out;rw[List.drop_of_length_le (by omega)] at this;exact this.symm)
   go_wp2;go_ret2;exact ⟨by rw[U.out];exact ⟨_,_,rfl,D.out.mp,D.out.cv,hz⟩,D.out.k⟩
end
end Go.Proofs.YtecpeogejjibaaaGreatDoor
