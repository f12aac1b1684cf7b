/- foremankeep.evaluated: a closed flow through eval.Run. Words of the laws of eval: what is given, what is handed back. EvalTurns: its walk. EvalTurns: the law, whole. -/
import Derived.Test.YtecpeogejjibaaaGreatDoorEtnM17
import Derived.Test.YtecpeogejjibaaaGreatDoorEtnM18
import Derived.Test.YtecpeogejjibaaaGreatDoorEtnM6
import Derived.Test.YtecpeogejjibaaaGreatDoorEtnM12
import Derived.Test.YtecpeogejjibaaaGreatDoorEtnM5
import Derived.Test.YtecpeogejjibaaaGreatDoorEtnM8
import Derived.Test.YtecpeogejjibaaaGreatDoorEtnM13
import Derived.ChangeMaps5
set_option linter.unusedSimpArgs false
set_option linter.unusedVariables false
set_option maxRecDepth 100000
set_option maxHeartbeats 16000000
namespace Go.Proofs.YtecpeogejjibaaaGreatDoor
open Go.Lib renaming hid → Fk
open _root_.Nat renaming le_refl → Fm, le_trans → Ft, zero_le → Fu
open Go.World renaming block_lt_of_cell? → Fq
open _root_.List renaming getElem_mem → Fs, length_cons → Fv
open aa renaming refl → Fz
open ao renaming new → FA
open Go.Value renaming string → FC, slice → FD, pointer → FE, int → FH
open Go.Ending renaming returned → FF
open Go.Obj renaming cells → FG
open Go.IntKind renaming i64 → FI
section
open Go.RowKit Go.BigFrame
attribute [local go_sem] ag ab ae af
theorem mo.of_map {w:World} {b:Nat} {mv:List (Bs×Value)} {m:Tm} (h:bA Tryz.prog 9 w b mv) (N:iQ w mv m):mo w (.map (some b)) (fun n=>m.lookup n):=fun W J n U=>by
 have D:=(h.keep J (by simp)).look (P:=Tryz.prog) Tryz.underlying22 Tryz.underlying9 (z:=Bd) (by kernel_rfl) n (by simp only[maxLen];omega);rcases (N.keep J).look n with ⟨I,H⟩|⟨v,c,I,H,A,M,B,cb,e,O⟩
 ·rw[I] at D
  simp only[H];exact ⟨none,0,none,0,D,aY.e0 W⟩
 rw[I] at D;simp only[H];subst e;exact ⟨A,M,B,cb,D,O⟩
theorem mo.nil (w:World):mo w (.map none) (fun _=>none):=fun W _ n I=>by
 have h:keyOf Tryz.prog 9 (FC (bs n))=some (.string n):=WideMaps.keyOf_string_mk Tryz.underlying9 (by rw[ag];simp only[maxLen];omega);have H:(zeroValue 54).run Tryz.prog W= .ok Bd W:=by kernel_rfl
 have D:=Maps.look_nil (P:=Tryz.prog) (w:=W) true (Maps.string_keyed Tryz.underlying9) Tryz.underlying22 H h;rw[if_pos rfl] at D;exact ⟨none,0,none,0,D,aY.e0 W⟩
def EQ:Bs:=[105,110,32,112,58,32,105,100,32,105,110,116,59,32,106,111,98,32,97,32,61,32,102,105,108,116,101,114,32,112,32,119,104,101,114,101,32,105,100,32,62,32,49,59,32,111,117,116,32,114,32,61,32,97,59]
def te:Tb:=⟨[⟨[105,100],1⟩],[[⟨1,1,[]⟩],[⟨1,2,[]⟩],[⟨1,3,[]⟩]]⟩
def EX:Bs:=[105,100,58,105,110,116,10,49,10,50,10,51,10]
theorem BB:ak te=true:=by decide
theorem BC:il te=EX:=by
 have H:Lib.decDigits 1=[49]:=Lib.decDigits_one (by decide);have D:Lib.decDigits 2=[50]:=Lib.decDigits_one (by decide);have h:Lib.decDigits 3=[51]:=Lib.decDigits_one (by decide);simp[il,te,EX,nu,qc,uv,aZ,Lib.itoa,H,D,h,eP]
theorem BD:dy EX= .ok te:=by rw[←BC];exact sz BB
theorem Ep:∃ f t,fi EQ= .ok f∧fP f (fun n=>[(([112]:Bs),te)].lookup n)= .ok [([114],t)]∧t.rows.length=2:=by
 have h:(match fi EQ with | .ok f=>(match fP f (fun n=>[(([112]:Bs),te)].lookup n) with | .ok [(n,t)]=>decide (n=[114])&&decide (t.rows.length=2)|_=>false) | .error _=>false)=true:=by decide +kernel
 rcases D:fi EQ with x|f
 ·rw[D] at h
  cases h
 rw[D] at h;dsimp only at h
 split at h
 ·rename_i n t I
  rw[Bool.and_eq_true,decide_eq_true_eq,decide_eq_true_eq] at h;obtain ⟨rfl,H⟩:=h;exact ⟨f,t,rfl,I,H⟩
 cases h
theorem zm (A B:Option Addr) (n c m d:Nat) (W:World):(Instr.field 54 (.agg #[FD A n c,FD B m d]) 1).run Tryz.prog W= .ok (FD B m d) W:=by kernel_rfl
theorem qb (w:World) (hE:jW w) (hO:mi w) (hT:iJ w) :
  Calls Tryz.prog 6 #[] w fun e w'=>e=FF (.bool true)∧aa [] w w':=by
 obtain ⟨f,t,hp,a6,a4⟩:=Ep;have hf:=(pC (by decide) hp).1;have HF:=Fk hf;have bm:=Fk a6;have bo:=Fk a4;have HE:=Fk hE;have HO:=Fk hO;have HT:=Fk hT;have H1:Hid (Calls Tryz.prog 17 #[FC (bs EQ)] w fun e w'=>jP (.ok f) w.heap.size e w'∧aa [] w w'):=Fk (by
  rw[←hp];exact qV EQ (by decide) w hE)
 have H2:Hid (∀ W,aa [] w W→Calls Tryz.prog 18 #[FC (bs EX)] W fun e w'=>∃ A B c d,e=FF (.tuple #[.agg #[FD A 1 c,FD B 3 d],.nilIface])∧aY w' te A B c d∧aa [] W w'):=Fk (fun W z=>BA BD (by decide) W (hO.t.quiet z));clear hp a6 hf hE hO hT a4;go_enter Tryz.func6,Tryz.ntmps6
 go_wp2_with fail
 refine H1.out.mono ?_;rintro e w1 ⟨⟨v0,v1,v2,rfl,i0,i1,i2⟩,k1⟩;have V:ij w1 _ v0 v1 v2 f:=⟨i0,i1,i2⟩;obtain ⟨A0,c0,A1,c1,A2,c2,rfl,rfl,rfl⟩:=V.forms;have bk:=Fk V;have a1:=Fk k1;clear i0 i1 i2 V k1;go_upto_region 4 with (fail)
 have J:=FA w1 29 #[FD A0 f.ins.length c0,FD A1 f.jobs.length c1,FD A2 f.outs.length c2];have U:aa [] w1 (w1.alloc (FG #[FD A0 f.ins.length c0,FD A1 f.jobs.length c1,FD A2 f.outs.length c2] 29)):=(Fz _ _).alloc _;generalize (w1.alloc (FG #[FD A0 f.ins.length c0,FD A1 f.jobs.length c1,FD A2 f.outs.length c2] 29))=y2 at J U ⊢;generalize w1.heap.size=F at J ⊢;have a9:=Fk J;have ad:=Fk U;clear J U;go_wp2_with fail
 refine (H2.out _ (a1.out.trans ad.out)).mono ?_;rintro e w2 ⟨A,B,c,d,rfl,a0,k3⟩;have bb:=Fk a0;have av:=Fk k3;clear a0 k3;go_upto_region 7 with (fail)
 have H:=FA w2 54 #[FD A 1 c,FD B 3 d];have D:aa [] w2 (w2.alloc (FG #[FD A 1 c,FD B 3 d] 54)):=(Fz _ _).alloc _;generalize (w2.alloc (FG #[FD A 1 c,FD B 3 d] 54))=y4 at H D ⊢;generalize w2.heap.size=T at H ⊢;have bq:=Fk H;have br:=Fk D;have O:=a9.out.keep (av.out.trans D) (by simp);have f0:y4.cell? ⟨F,0,none⟩=some (FD A0 f.ins.length c0):=O.cell 0;have f1:y4.cell? ⟨F,1,none⟩=some (FD A1 f.jobs.length c1):=O.cell 1;have f2:y4.cell? ⟨F,2,none⟩=some (FD A2 f.outs.length c2):=O.cell 2;have t0:(y4.alloc (.map #[] 0)).cell? ⟨T,0,none⟩=some (FD A 1 c):=(H.alloc (.map #[] 0)).cell 0;have t1':(y4.alloc (.map #[] 0)).cell? ⟨T,1,none⟩=some (FD B 3 d):=(H.alloc (.map #[] 0)).cell 1;have be:= @run_makeMap Tryz.prog;have hm:=bA.made (P:=Tryz.prog) (S:=9) y4;obtain ⟨w5,I,a7,a5⟩:=hm.putT [112] (.agg #[FD A 1 c,FD B 3 d]) (by decide) (by decide);have a8:(Instr.mapUpdate 22 (.map (some y4.heap.size)) (FC ⟨#[112]⟩) (.agg #[FD A 1 c,FD B 3 d])).run Tryz.prog (y4.alloc (.map #[] 0))= .ok () w5:=I;have a2:aa [y4.heap.size] (y4.alloc (.map #[] 0)) w5:=(Fz [y4.heap.size] _).grown a5 (fun g hg=> .inl (by injection hg with hg;simp[hg]));have hk5':aa [] y4 w5:=((Fz [] y4).alloc (.map #[] 0)).trans' a2 (fun x hx hl=>by rw[List.mem_singleton.1 hx] at hl;exact absurd hl (Nat.lt_irrefl _));have a3:iQ w5 [([112],.agg #[FD A 1 c,FD B 3 d])] [([112],te)]:=⟨rfl,⟨A,c,B,d,rfl,(bb.out.quiet D).quiet hk5'⟩,trivial⟩;have M:aa [] w w5:=a1.out.trans (ad.out.trans (av.out.trans (D.trans hk5')));have aA:=Fk (mr f _ _ _ (.map (some y4.heap.size)) (fun n=>[(([112]:Bs),te)].lookup n) w5 (((bk.out.flIn HF.out).keep (ad.out.trans (av.out.trans D))).keep hk5') HF.out.short (HO.out.quiet M) (HT.out.keep M (by simp)) HF.out.colNames (mo.of_map a7 a3));rw[bm.out] at aA;have bj:=Fk M;clear I hm a7 a5 a2 hk5' a3 M H D O;go_wp2_with fail
 refine aA.out.mono ?_;rintro e w6 ⟨⟨b,mv,rfl,Z,N,-⟩,k6⟩;obtain ⟨v,rfl,Ar,cr,Br,dr,rfl,ba⟩:∃ v,mv=[([114],v)]∧pL w6 v t:=by
  rcases mv with _|⟨⟨n,v⟩,_|⟨q,mv⟩⟩
  ·exact N.elim
  ·obtain ⟨e,h1,_⟩:=N
   exact ⟨v,by simp only at e;rw[e],h1⟩
  exact N.2.2.elim
 have q1:∀ (ty:TypeId) (o:Obj),(Builtin.len_ #[22] ty #[.map (some b)]).run Tryz.prog (w6.alloc o)= .ok (FH FI 1) (w6.alloc o):=fun ty o=>(Z.keep ((Fz [] _).alloc o) (by simp)).len Tryz.underlying22 ty
 have q2:∀ (o:Obj),(Instr.lookup 22 (.map (some b)) (FC ⟨#[114]⟩) false).run Tryz.prog (w6.alloc o)= .ok (.agg #[FD Ar t.cols.length cr,FD Br 2 dr]) (w6.alloc o):=fun o=>by
  have h:=(Z.keep ((Fz [] _).alloc o) (by simp)).getT [114] (by decide);rw[bo.out] at h;exact h
 have q3:= @zm;have bc:=Fk (bj.out.trans k6);clear k6 Z N ba f0 f1 f2 t0 t1' a8 be;go_wp2;go_ret;exact ⟨rfl,bc.out.alloc _⟩
end
section
open Go.RowKit Go.BigFrame
attribute [local go_sem] ag ab ae af KW.cell
theorem zq (v:Value) (w:World) (h:uE w v):Calls Tryz.prog 5 #[v] w fun e w'=>(∃ r,e=FF (.bool r)∧(r=true→Bj w v))∧aa [] w w':=by
 rcases h with rfl|⟨b,mv,rfl,O,J,H,I⟩
 ·refine (yZ w).mono ?_
  rintro e w' ⟨rfl,D⟩;exact ⟨⟨true,rfl,fun _=> .inl rfl⟩,D⟩
 refine (ze b mv w O J H I).mono ?_;rintro e w' ⟨⟨r,rfl,M⟩,D⟩;refine ⟨⟨r,rfl,fun h=>?_⟩,D⟩;obtain ⟨m,N⟩:=M h;exact .inr ⟨b,mv,m,rfl,N⟩
theorem Bj.gv {w:World} {v:Value} (h:Bj w v):∃ D:Tm,mo w v (fun n=>D.lookup n):=by
 rcases h with rfl|⟨b,mv,m,rfl,h⟩
 ·exact ⟨[],mo.nil w⟩
 exact ⟨m,mo.of_map h.mp h.cv⟩
def CT (W:World) (R:Except (Int×Int) Tm) (H:Value) (D h:Int):Prop:=match R with
 | .ok o=>(∃ b mv,H= .map (some b)∧bA Tryz.prog 9 W b mv∧iQ W mv o)∧D=0∧h= -1
 | .error x=>H= .map none∧D=x.1∧h=x.2
theorem CT.keep {W W':World} {R:Except (Int×Int) Tm} {J:Value} {I H:Int} (h:CT W R J I H) (D:aa [] W W'):CT W' R J I H:=by
 cases R with
 | ok o =>
  obtain ⟨⟨b,mv,O,U,M⟩,N⟩:=h;exact ⟨⟨b,mv,O,U.keep D (by simp),M.keep D⟩,N⟩
 | error x=>exact h
theorem Be.sh {R:Except (Int×Int) Tm} {base:Nat} {e:Ending} {W:World} (h:Be R base e W):∃ I H D,e=FF (.tuple #[I,.agg #[FH FI H,FH FI D]])∧CT W R I H D:=by
 cases R with
 | ok o =>
  obtain ⟨b,mv,M,N,J,_⟩:=h;exact ⟨_,_,_,M,⟨b,mv,rfl,N,J⟩,rfl,rfl⟩
 | error x=>exact ⟨_,_,_,h,rfl,rfl,rfl⟩
theorem ui:∀ {m D:List (Bs×Value)},m.map (·.1)=D.map (·.1)→mZ m=mZ D
 | [],[],_=>rfl
 | [],_::_,h=>by cases h
 | _::_,[],h=>by cases h
 | x::m,y::D,h=>by
  rw[List.map_cons,List.map_cons] at h;injection h with J H;have I:(m.lookup x.1).isSome=(D.lookup y.1).isSome:=by
   rw[Bool.eq_iff_iff,eM,eM,J,H]
  unfold mZ;rw[I,ui H]
theorem pI (h:Tm):∀ (l:List Pb) (o:Tm) (p:Bs×Tb),p∈uc h l o→p∈o∨∃ x∈l,p.1=x.name
 | [],_,_,D=> .inl D
 | x::l,o,p,D=>by
  rw[py] at D;rcases pI h l _ p D with H|⟨y,I,e⟩
  ·rcases List.mem_cons.1 H with rfl|H
   ·exact .inr ⟨x,List.mem_cons_self ..,rfl⟩
   exact .inl H
  exact .inr ⟨y,List.mem_cons_of_mem _ I,e⟩
theorem wh {f:Fl} {gv:Bs→Option Tb} {a:Tm} (h:fP f gv= .ok a):∀ p∈a,∃ x∈f.outs,p.1=x.name:=by
 obtain ⟨h',rfl⟩:∃ h',a=uc h' f.outs []:=by
  unfold fP at h;split at h
  ·cases h
  split at h
  ·cases h
  split at h
  ·cases h
  split at h
  ·cases h
  injection h with h;exact ⟨_,h.symm⟩
 intro p H;rcases pI h' f.outs [] p H with D|D
 ·cases D
 exact D
theorem aY.rdT {w:World} {t:Tb} {A B:Option Addr} {c d:Nat} (h:aY w t A B c d):nz w t A B:=⟨h.cols,h.rows,h.ln,h.lm,h.lr⟩
def Fd (y:World) (f:Fl) (H:Nat) (J I:Value) (D:World):Prop:=∃ (h:Fl) (A:Option Addr) (c:Nat),ao D H 29 #[J,FD A h.jobs.length c,I]∧lT D J (FD A h.jobs.length c) I h∧wC h∧h.ins=f.ins∧h.outs=f.outs∧h.jobs.Perm f.jobs∧aa [H] y D
theorem EU (s:Bs) (v:Value) (nb:Int) (w:World) (hE:jW w) (hO:mi w) (hT:iJ w) (hM:uE w v) :
  Calls Tryz.prog 3 #[FC (bs s),v,FH FI nb] w fun e w'=>e=FF (.bool true)∧aa [] w w':=by
 have HE:=Fk hE;have HO:=Fk hO;have HT:=Fk hT;have mq:=Fk (zq v w hM);clear hE hO hT hM;have kg:=Fk (fun W (z:aa [] w W)=>qb W (HE.out.quiet z) (HO.out.quiet z) (HT.out.keep z (by simp)));have HR:=Fk (fun W (z:aa [] w W)=>vY s W (HE.out.quiet z) (HO.out.c.quiet z) (HT.out.keep z (by simp)));obtain ⟨R,hR⟩:∃ R,pG s=R:=⟨_,rfl⟩
 rw[hR] at HR;have kz:=Fk hR;clear hR;go_enter Tryz.func3,Tryz.ntmps3
 go_wp2_with fail
 refine mq.out.mono ?_;rintro e w0 ⟨⟨r,rfl,hS⟩,k0⟩
 cases r with
 | false =>
  go_wp2;go_ret;exact ⟨rfl,k0⟩
 | true =>
 have hv:=Fk (hS rfl);obtain ⟨m0,cr⟩:=hv.out.gv;have fs:=Fk cr;have g7:=Fk k0;clear hS cr k0 mq;go_wp2_with fail
 refine (kg.out _ g7.out).mono ?_;rintro e w1 ⟨rfl,k1⟩;have be:=Fk (g7.out.trans k1);clear k1 kg g7;go_wp2_with fail
 refine (HR.out _ be.out).mono ?_;rintro e w2 ⟨ro,k2⟩;have a3:=Fk (be.out.trans k2);clear k2 HR be;rcases hr:R with _|f
 ·rw[hr] at ro
  obtain ⟨A0,n0,c0,A1,n1,Z,A2,n2,c2,rfl⟩:=ro;clear hr;go_wp2;go_ret;exact ⟨rfl,a3.out.alloc _⟩
 rw[hr] at ro kz;obtain ⟨base,A0,c0,A1,Z,A2,c2,rfl,jc⟩:=ro;obtain ⟨r9,hp,m,mp⟩:=we kz.out;have g6:=(pC (by omega) hp).1;have HW:=Fk g6;have hs:=Fk mp;have jf:=Fk (jc.flIn g6);clear hr jc hp g6 mp;go_upto_region 6 with (fail)
 have bZ:=FA w2 29 #[FD A0 f.ins.length c0,FD A1 f.jobs.length Z,FD A2 f.outs.length c2];have M:=(Fz [] w2).alloc (FG #[FD A0 f.ins.length c0,FD A1 f.jobs.length Z,FD A2 f.outs.length c2] 29);obtain ⟨y0,ic⟩:∃ z,w2.alloc (FG #[FD A0 f.ins.length c0,FD A1 f.jobs.length Z,FD A2 f.outs.length c2] 29)=z:=⟨_,rfl⟩
 rw[ic] at bZ M ⊢;obtain ⟨F1,mb⟩:∃ F,w2.heap.size=F:=⟨_,rfl⟩
 rw[mb] at bZ ⊢;have lm:=Fk bZ;have b3:=Fk (a3.out.trans M);have c7:=Fk (jf.out.keep M);have a0:y0.cell? ⟨F1,0,none⟩=some (FD A0 f.ins.length c0):=bZ.cell 0;have O:y0.cell? ⟨F1,1,none⟩=some (FD A1 f.jobs.length Z):=bZ.cell 1;have a2:y0.cell? ⟨F1,2,none⟩=some (FD A2 f.outs.length c2):=bZ.cell 2;clear bZ M ic mb jf a3;have j3:Hid (Calls Tryz.prog 8 #[.agg #[FD A0 f.ins.length c0,FD A1 f.jobs.length Z,FD A2 f.outs.length c2]] y0 fun e w'=>tq (.ok m) y0.heap.size e w'∧aa [] y0 w'):=Fk (by
  rw[←hs.out];exact l7 f _ _ _ y0 c7.out HW.out.short (HO.out.c.quiet b3.out) (HT.out.keep b3.out (by simp)) HW.out.colNames)
 go_wp2_with fail
 refine j3.out.mono ?_;rintro e y1 ⟨⟨b1,r5,rfl,mE,e0,-⟩,k1⟩;have mA:=Fk mE;have km:=Fk e0;have be:=Fk (b3.out.trans k1);have cz:=Fk (c7.out.keep k1);have ce:=Fk (lm.out.keep k1 (by simp));clear a0 O a2 mE e0 k1 j3 lm c7 b3;have a0:y1.cell? ⟨F1,0,none⟩=some (FD A0 f.ins.length c0):=ce.out.cell 0;have O:y1.cell? ⟨F1,1,none⟩=some (FD A1 f.jobs.length Z):=ce.out.cell 1;have a2:y1.cell? ⟨F1,2,none⟩=some (FD A2 f.outs.length c2):=ce.out.cell 2;have cy:=Fk (mr f _ _ _ v (fun n=>m0.lookup n) y1 cz.out HW.out.short (HO.out.quiet be.out) (HT.out.keep be.out (by simp)) HW.out.colNames (fs.out.keep be.out));go_wp2_with fail
 refine cy.out.mono ?_;rintro e y2 ⟨c3,k2⟩;obtain ⟨av,xe,xj,rfl,cx⟩:=c3.sh;have js:=Fk cx;have a3:=Fk k2;clear c3 cx k2 a0 O a2 cy;have b0:y2.cell? ⟨F1,0,none⟩=some (FD A0 f.ins.length c0):=(ce.out.keep a3.out (by simp)).cell 0;go_upto_region 12 with (fail)
 clear b0;have dr:=FA y2 39 #[FH FI xe,FH FI xj];have M:=(Fz [] y2).alloc (FG #[FH FI xe,FH FI xj] 39);obtain ⟨y3,k5⟩:∃ z,y2.alloc (FG #[FH FI xe,FH FI xj] 39)=z:=⟨_,rfl⟩
 rw[k5] at dr M ⊢;obtain ⟨FX,lk⟩:∃ F,y2.heap.size=F:=⟨_,rfl⟩
 rw[lk] at dr ⊢;have j4:=Fk dr;have cd:=Fk (ce.out.keep (a3.out.trans M) (by simp));have eB:=Fk (js.out.keep M);have b3:=Fk (be.out.trans (a3.out.trans M));have a6:=Fk (cz.out.keep (a3.out.trans M));have hI:=Fk (mA.out.keep (a3.out.trans M) (by simp));have hu:=Fk (km.out.keep (a3.out.trans M));clear dr M k5 lk js be a3 cz mA km ce;have a0:y3.cell? ⟨F1,0,none⟩=some (FD A0 f.ins.length c0):=cd.out.cell 0;have O:y3.cell? ⟨F1,1,none⟩=some (FD A1 f.jobs.length Z):=cd.out.cell 1;have a2:y3.cell? ⟨F1,2,none⟩=some (FD A2 f.outs.length c2):=cd.out.cell 2;go_upto_region 13 with (fail)
 have eb:=FA y3 29 #[FD A0 f.ins.length c0,FD A1 f.jobs.length Z,FD A2 f.outs.length c2];have M:=(Fz [] y3).alloc (FG #[FD A0 f.ins.length c0,FD A1 f.jobs.length Z,FD A2 f.outs.length c2] 29);obtain ⟨y,hy⟩:∃ z,y3.alloc (FG #[FD A0 f.ins.length c0,FD A1 f.jobs.length Z,FD A2 f.outs.length c2] 29)=z:=⟨_,rfl⟩
 rw[hy] at eb M ⊢;obtain ⟨F2,kd⟩:∃ G,y3.heap.size=G:=⟨_,rfl⟩
 rw[kd] at eb ⊢;have ff:=Fk eb;have gz:Hid (y3.heap.size≤F2):=Fk (by omega);have cn:=Fk M;have HZ:Hid (∀ W,aa [] y W→W.cell? ⟨F1,1,none⟩=some (FD A1 f.jobs.length Z)):=Fk (fun W z=>(cd.out.keep (M.trans z) (by simp)).cell 1);clear eb M hy kd a0 O a2;have g1:y.cell? ⟨F1,1,none⟩=some (FD A1 f.jobs.length Z):=HZ.out y (Fz _ _);go_upto_if 54 with (fail)
 go_cut [14] (fun _ wx=>Hid (Fd y f F2 (FD A0 f.ins.length c0) (FD A2 f.outs.length c2) wx))
 case first =>
  rename_i J1 K1 m6 pz;by_cases hz:f.jobs.length=0
  ·have sb:¬0<f.jobs.length:=by omega
   have c4:Hid (Fd y f F2 (FD A0 f.ins.length c0) (FD A2 f.outs.length c2) y):=Fk ⟨f,A1,Z,ff.out,a6.out.keep cn.out,HW.out,rfl,rfl,List.Perm.refl _,Fz _ _⟩;clear hz;go_wp2;go_meet
   case rel=>exact c4
  have hf:0<f.jobs.length:=by omega
  have q0:decide ((0:Int)<(f.jobs.length:Int))=true:=decide_eq_true (by omega);have q1:((0:Int)<(f.jobs.length:Int))=True:=eq_true (by omega);have rk:f.jobs.length≤16:=HW.out.njobs;obtain ⟨k,f1⟩:∃ k,uk nb f.jobs.length=k:=⟨_,rfl⟩
  have ol:k<f.jobs.length:=by rw[←f1];exact ul nb hf
  have oX:Hid (∀ W,Calls Tryz.prog 10 #[FH FI nb,FH FI (f.jobs.length:Int)] W fun e w'=>e=FF (FH FI (k:Int))∧W=w'):=Fk (fun W=>by
   rw[←f1];exact BF nb f.jobs.length hf (by omega) W)
  clear hz f1;go_upto_region 15 with ((with_reducible refine (oX.out _).mono ?_);rintro e w5 ⟨rfl,rfl⟩)
  clear g1 q0 q1;obtain ⟨r4,c1',us,e1,gm,o2,bt,bX⟩:=a6.out.i1.rows;have bX:=bX.keep cn.out;injection e1 with e1 e2 e3;subst e1 e3;clear e2;have f8:us.length=f.jobs.length:=bt.1;obtain ⟨bj,oj,eA,-,-,-⟩:=bX.open' hf (by decide);have m9:Hid (∀ W,(Instr.slice 26 (FD A1 f.jobs.length Z) none (some (FH FI (k:Int))) none).run Tryz.prog W= .ok (FD A1 k Z) W):=Fk (fun W=>by
   rw[eA];exact zv bj oj _ _ k (by omega) gm W)
  have hQ:Hid (∀ W,(Instr.slice 26 (FD A1 f.jobs.length Z) (some (FH FI (k:Int))) none none).run Tryz.prog W= .ok (FD (some ⟨bj,oj+k*15,none⟩) (f.jobs.length-k) (Z-k)) W):=Fk (fun W=>by
   rw[eA];exact un bj oj _ _ k ol gm W)
  have c6:Rd y [] 15 (some ⟨bj,oj+k*15,none⟩) (f.jobs.length-k) (us.drop k).flatten:=by
   rw[eA] at bX;exact zu bt.lens bX f8 (by omega) fun _=>rfl
  obtain ⟨AD,gc⟩:∃ X:Option Addr,some ⟨bj,oj+k*15,none⟩=X:=⟨_,rfl⟩
  obtain ⟨cD,ix⟩:∃ X,Z-k=X:=⟨_,rfl⟩
  rw[gc,ix] at hQ;rw[gc] at c6;have ir:∀ u∈(us.drop k).flatten,u.oneCell'=true:=(bt.drop k).one
  have HCL:Hid (∀ W,aa [] y W→Calls Tryz.prog 11 #[FD AD (f.jobs.length-k:Nat) cD] W fun e w'=>(∃ v,e=FF v∧w'.ownsRow W.heap.size 50 15 v (f.jobs.length-k) (us.drop k).flatten)∧aa [] W w'):=Fk (fun W z=>wi (f.jobs.length-k) (by omega) (by omega) _ ir AD cD W (c6.keep z));have dv:=Fk (zt bt.lens bX f8 (m:=k) (by omega));have k6:Hid (∀ u∈(us.take k).flatten,u.oneCell'=true):=Fk (bt.take k).one;have hA:=Fk bt;have mY:Hid (f.jobs.length-k+k=f.jobs.length):=Fk (by omega);clear bt bX eA gc ix c6 ir gm o2 f8;refine pZ (by kernel_rfl) (by kernel_rfl) (by kernel_rfl) (fun g i=>if i=4 then FD g.1 (f.jobs.length-k) g.2.1 else if i=9 then FD g.2.2.1 (f.jobs.length-k+k) g.2.2.2 else [FE (some ⟨F1,1,none⟩),FD A1 f.jobs.length Z,FH FI (k:Int),FD AD (f.jobs.length-k) cD,undef,FE (some ⟨F1,1,none⟩),FD A1 f.jobs.length Z,FH FI (k:Int),FD A1 k Z,undef,FE (some ⟨F2,1,none⟩),undef].getD i undef) (fun g L w'=>zD y f k us F2 (FD A0 f.ins.length c0) (FD A2 f.outs.length c2) g L w') ⟨(none,0,none,0),?_⟩ ?_ ?_
  ·exact ⟨(fun h=>by cases h),(fun h=>by cases h),(fun h=>by cases h),fun _=>⟨(Fz _ _).drew,(fun h=>by cases h),fun h=>by cases h⟩⟩
  ·show oR _ 12
   refine ⟨⟨⟨⟨⟨⟨⟨⟨⟨⟨⟨⟨trivial,?_⟩,?_⟩,?_⟩,?_⟩,?_⟩,?_⟩,?_⟩,?_⟩,?_⟩,?_⟩,?_⟩,?_⟩
   ·intro N g L O w1 hL J H D
    have e7:O.tmps.getD 7 undef=FE (some ⟨F1,0,none⟩):=H.old 7 (by kernel_rfl);have I:L 11=false:=D.n11 hL (by decide);have hN:=D.far (i:=0) (by decide) (by decide) (by decide);refine am rfl N rfl H (by exact hN) ?_;show (execOp _ _).run _ _=Result.ok (.value (FE (some ⟨F1,1,none⟩))) _;clear hN H J N D;simp only[execOp,Act.eval,e7];go_simp
   ·intro N g L O w1 hL J H D
    have rc:O.tmps.getD 60 undef=FE (some ⟨F1,1,none⟩):=H.y 0 _ 60 rfl rfl (J 0 (by kernel_rfl));have I:L 11=false:=D.n11 hL (by decide);have hN:=D.far (i:=1) (by decide) (by decide) (by decide);have z1:=HZ.out w1 (D.pre I).1;refine am rfl N rfl H (by exact hN) ?_;show (execOp _ _).run _ _=Result.ok (.value (FD A1 f.jobs.length Z)) _;clear hN H J N D;simp only[execOp,Act.eval,rc];go_simp
   ·intro N g L O w1 hL J H D
    have fr:O.tmps.getD 14 undef=FH FI (k:Int):=H.old 14 (by kernel_rfl);have I:L 11=false:=D.n11 hL (by decide);have hN:=D.far (i:=2) (by decide) (by decide) (by decide);refine am rfl N rfl H (by exact hN) ?_;show (execOp _ _).run _ _=Result.ok (.value (FH FI (k:Int))) _;clear hN H J N D;simp only[execOp,Act.eval,fr];go_simp
   ·intro N g L O w1 hL J H D
    have p2:O.tmps.getD 61 undef=FD A1 f.jobs.length Z:=H.y 1 _ 61 rfl rfl (J 1 (by kernel_rfl));have o4:O.tmps.getD 62 undef=FH FI (k:Int):=H.y 2 _ 62 rfl rfl (J 2 (by kernel_rfl));have I:L 11=false:=D.n11 hL (by decide);have hN:=D.far (i:=3) (by decide) (by decide) (by decide);have z1:=hQ.out w1;refine am rfl N rfl H (by exact hN) ?_;show (execOp _ _).run _ _=Result.ok (.value (FD AD (f.jobs.length-k) cD)) _;clear hN H J N D;simp only[execOp,Act.eval,p2,o4];go_simp
   ·intro N g L O w1 hL J H D
    have n8:O.tmps.getD 63 undef=FD AD (f.jobs.length-k) cD:=H.y 3 _ 63 rfl rfl (J 3 (by kernel_rfl));have I:L 11=false:=D.n11 hL (by decide);obtain ⟨k1,p4,p9⟩:=D.pre I;refine yM (f:=11) (args:= #[FD AD (f.jobs.length-k) cD]) rfl rfl ?_ ?_
    ·clear H J N D
     simp only[execOp,Act.eval,n8];go_simp
    refine (HCL.out w1 k1).mono ?_;rintro e w2 ⟨⟨v,rfl,et⟩,o7⟩;obtain ⟨A',c',rfl,_⟩:=aq et;refine ⟨_,rfl,(A',c',g.2.2),(H.congr (v':=_) fun j hj=>?_).put N rfl,D.b4 hL I o7 et⟩;have h4:j≠4:=fun e=>by subst e;rw[hL] at hj;cases hj
    show (if j=4 then _ else if j=9 then _ else _)=(if j=4 then _ else if j=9 then _ else _);rw[if_neg h4,if_neg h4]
   ·intro N g L O w1 hL J H D
    have e7:O.tmps.getD 7 undef=FE (some ⟨F1,0,none⟩):=H.old 7 (by kernel_rfl);have I:L 11=false:=D.n11 hL (by decide);have hN:=D.far (i:=5) (by decide) (by decide) (by decide);refine am rfl N rfl H (by exact hN) ?_;show (execOp _ _).run _ _=Result.ok (.value (FE (some ⟨F1,1,none⟩))) _;clear hN H J N D;simp only[execOp,Act.eval,e7];go_simp
   ·intro N g L O w1 hL J H D
    have oc:O.tmps.getD 65 undef=FE (some ⟨F1,1,none⟩):=H.y 5 _ 65 rfl rfl (J 5 (by kernel_rfl));have I:L 11=false:=D.n11 hL (by decide);have hN:=D.far (i:=6) (by decide) (by decide) (by decide);have z1:=HZ.out w1 (D.pre I).1;refine am rfl N rfl H (by exact hN) ?_;show (execOp _ _).run _ _=Result.ok (.value (FD A1 f.jobs.length Z)) _;clear hN H J N D;simp only[execOp,Act.eval,oc];go_simp
   ·intro N g L O w1 hL J H D
    have fr:O.tmps.getD 14 undef=FH FI (k:Int):=H.old 14 (by kernel_rfl);have I:L 11=false:=D.n11 hL (by decide);have hN:=D.far (i:=7) (by decide) (by decide) (by decide);refine am rfl N rfl H (by exact hN) ?_;show (execOp _ _).run _ _=Result.ok (.value (FH FI (k:Int))) _;clear hN H J N D;simp only[execOp,Act.eval,fr];go_simp
   ·intro N g L O w1 hL J H D
    have o0:O.tmps.getD 66 undef=FD A1 f.jobs.length Z:=H.y 6 _ 66 rfl rfl (J 6 (by kernel_rfl));have o3:O.tmps.getD 67 undef=FH FI (k:Int):=H.y 7 _ 67 rfl rfl (J 7 (by kernel_rfl));have I:L 11=false:=D.n11 hL (by decide);have hN:=D.far (i:=8) (by decide) (by decide) (by decide);have z1:=m9.out w1;refine am rfl N rfl H (by exact hN) ?_;show (execOp _ _).run _ _=Result.ok (.value (FD A1 k Z)) _;clear hN H J N D;simp only[execOp,Act.eval,o0,o3];go_simp
   ·intro N g L O w1 hL J H D
    have o6:O.tmps.getD 64 undef=FD g.1 (f.jobs.length-k) g.2.1:=H.y 4 _ 64 rfl rfl (J 4 (by kernel_rfl));have p0:O.tmps.getD 68 undef=FD A1 k Z:=H.y 8 _ 68 rfl rfl (J 8 (by kernel_rfl));have I:L 11=false:=D.n11 hL (by decide);obtain ⟨k1,p4,p9⟩:=D.pre I;have h4:=J 4 (by kernel_rfl);obtain ⟨oo,d3,ho⟩:=p4 h4 hL;obtain ⟨iv,q6,mK,l2,l5⟩:=info_parts uj;obtain ⟨v',w2,ez,l1,m5⟩:=cX (P:=Tryz.prog) w1 oo 26 26 50 iv _ 15 208 Tryz.underlying26 q6 mK l2 l5 rfl (by decide) ho (dv.out.keep k1) Z k6.out (by unfold maxLen;omega) (by omega) d3.2;obtain ⟨A',c',rfl,_⟩:=aq l1;have mt:=D.b9 hL h4 I l1 m5 (fun x hx=>Ft d3.1 (ho.lt x hx).1) d3.1;refine Ci rfl rfl (Lib.wp_append_run w1 _ _ _ _ rfl _ _ (show O.eval (.tmp 64)=_ from o6) (show O.eval (.tmp 68)=_ from p0) _ w2 ez ?_);refine ⟨(g.1,g.2.1,A',c'),(H.congr (v':=_) fun j hj=>?_).put N rfl,mt⟩;have h9:j≠9:=fun e=>by subst e;rw[hL] at hj;cases hj
    show (if j=4 then _ else if j=9 then _ else _)=(if j=4 then _ else if j=9 then _ else _);rw[if_neg h9,if_neg h9]
   ·intro N g L O w1 hL J H D
    have o8:O.tmps.getD 13 undef=FE (some ⟨F2,0,none⟩):=H.old 13 (by kernel_rfl);have I:L 11=false:=D.n11 hL (by decide);have hN:=D.far (i:=10) (by decide) (by decide) (by decide);refine am rfl N rfl H (by exact hN) ?_;show (execOp _ _).run _ _=Result.ok (.value (FE (some ⟨F2,1,none⟩))) _;clear hN H J N D;simp only[execOp,Act.eval,o8];go_simp
   intro N g L O w1 hL J H D;have m2:O.tmps.getD 70 undef=FE (some ⟨F2,1,none⟩):=H.y 10 _ 70 rfl rfl (J 10 (by kernel_rfl));have o9:O.tmps.getD 69 undef=FD g.2.2.1 (f.jobs.length-k+k) g.2.2.2:=H.y 9 _ 69 rfl rfl (J 9 (by kernel_rfl));obtain ⟨k1,p4,p9⟩:=D.pre hL;have h9:=J 9 (by kernel_rfl);obtain ⟨qs,d3,ho⟩:=p9 h9;have hG:=ff.out.keep k1 (by simp);have x1:w1.cell? ⟨F2,1,none⟩=some (FD A1 f.jobs.length Z):=hG.cell 1;have x2:w1.frozen? ⟨F2,1,none⟩=false:=hG.frozen 1;have bo:aa [F2] w1 (w1.setCell ⟨F2,1,none⟩ (FD g.2.2.1 (f.jobs.length-k+k) g.2.2.2)):=(Fz _ _).setCell (.inl (by simp)) _;have co:Dh y f k us F2 (FD A0 f.ins.length c0) (FD A2 f.outs.length c2) (w1.setCell ⟨F2,1,none⟩ (FD g.2.2.1 (f.jobs.length-k+k) g.2.2.2)) :=
    ⟨qs,g.2.2.1,g.2.2.2,k1.of_nil.trans bo,(hG.set 1 _).congr rfl,aE ho bo (fun x hx=>by simpa using dP.ne (aL ho x hx) hG.ty (by decide))⟩
   refine dN (w':=w1.setCell ⟨F2,1,none⟩ (FD g.2.2.1 (f.jobs.length-k+k) g.2.2.2)) rfl rfl ?_ ⟨g,H.put N rfl,?_⟩
   ·clear H J N D p4 p9 ho
    simp only[execOp,Act.eval,m2,o9];go_simp
   refine ⟨fun h'=>?_,fun _=>co,fun _ j hj=>?_,fun h'=>by cases h'⟩
   ·have e:∀ j,11≠j→bd L 11 j=L j:=fun j hj=>by unfold bd;rw[if_neg (Ne.symm hj)]
    rw[e 4 (by decide)];exact D.d9 h9
   have e:bd L 11 j=L j:=by unfold bd;rw[if_neg (by omega)]
   rw[e]
   match j,hj with
   | 0,_=>exact J 0 (by kernel_rfl)
   | 1,_=>exact J 1 (by kernel_rfl)
   | 2,_=>exact J 2 (by kernel_rfl)
   | 3,_=>exact J 3 (by kernel_rfl)
   | 4,_=>exact J 4 (by kernel_rfl)
   | 5,_=>exact J 5 (by kernel_rfl)
   | 6,_=>exact J 6 (by kernel_rfl)
   | 7,_=>exact J 7 (by kernel_rfl)
   | 8,_=>exact J 8 (by kernel_rfl)
   | 9,_=>exact J 9 (by kernel_rfl)
   | 10,_=>exact J 10 (by kernel_rfl)
  intro g L w' lv D;have co:=D.d11 (lv 11 (by decide));have lb:Fd y f F2 (FD A0 f.ins.length c0) (FD A2 f.outs.length c2) w':=by
   obtain ⟨g8,A,c,bo,hG,ho⟩:=co;rw[mY.out] at hG ho;have b7:aa [] y3 w':=cn.out.trans' bo fun x hx hl=>by rw[List.mem_singleton] at hx;have:=gz.out;omega
   have aA:(um f k).jobs.length=f.jobs.length:=(jQ f k).length_eq;have pl:dT w' (us.drop k++us.take k) (um f k).jobs:=((hA.out.keep b7).drop k).append ((hA.out.keep b7).take k);rw[←List.flatten_append] at ho;have d0:=pl.lsIn (base:=g8) (v:=FD A f.jobs.length c) (by rw[aA];exact ho) (by rw[aA];omega);exact ⟨um f k,A,c,by rw[aA];exact hG,⟨(a6.out.keep b7).i0,by rw[aA];exact d0,(a6.out.keep b7).i2⟩,BG HW.out k,rfl,rfl,jQ f k,bo⟩
  refine pz _ _ (Met.intro (m6 _ _ ?_));repeat apply Exists.intro
  exact ⟨Fk lb,rfl⟩
 obtain ⟨gf,Ag,cg,hG,h0,kl,cr,hY,l0,bo⟩:=hcut.out;obtain ⟨y4,rfl⟩:∃ z:World,z=wc:=⟨_,rfl⟩
 have ad:aa [] y3 y4:=cn.out.trans' bo fun x hx hl=>by rw[List.mem_singleton] at hx;have:=gz.out;omega
 have el:=Fk (b3.out.trans ad);have mU:=Fk hG;have h8:=Fk h0;have hi:=Fk kl;have d8:=Fk (show gf.ins=f.ins∧gf.outs=f.outs∧gf.jobs.Perm f.jobs from ⟨cr,hY,l0⟩);have dz:=Fk (cd.out.keep ad (by simp));have e6:=Fk (a6.out.keep ad);have i5:=Fk (j4.out.keep ad (by simp));have eY:=Fk (eB.out.keep ad);have m7:=Fk (hI.out.keep ad (by simp));have ox:=Fk (hu.out.keep ad);clear hG h0 kl cr hY l0 bo ad cn ff gz HZ cd a6 j4 eB hI hu b3 g1 hcut;have no:= @run_makeMap Tryz.prog;go_upto_region 17 with (fail)
 have hm:=bA.made (P:=Tryz.prog) (S:=9) y4;have f4:aa [] y4 (y4.alloc (.map #[] 0)):=(Fz _ _).alloc _;have hw:Hid (y4.heap.size≤y4.heap.size):=Fk (Fm _);generalize hC:y4.heap.size=bl at hm hw ⊢;have lr:Hid (y4.heap.size=bl):=Fk hC;generalize (y4.alloc (.map #[] 0))=y5 at hm f4 ⊢;have k8:=Fk hm;have hV:=Fk f4;clear hm f4 no hC hw;go_upto_block 0 with (fail)
 go_cut [] (fun wx=>∃ a9 ml,Hid (bA Tryz.prog 9 wx bl a9)∧Hid (iQ wx a9 ml)∧Hid (aa [] y4 wx)∧Hid (∀ x∈f.ins,ml.lookup x.name=m0.lookup x.name))
 case first =>
  go_wp2_with fail
  go_loopw [16] (fun i wr=>∃ (j:Nat) (a9:List (Bs×Value)) (ml:Tm),j≤f.ins.length∧i=FH FI j∧ml.length≤j∧Hid (bA Tryz.prog 9 wr bl a9)∧Hid (iQ wr a9 ml)∧Hid (aa [] y4 wr)∧Hid (∀ n,ml.lookup n=m0.lookup n∨ml.lookup n=none)∧Hid (∀ x∈f.ins.take j,ml.lookup x.name=m0.lookup x.name)) (fun i _=>f.ins.length-(intOf i).toNat)
  case atStart=>exact ⟨0,[],[],Fu _,rfl,Fm _,k8,Fk trivial,hV,Fk (fun n=> .inr rfl),Fk (fun x hx=>by cases hx)⟩
  obtain ⟨j,a9,ml,hj,rfl,sp,HM,HV,bk,HA,f9⟩:=hrel;obtain ⟨z,rfl⟩:∃ z:World,z=wr:=⟨_,rfl⟩
  have f0:z.cell? ⟨F1,0,none⟩=some (FD A0 f.ins.length c0):=(dz.out.keep bk.out (by simp)).cell 0;have fl:=(dz.out.keep bk.out (by simp)).lt;by_cases aA:j<f.ins.length
  ·have fn:(j:Int)<(f.ins.length:Int):=by omega
   have rr:f.ins.length≤16:=HW.out.nins;obtain ⟨rd,r8,c0',n7,sm,er⟩:=e6.out.i0;injection n7 with g3 _ f5;subst g3 f5;obtain ⟨g,cs,rfl,hg,-,⟨vc,rfl,p1⟩,hc⟩:=er j aA;have d1:=bk.out.cell_of (hc 1 _ rfl) (by simp);have hl:(f.ins[j]).name.length≤1000:=HW.out.short.names _ (by unfold aW;exact List.mem_append_left _ (List.mem_map.2 ⟨_,Fs aA,rfl⟩));have hk:f.ins.take (j+1)=f.ins.take j++[f.ins[j]]:=List.take_succ_eq_append_getElem aA;obtain ⟨x,hx⟩:∃ x,f.ins[j]=x:=⟨_,rfl⟩
   rw[hx] at d1 hl hk;have mI:=Fk hk;obtain ⟨U,V,Bt,dt,a5,fc⟩:=fs.out z (el.out.trans bk.out) x.name hl;obtain ⟨o1,gl⟩:∃ o,m0.lookup x.name=o:=⟨_,rfl⟩
   simp only[gl] at a5 fc;have fz:=Fk gl;have i4:=Fk fc;have lw:=HV.out.len;clear hx hc p1 er rd fc hk gl
   cases o1 with
   | none =>
    simp only[Option.getD_none,Option.isSome_none] at a5;have e9:Hid (∀ x∈f.ins.take (j+1),ml.lookup x.name=m0.lookup x.name):=Fk (fun q hq=>by
     rw[mI.out] at hq;rcases List.mem_append.1 hq with hq|hq
     ·exact f9.out q hq
     rw[List.mem_singleton.1 hq];rcases HA.out x.name with h|h
     ·exact h
     rw[h,fz.out])
    have cv:=Fk (bk.out.alloc (FG #[FD U mj.cols.length V,FD Bt mj.rows.length dt] 54));have c9:=Fk (HM.out.keep ((Fz [] z).alloc (FG #[FD U mj.cols.length V,FD Bt mj.rows.length dt] 54)) (by simp));have ql:=Fk (HV.out.keep ((Fz [] z).alloc (FG #[FD U mj.cols.length V,FD Bt mj.rows.length dt] 54)));go_wp2;go_roundw
    case rel=>exact ⟨j+1,_,_,by omega,by go_num,by omega,c9,ql,cv,HA,e9⟩
    case measure=>simp[intOf];omega
   | some t =>
    simp only[Option.getD_some,Option.isSome_some] at a5 i4;have b8:aa [] z (z.alloc (FG #[FD U t.cols.length V,FD Bt t.rows.length dt] 54)).drew:=((Fz [] z).alloc _).drew;obtain ⟨w7,ez,lo,lg⟩:=(HM.out.keep b8 (by simp)).putT x.name (.agg #[FD U t.cols.length V,FD Bt t.rows.length dt]) hl (by rw[lw];omega);have dq:aa [bl] (z.alloc (FG #[FD U t.cols.length V,FD Bt t.rows.length dt] 54)).drew w7:=(Fz [bl] _).grown lg (fun g hg=> .inl (by injection hg with hg;simp[hg]));obtain ⟨es,r7,f2⟩:=(HM.out.keep b8 (by simp)).isM;have p7:=Fk lo;have hU:iQ w7 ((x.name,.agg #[FD U t.cols.length V,FD Bt t.rows.length dt])::a9) ((x.name,t)::ml):=⟨rfl,pL.keepM f2 dq ⟨U,V,Bt,dt,rfl,i4.out.quiet b8⟩,iQ.keepM f2 dq (HV.out.keep b8)⟩;have pn:=Fk hU;have ch:Hid (aa [] y4 w7):=Fk ((bk.out.trans b8).trans' dq fun q hq c5=>by rw[List.mem_singleton.1 hq,←lr.out] at c5;exact absurd c5 (Nat.lt_irrefl _));have oz:Hid (∀ n,((x.name,t)::ml).lookup n=m0.lookup n∨((x.name,t)::ml).lookup n=none):=Fk (fun n=>by
     rw[ki];by_cases bm:n=x.name
     ·subst bm
      rw[if_pos rfl];exact .inl fz.out.symm
     rw[if_neg bm];exact HA.out n)
    have e9:Hid (∀ q∈f.ins.take (j+1),((x.name,t)::ml).lookup q.name=m0.lookup q.name):=Fk (fun q hq=>by
     rw[ki];by_cases bm:q.name=x.name
     ·rw[if_pos bm,bm,fz.out]
     rw[if_neg bm];rw[mI.out] at hq;rcases List.mem_append.1 hq with hq|hq
     ·exact f9.out q hq
     exact absurd (by rw[List.mem_singleton.1 hq]) bm)
    have ca:=FA z 54 #[FD U t.cols.length V,FD Bt t.rows.length dt];have r0:(z.alloc (FG #[FD U t.cols.length V,FD Bt t.rows.length dt] 54)).cell? ⟨F1,0,none⟩=some (FD (some ⟨g,0,none⟩) f.ins.length c0):=(dz.out.keep (bk.out.alloc _) (by simp)).cell 0;have r1:(z.alloc (FG #[FD U t.cols.length V,FD Bt t.rows.length dt] 54)).cell? ⟨g,j*3+1,none⟩=some (FC (bs x.name)):=((Fz [] z).alloc _).cell_of d1 (by simp);have r2:(z.alloc (FG #[FD U t.cols.length V,FD Bt t.rows.length dt] 54)).cell? ⟨z.heap.size,0,none⟩=some (FD U t.cols.length V):=ca.cell 0;have r3:(z.alloc (FG #[FD U t.cols.length V,FD Bt t.rows.length dt] 54)).cell? ⟨z.heap.size,1,none⟩=some (FD Bt t.rows.length dt):=ca.cell 1;clear lo lg dq f2 hU b8 ca;go_upto_region 22 with (fail)
    go_region
    all_goals
     go_wp2;go_roundw
     case rel=>exact ⟨j+1,_,_,by omega,by go_num,by simp only[Fv];omega,p7,pn,ch,oz,e9⟩
     case measure=>simp[intOf];omega
  have fn:¬(j:Int)<(f.ins.length:Int):=by omega
  have l3:Hid (∀ x∈f.ins,ml.lookup x.name=m0.lookup x.name):=Fk (by
   have h:=f9.out;rw[List.take_of_length_le (by omega)] at h;exact h)
  go_wp2;go_meet
  case rel=>exact ⟨a9,ml,HM,HV,bk,l3⟩
 obtain ⟨a9,ml,ie,kf,c8,hJ⟩:=hcut;obtain ⟨y6,rfl⟩:∃ z:World,z=wc:=⟨_,rfl⟩
 have cq:aa [] w y6:=el.out.trans c8.out;have d5:=mU.out.keep c8.out (by simp);have g0:y6.cell? ⟨F2,0,none⟩=some (FD A0 f.ins.length c0):=d5.cell 0;have g1:y6.cell? ⟨F2,1,none⟩=some (FD Ag gf.jobs.length cg):=d5.cell 1;have g2:y6.cell? ⟨F2,2,none⟩=some (FD A2 f.outs.length c2):=d5.cell 2;have cy:=Fk (mr gf _ _ _ (.map (some bl)) (fun n=>ml.lookup n) y6 (h8.out.keep c8.out) hi.out.short (HO.out.quiet cq) (HT.out.keep cq (by simp)) hi.out.colNames (mo.of_map ie.out kf.out));have c4:=Fk (wb hs.out d8.out.1 d8.out.2.1 d8.out.2.2 (gv:=fun n=>m0.lookup n) (gv':=fun n=>ml.lookup n) hJ.out);clear cq d5 k8 hV ie kf hJ h8 hi d8 hv fs;go_wp2_with fail
 refine cy.out.mono ?_;rintro e y7 ⟨c3,k7⟩;obtain ⟨bv,ye,yj,rfl,cx⟩:=c3.sh;have lc:=Fk cx;have j2:=Fk (c8.out.trans k7);clear c3 cx k7 g0 g1 g2 cy c8;go_upto_region 24 with (fail)
 have cj:=FA y7 39 #[FH FI ye,FH FI yj];have a4:=(Fz [] y7).alloc (FG #[FH FI ye,FH FI yj] 39);obtain ⟨y8,ls⟩:∃ z,y7.alloc (FG #[FH FI ye,FH FI yj] 39)=z:=⟨_,rfl⟩
 rw[ls] at cj a4 ⊢;obtain ⟨FY,lx⟩:∃ F,y7.heap.size=F:=⟨_,rfl⟩
 rw[lx] at cj ⊢;have ci:=Fk (j2.out.trans a4);have a8:=Fk (lc.out.keep a4);have a7:=Fk (eY.out.keep ci.out);have b6:=i5.out.keep ci.out (by simp);have cu:=Fk (dz.out.keep ci.out (by simp));have g4:=Fk b6;have rt:=Fk cj;have x0:y8.cell? ⟨FX,0,none⟩=some (FH FI xe):=b6.cell 0;have x1:y8.cell? ⟨FX,1,none⟩=some (FH FI xj):=b6.cell 1;have v0:y8.cell? ⟨FY,0,none⟩=some (FH FI ye):=cj.cell 0;have v1:y8.cell? ⟨FY,1,none⟩=some (FH FI yj):=cj.cell 1;have nd:y8.cell? ⟨F1,2,none⟩=some (FD A2 f.outs.length c2):=cu.out.cell 2;clear cj a4 ls lx b6 lc j2 eY i5;rcases c4.out with ⟨a,ha,N⟩|⟨ex,ey,ha,N,i9,lj,gi⟩
 ·-- BEGIN ok
  rw[ha] at a7;rw[N] at a8;obtain ⟨⟨ba,f7,rfl,f3,ht⟩,rfl,rfl⟩:=a7.out;obtain ⟨⟨bb,ks,rfl,hh,gk⟩,rfl,rfl⟩:=a8.out;obtain ⟨n,hn⟩:∃ n,mZ f7=n:=⟨_,rfl⟩
  have d6:mZ ks=n:=by rw[←hn];exact ui (gk.fst.trans ht.fst.symm)
  have q1:∀ ty,(Builtin.len_ #[22] ty #[.map (some ba)]).run Tryz.prog y8= .ok (FH FI n) y8:=fun ty=>by
   rw[←hn];exact f3.len Tryz.underlying22 ty
  have q2:∀ ty,(Builtin.len_ #[22] ty #[.map (some bb)]).run Tryz.prog y8= .ok (FH FI n) y8:=fun ty=>by
   rw[←d6];exact hh.len Tryz.underlying22 ty
  have h5:=Fk f3;have mh:=Fk ht;have o5:=Fk hh;have q4:=Fk gk;have pe:Hid (∀ p∈a,p.1.length≤1000):=Fk (fun p hp=>by
   obtain ⟨x,hx,e⟩:=wh ha p hp;rw[e];exact (HW.out.short.told x hx).1)
  have n5:=Fk (zo hs.out ha);have d4:=Fk (el.out.trans ci.out);clear f3 ht hh gk hn d6 ha N c4 a7 a8;go_wp2_with (refine iX rfl _ rfl Tryz.underlying22 Tryz.underlying9 rfl h5.out ?_)
  intro y9 d7 k9 fS;obtain ⟨r,hr⟩:∃ r,y8.heap.size=r:=⟨_,rfl⟩
  rw[hr] at d7 ⊢;have nn:=Fk d7;have ih:=Fk k9;have j1:Hid (y8.heap.size≤r):=Fk (by omega);clear d7 k9 fS hr q1 q2 x0 x1 v0 v1 nd;go_wp2_with fail
  go_loopw [130] (fun _ wr=>∃ L fb,Hid (fg Tryz.prog 9 wr ba r f7 L fb)∧Hid (aa [r] y9 wr)) (fun _ wr=>wr.rangeLeft ba r)
  case atStart=>exact ⟨_,_,nn,Fk (Fz _ _)⟩
  obtain ⟨L,fb,dB,cm⟩:=hrel;obtain ⟨z,rfl⟩:∃ z:World,z=wr:=⟨_,rfl⟩
  go_wp2_with (refine jZ rfl _ rfl Tryz.underlying9 rfl dB.out ?hDone ?hMore)
  case hDone =>
   intro _ _;have b5:Hid (aa [] y8 z):=Fk ((ih.out.of_nil.trans cm.out).weaken fun x hx hl=>by rw[List.mem_singleton] at hx;have:=j1.out;omega);clear dB cm;have qv:z.cell? ⟨F1,2,none⟩=some (FD A2 f.outs.length c2):=(cu.out.keep b5.out (by simp)).cell 2;have rb:z.cell? ⟨FX,0,none⟩=some (FH FI 0):=(g4.out.keep b5.out (by simp)).cell 0;go_wp2_with fail
   go_loopw [23] (fun i wr=>∃ j:Nat,j≤f.outs.length∧i=FH FI j∧Hid (aa [] y8 wr)) (fun i _=>f.outs.length-(intOf i).toNat)
   case atStart=>exact ⟨0,Fu _,rfl,b5⟩
   clear qv rb;obtain ⟨j,hj,rfl,bq⟩:=hrel;obtain ⟨wq,rfl⟩:∃ z:World,z=wr:=⟨_,rfl⟩
   have q7:wq.cell? ⟨F1,2,none⟩=some (FD A2 f.outs.length c2):=(cu.out.keep bq.out (by simp)).cell 2;have pb:wq.cell? ⟨FX,0,none⟩=some (FH FI 0):=(g4.out.keep bq.out (by simp)).cell 0;by_cases aA:j<f.outs.length
   ·have fn:(j:Int)<(f.outs.length:Int):=by omega
    have rs:f.outs.length≤16:=HW.out.nouts;obtain ⟨d6,sg,c2',he,m1,e4⟩:=e6.out.i2;injection he with g3 _ f5;subst g3 f5;obtain ⟨g,cs,rfl,hg,-,hp,hc⟩:=e4 j aA;obtain rfl:cs=[FH FI f.outs[j].at_,FC (bs f.outs[j].name),FC (bs f.outs[j].src)]:=hp;have a4:aa [] y4 wq:=ci.out.trans bq.out;have d1:=a4.cell_of (hc 1 _ rfl) (by simp);have d2:=a4.cell_of (hc 2 _ rfl) (by simp);obtain ⟨g5,d0⟩:=HW.out.short.told _ (Fs aA);obtain ⟨t,bc,h6,f6⟩:=n5.out _ (Fs aA);obtain ⟨x,hx⟩:∃ x,f.outs[j]=x:=⟨_,rfl⟩
    rw[hx] at d1 d2 g5 d0 bc f6;obtain ⟨v',a5,U,V,Bt,dt,rfl,bz⟩:∃ v',f7.lookup x.name=some v'∧pL wq v' t:=by
     rcases (mh.out.keep bq.out).look x.name with ⟨_,h⟩|⟨v1,t',h1,h2,h3⟩
     ·rw[bc] at h;cases h
     rw[bc] at h2;cases h2
     exact ⟨v1,h1,h3⟩
    have q3:=(h5.out.keep bq.out (by simp)).getT x.name g5;rw[a5] at q3;simp only[Option.getD_some] at q3;obtain ⟨hP,Ac,cc,ev,nC,l4⟩:=(ox.out.keep a4).get x.src;have br:aa [] wq (wq.alloc (FG #[FD U t.cols.length V,FD Bt t.rows.length dt] 54)):=(Fz _ _).alloc _;have jx:Hid (∀ W,aa [] (wq.alloc (FG #[FD U t.cols.length V,FD Bt t.rows.length dt] 54)) W→(Instr.lookup 32 (.map (some b1)) (FC (bs x.src)) false).run Tryz.prog W= .ok (FD Ac (dM m x.src).length cc) W):=Fk (fun W q=>by
     have h:=(m7.out.keep (a4.trans (br.trans q)) (by simp)).get x.src d0;rw[ev] at h;exact h)
    have dv:Hid (∀ W,aa [] (wq.alloc (FG #[FD U t.cols.length V,FD Bt t.rows.length dt] 54)) W→Calls Tryz.prog 13 #[.agg #[FD U t.cols.length V,FD Bt t.rows.length dt]] W fun e w'=>e=FF (.bool true)∧aa [] W w'):=Fk (fun W q=>by
     have h:=(bz.quiet (br.trans q)).right;rw[h6] at h;exact h)
    have lf:Hid (∀ W,aa [] (wq.alloc (FG #[FD U t.cols.length V,FD Bt t.rows.length dt] 54)) W→Calls Tryz.prog 14 #[FD U t.cols.length V,FD Ac (dM m x.src).length cc] W fun e w'=>e=FF (.bool true)∧aa [] W w'):=Fk (fun W q=>by
     have h:=im t.cols (dM m x.src) U Ac V cc W (bz.quiet (br.trans q)).cols (l4.keep (br.trans q)) bz.ln hP;rw[decide_eq_true f6] at h;exact h)
    have ca:=FA wq 54 #[FD U t.cols.length V,FD Bt t.rows.length dt];have en:=Fk ca;have ch:=Fk (bq.out.trans br);have lp:=Fk (br.cell_of d2 (by simp));have it:=Fk ((cu.out.keep (bq.out.trans br) (by simp)).cell 2);clear hc e4 bc h6 f6 hx bz a5 ca a4 hP nC l4 ev d6 m1;go_upto_region 35 with (fail)
    generalize od:(wq.alloc (FG #[FD U t.cols.length V,FD Bt t.rows.length dt] 54))=yq at jx dv lf en ch lp it ⊢;have r0:yq.cell? ⟨wq.heap.size,0,none⟩=some (FD U t.cols.length V):=en.out.cell 0;have r1:yq.cell? ⟨wq.heap.size,1,none⟩=some (FD Bt t.rows.length dt):=en.out.cell 1;have r2:=lp.out;have r3:yq.cell? ⟨F1,2,none⟩=some (FD (some ⟨g,0,none⟩) f.outs.length c2):=it.out;have pg:=fun p:KW yq=>jx.out p.w p.k
    have p3:wq.heap.size<yq.heap.size:=en.out.lt;have q5:F1<yq.heap.size:=Fq _ _ r3;have m8:g<yq.heap.size:=Fq _ _ r2;clear od br q7 pb d1 d2 q3;refine ah (by kernel_rfl) (by kernel_rfl) ?_;repeat (go_big_quiet_step (first|with_reducible exact KW.of dv.out _|with_reducible exact KW.of lf.out _))
    refine wpQuiet_nil ?_;intro wx kx;have pw:=Fk (ch.out.trans kx);clear r0 r1 r2 r3 p3 q5 m8 pg kx;go_wp2;go_roundw
    case rel=>exact ⟨j+1,by omega,by go_num,pw⟩
    case measure=>simp[intOf];omega
   have fn:¬(j:Int)<(f.outs.length:Int):=by omega
   have n4:=Fk (d4.out.trans bq.out);go_wp2;go_ret;exact ⟨rfl,n4.out⟩
  case hMore =>
   intro k v' z2 h7 nt a5 e5 c5 cv fS rg;have b5:Hid (aa [] y8 z2):=Fk (((ih.out.of_nil.trans cm.out).trans cv).weaken fun x hx hl=>by rw[List.mem_singleton] at hx;have:=j1.out;omega);obtain ⟨t,bc,oZ⟩:∃ t,a.lookup k=some t∧pL y8 v' t:=by
    rcases mh.out.look k with ⟨h,_⟩|⟨v1,t,h1,h2,h3⟩
    ·rw[a5] at h;cases h
    rw[a5] at h1;cases h1
    exact ⟨t,h2,h3⟩
   obtain ⟨v2,hB,i3⟩:∃ v2,ks.lookup k=some v2∧pL y8 v2 t:=by
    rcases q4.out.look k with ⟨_,h⟩|⟨v1,t',h1,h2,h3⟩
    ·rw[bc] at h;cases h
    rw[bc] at h2;cases h2
    exact ⟨v1,h1,h3⟩
   have ni:k.length≤1000:=pe.out (k,t) (gp bc);obtain ⟨U,V,Bt,dt,rfl,bz⟩:=oZ;obtain ⟨As,cs,hX,ds,rfl,lG⟩:=i3;have q3:=(o5.out.keep (b5.out.alloc (FG #[FD U t.cols.length V,FD Bt t.rows.length dt] 54)) (by simp)).getT k ni;rw[hB] at q3;simp only[Option.getD_some] at q3;have m4:Hid (Calls Tryz.prog 12 #[.agg #[FD As t.cols.length cs,FD hX t.rows.length ds],.agg #[FD U t.cols.length V,FD Bt t.rows.length dt]] (z2.alloc (FG #[FD U t.cols.length V,FD Bt t.rows.length dt] 54)) fun e w'=>e=FF (.bool true)∧aa [] (z2.alloc (FG #[FD U t.cols.length V,FD Bt t.rows.length dt] 54)) w'):=Fk (by
    have h:=zH t t As hX U Bt cs ds V dt (z2.alloc (FG #[FD U t.cols.length V,FD Bt t.rows.length dt] 54)) (lG.quiet (b5.out.alloc _)).rdT (bz.quiet (b5.out.alloc _)).rdT;rw[decide_eq_true rfl] at h;exact h)
   have hH:=Fk e5;have ch:=Fk (cm.out.trans cv);have c9:z.rangeLeft ba r=fb:=dB.out.left_eq;have pk:Hid (h7<z.rangeLeft ba r):=Fk (by rw[c9];exact c5);clear nt a5 e5 c5 cv fS bc hB bz lG c9 cm dB;go_wp2_with fail
   refine m4.out.mono ?_;rintro e z3 ⟨rfl,k3⟩;have M:aa [] z2 z3:=((Fz _ _).alloc _).trans k3;have e8:=Fk (hH.out.kept M (by simp) (by simp));have hZ:=Fk (ch.out.trans M.of_nil);have eX:z3.rangeLeft ba r<z.rangeLeft ba r:=by rw[e8.out.left_eq];exact pk.out
   have hK:=Fk eX;clear k3 eX M;go_wp2;go_roundw
   case rel=>exact ⟨_,_,e8,hZ⟩
   case measure=>exact hK.out
 -- BEGIN bad
 rw[ha] at a7;rw[N] at a8;obtain ⟨rfl,rfl,rfl⟩:=a7.out;obtain ⟨rfl,rfl,rfl⟩:=a8.out;have q1:(ex.1==0)=false:=by rw[beq_eq_false_iff_ne];exact i9
 have q2:(ey.1==0)=false:=by rw[beq_eq_false_iff_ne];exact lj
 have d7:=run_range_nilMap (P:=Tryz.prog) y8 22 9 54 Tryz.underlying22;have bm:∀ ty,(Instr.next (FE (some ⟨y8.heap.size,0,none⟩)) false ty).run Tryz.prog (y8.alloc (.mapIter none 0 #[] 0))=_:=fun ty=>run_next_nilMap y8 ty 0 0 #[]
 have g5:∀ ty,(Builtin.len_ #[22] ty #[.map none]).run Tryz.prog y8= .ok (FH FI 0) y8:=fun ty=>Maps.len_nil Tryz.underlying22 ty
 have d4:=Fk (el.out.trans ci.out);have nc:(ex.2<0∧ey.2<0)∨(¬ex.2<0∧¬ey.2<0):=by
  by_cases h:ex.2<0
  ·exact .inl ⟨h,gi.1 h⟩
  exact .inr ⟨h,fun h'=>h (gi.2 h')⟩
 clear ha N gi c4 a7 a8;rcases nc with ⟨s1,s2⟩|⟨s1,s2⟩
 all_goals
  go_wp2_with fail
  go_loopw [130] (fun _ wr=>wr=y8.alloc (.mapIter none 0 #[] 0)) (fun _ _=>0)
  case atStart=>rfl
  subst hrel;go_wp2_with fail
  have r6:(y8.alloc (.mapIter none 0 #[] 0)).cell? ⟨F1,2,none⟩=some (FD A2 f.outs.length c2):=(cu.out.alloc _).cell 2;have rv:(y8.alloc (.mapIter none 0 #[] 0)).cell? ⟨FX,0,none⟩=some (FH FI ex.1):=(g4.out.alloc _).cell 0;go_loopw [23] (fun i wr=>i=FH FI 0∧wr=y8.alloc (.mapIter none 0 #[] 0)) (fun _ _=>0)
  case atStart=>exact ⟨rfl,rfl⟩
  obtain ⟨rfl,rfl⟩:=hrel;by_cases rn:0<f.outs.length
  ·go_wp2
   go_ret;exact ⟨rfl,d4.out.alloc _⟩
  go_wp2;go_ret;exact ⟨rfl,d4.out.alloc _⟩
end
section
open Go.RowKit Go.Shelf Go.ChangeShapes Go.WideShapes
namespace Etn
theorem env {W:World} (h:laidMetH Tryz.prog Rows.evalTurnsRow.laid W) (H:W.ShapedOpen Tryz.prog):jW W∧mi W∧iJ W:=by
 have D:=wk (hd:=("errors.errorType",Rows.laid_errors_errorType)) (by kernel_rfl) h;exact ⟨CU (by kernel_rfl) (by kernel_rfl) (by kernel_rfl) (by kernel_rfl) (by kernel_rfl) D.1 H,⟨CX (by kernel_rfl) (by kernel_rfl) (by kernel_rfl) (by kernel_rfl) D.1 H,⟨ut (gF "foreman/ops.compares" Rows.laid_foreman_ops_compares (by kernel_rfl) D.1)⟩⟩,zx (List.mem_singleton.2 rfl) D.2⟩
theorem BI (os:Os) (args:Array Value):laidMetH Tryz.prog Rows.evalTurnsRow.laid ((ur os).forCall (fun _ _=>0) ⟨#[],args,[]⟩).memory :=
 laidMetH_of_parts3 (fuel:=8) (laidMet_of_run' 8 (by kernel_rfl) (by kernel_rfl)) (by kernel_rfl) (by kernel_rfl)
theorem Er (os:Os) (I:os.Started) (H:Type) (enc:TypeId×Value→H) :
  ReturnsInHanded {} Tryz.checked os 3 .any (fun w args=>(Rows.evalTurnsSpec.pre enc Tryz.prog Tryz.f3 [] false w args∧laidMetH Tryz.prog Rows.evalTurnsRow.laid w)∧sizedMet enc Tryz.prog Tryz.f3 (OpenSpec.ofChange Rows.evalTurnsSpec) false w args)
   (Rows.evalTurnsSpec.post enc Tryz.prog Tryz.f3 false true false false):=by
 refine pJ (C:=Tryz.checked) (X:=fun w _=>laidMetH Tryz.prog Rows.evalTurnsRow.laid w) (fun _ _ _ hh h=>h.of_heap hh) Fr.own I (by kernel_rfl) Tryz.func3
  (ChangeSpec.witness_shaped (enc:=enc) (C:=Tryz.checked) (os:=os) (X:=fun w _=>laidMetH Tryz.prog Rows.evalTurnsRow.laid w) false (ur os) #[.string ⟨#[]⟩,.map none,.int .i64 0] 8 rfl (World.shaped_of_RefB (by kernel_rfl) (by kernel_rfl)) (by kernel_rfl) (by kernel_rfl) (by kernel_rfl) (BI os _)) ?_
 intro W base args ds gs U M hW hL J;have D:∀ (j:Nat) t v,Tryz.f3.params[j]? = some t→args[j]? = some v→Value.okWide Tryz.prog W .any base t v:=M
 have hW':=hW;obtain ⟨p,q,ad,hV,rfl,a0,aA⟩:=hW;have hA:DataW.TrodAll enc Tryz.prog W 0 (fun _=>true) true Tryz.f3.params.toList args.toList ds p:=ad;rw[Tryz.params3] at hA D;obtain ⟨v0,v1,v2,d0,d1,d2,p0,p1,p2,rfl,rfl,rfl,h0,h1,h2⟩:=trodAll_three hA;obtain ⟨rfl,rfl⟩:=trodVars_none hV;have Z:∀ x∈p0,x.block<W.heap.size:=by obtain ⟨m,N⟩:=h0;exact DataW.trod_lt m _ _ _ N
 have av:∀ x∈p1,x.block<W.heap.size:=by obtain ⟨m,N⟩:=h1;exact DataW.trod_lt m _ _ _ N
 have V:∀ x∈p2,x.block<W.heap.size:=by obtain ⟨m,N⟩:=h2;exact DataW.trod_lt m _ _ _ N
 have g0:=h0;obtain ⟨s,rfl,-,-,-⟩:=Go.ChangeMaps.open_string Tryz.underlying9 (D 0 _ v0 rfl rfl) g0;have g1:=h1;have mh:=xx (D 1 _ v1 rfl rfl) g1;have g2:=h2;obtain ⟨n,rfl,-⟩:=open_int Tryz.underlying3 (D 2 _ v2 rfl rfl) g2;refine (EU s.data.toList v1 n W (env hL J).1 (env hL J).2.1 (env hL J).2.2 mh).mono fun ev W' ⟨he,O⟩=>?_
 subst he;have k0:=aa.trod Fr.laidOut (by kernel_rfl) (of_decide_eq_true (by kernel_rfl)) h0 O Z;have k1:=aa.trod Fr.laidOut (by kernel_rfl) (of_decide_eq_true (by kernel_rfl)) h1 O av;have k2:=aa.trod Fr.laidOut (by kernel_rfl) (of_decide_eq_true (by kernel_rfl)) h2 O V;exact ⟨_,rfl,_,_,_,[],_,[],hW',trodAll_mk1 (shut_bool Tryz.underlying4 _),trodAll_mk3 k0 k1 k2,rfl,O.frame _,fun h=>by cases h⟩
theorem said:Rows.EvalTurnsSaid :=
 OpenClaim.holds_of_wide 3 Tryz.f3 rfl rfl rfl rfl rfl rfl rfl ⟨rfl,rfl,rfl,rfl,rfl⟩ rfl rfl rfl rfl rfl (by kernel_rfl) Tryz.func3 (by kernel_rfl)
  (of_decide_eq_true (by kernel_rfl)) (by unfold Func.isWrapper;rw[if_neg (of_decide_eq_false (by kernel_rfl))];exact ⟨rfl,rfl⟩)
  (fun os h H enc _=>Er os h H enc)
end Etn
end
end Go.Proofs.YtecpeogejjibaaaGreatDoor
