/- ops.Do at every job; one at every job of one output. Tables in memory, behind names: what eval.Run keeps, is given, and hands back. foremankeep.given. eval.Run. foremankeep.evaluated: a closed flow through eval.Run. Words of the laws of eval: what is given, what is handed back. EvalMore: its walk. EvalMore: the law, whole. -/
import Derived.Test.YtecpeogejjibaaaGreatDoorEmoM17
import Derived.Test.YtecpeogejjibaaaGreatDoorEmoM12
import Derived.Test.YtecpeogejjibaaaGreatDoorEmoM18
import Derived.Test.YtecpeogejjibaaaGreatDoorEmoM8
import Derived.Test.YtecpeogejjibaaaGreatDoorEmoM14
import Derived.Test.YtecpeogejjibaaaGreatDoorEmoM3
import Derived.Test.YtecpeogejjibaaaGreatDoorEmoM13
import Derived.Test.YtecpeogejjibaaaGreatDoorEmoM2
import Derived.Laws.IdiomRangeMap
import Derived.Test.YtecpeogejjibaaaGreatDoorEmoM6
import Derived.Test.YtecpeogejjibaaaGreatDoorEmoM19
import Derived.Test.YtecpeogejjibaaaGreatDoorEmoM5
import Derived.ChangeMaps5
set_option linter.unusedSimpArgs false
set_option linter.unusedVariables false
set_option maxRecDepth 100000
set_option maxHeartbeats 16000000
namespace Go.Proofs.YtecpeogejjibaaaGreatDoor
open Go.Lib renaming hid → Fx
open _root_.Nat renaming le_refl → Fy, le_trans → FD, zero_le → FF
open _root_.List renaming length_append → Fz, getElem?_eq_getElem → FA, getElem_mem → FE, length_cons → FG, length_take → FH
open Go.World renaming news_of_block → FI
open aa renaming refl → FK
open ao renaming new → FL
open Go.Value renaming string → FM, slice → FN, pointer → FO, int → FR
open Go.Ending renaming returned → FP
open Go.Obj renaming cells → FQ
open Go.IntKind renaming i64 → FS
section
open Go.RowKit
theorem Cx {j:Jb} {ins:List (List Cl)} {out:List (List Cl)} (I:j.code=4) (h:aL j ins= .ok out):cw j (ins.getD 0 [])= .ok out:=by
 unfold aL at h;by_cases D:(au j.code).1=0∨ins.length≠(au j.code).1∨j.outs.length≠(au j.code).2
 ·rw[if_pos D] at h;cases h
 rw[if_neg D,if_neg (by omega),if_neg (by omega),if_pos (.inr I)] at h;exact h
theorem Cy {j:Jb} {ins:List (List Cl)} {out:List (List Cl)} (I:j.code=7) (h:aL j ins= .ok out):dj j (ins.getD 0 []) (ins.getD 1 [])= .ok out:=by
 unfold aL at h;by_cases D:(au j.code).1=0∨ins.length≠(au j.code).1∨j.outs.length≠(au j.code).2
 ·rw[if_pos D] at h;cases h
 rw[if_neg D,if_neg (by omega),if_neg (by omega),if_neg (by omega),if_neg (by omega),if_pos I] at h;exact h
theorem Cz {j:Jb} {ins:List (List Cl)} {out:List (List Cl)} (I:j.code=8) (h:aL j ins= .ok out):cI j (ins.getD 0 [])= .ok out:=by
 unfold aL at h;by_cases D:(au j.code).1=0∨ins.length≠(au j.code).1∨j.outs.length≠(au j.code).2
 ·rw[if_pos D] at h;cases h
 rw[if_neg D,if_neg (by omega),if_neg (by omega),if_neg (by omega),if_neg (by omega),if_neg (by omega),if_pos I] at h;exact h
theorem pp {w:World} {J:Option Addr} {x y:Bs} (h:Rd w [] 1 J 2 (strs [x,y])):∃ I D,J=some ⟨I,D,none⟩∧w.cell? ⟨I,D,none⟩=some (FM (bs x))∧w.cell? ⟨I,D+1,none⟩=some (FM (bs y)):=by
 obtain ⟨b,o,e,_,_,M⟩:=h.open' (by omega) (by omega);exact ⟨b,o,e,M 0 _ rfl,M 1 _ rfl⟩
theorem Em (j:Jb) (a0:j.code=4∨j.code=7∨j.code=8) (Ao:Option Addr) (co:Nat) (Ai:Option Addr) (ni ci:Nat) (Ac:Option Addr) (cc:Nat) (ins:List Tb) (AT:Option Addr) (ct:Nat) (w:World) (hE:mf w) (hJ:gT w j Ao co Ac cc) (hI:eE w AT ins) (hB:∀ t∈ins,AI t) (a4:∀ t∈ins,t.cols.length≤4294967) (hl:ins.length≤4294967296) :
  Calls Tryz.prog 24 #[eM j Ao co Ai ni ci Ac cc,FN AT ins.length ct] w fun e w'=>qE (j5 j ins) e w'∧aa [] w w':=by
 refine rS j Ao co Ai ni ci Ac cc ins AT ct w hI hB hl (fun W q AH ch hH=>?_) (fun out hr hc W q OA od=>?_)
 ·refine lY j Ao co Ai ni ci Ac cc (ins.map (·.cols)) AH ch W (hE.quiet q).c (hJ.quiet q) hH (fun l hm=>?_)
  obtain ⟨t,ht,rfl⟩:=List.mem_map.1 hm;exact a4 t ht
 have O:=pf hc;rw[List.length_map] at O;have ad:=hJ.cols.keep q;have a1:=hJ.cc;rcases a0 with h4|h7|h8
 ·have h1:ins.length=1:=by rw[O,h4];rfl
  obtain ⟨t,rfl⟩:∃ t,ins=[t]:=by
   match ins,h1 with
   | [t],_=>exact ⟨t,rfl⟩
  have D:ak t=true:=hr t (by simp);obtain ⟨⟨_,ba,a6,_⟩,_⟩:=fH.1 (Cx h4 hc);obtain ⟨b,o,A1,c1,A2,c2,rfl,Z,U,hT⟩:=(hI.keep q).first (k:=0) (by simp) rfl (hB t (by simp));rw[Nat.zero_mul,Nat.add_zero] at Z U;have N:bp j [t] out= .ok [cN t j.cols]:=by
   unfold bp;simp only;rw[if_pos h4];rfl
  rw[N];have a7:=hJ.lc;have:=aY D;obtain ⟨J,code,outs,js,cols,op,⟨lc,lk,ln,lw⟩,⟨rc,rk,rn,M⟩,h⟩:=j;simp only at h4;subst h4;exact Ee t cols Ac OA out.length od b o 1 ct A1 A2 c1 c2 J h lk ln rk rn outs op lc lw rc M Ao co Ai ni ci cc W Z U hT (by omega) ad a7 a6 (gh D) (by omega)
 ·have h1:ins.length=2:=by rw[O,h7];rfl
  obtain ⟨t,u,rfl⟩:∃ t u,ins=[t,u]:=by
   match ins,h1 with
   | [t,u],_=>exact ⟨t,u,rfl⟩
  have D:ak t=true:=hr t (by simp);have av:ak u=true:=hr u (by simp);obtain ⟨x,y,k,m,I,hk,hm,_⟩:=qM (Cy h7 hc);have hk':an t.cols x=some k:=hk;have hm':an u.cols y=some m:=hm;obtain ⟨b,o,A1,c1,A2,c2,rfl,Z,U,hT⟩:=(hI.keep q).first (k:=0) (by simp) rfl (hB t (by simp));obtain ⟨b',o',A3,c3,A4,c4,aA,d2,d3,hU⟩:=(hI.keep q).first (k:=1) (by simp) rfl (hB u (by simp));injection aA with aA;injection aA with hb ho _;subst hb ho;rw[Nat.zero_mul,Nat.add_zero] at Z U;have N:bp j [t,u] out= .ok [bO k m t.rows u.rows]:=by
   unfold bp;simp only;rw[if_neg (by omega),if_pos h7,I];show Except.ok [bO (eg t.cols x) (eg u.cols y) t.rows u.rows]=_;rw[mM hk',mM hm']
  rw[N];have b1:=aY D;have b2:=aY av;have b3:=(jE D).2.1;have b4:=(jE av).2.1;obtain ⟨J,code,outs,js,cols,op,⟨lc,lk,ln,lw⟩,⟨rc,rk,rn,M⟩,h⟩:=j;simp only at h7 I;subst h7 I;obtain ⟨bc,oc,rfl,s0,s1⟩:=pp ad;exact Eg t u x y k m hk' hm' A3 A4 c3 c4 bc oc OA out.length od b o 2 ct A1 A2 c1 c2 J h lk ln rk rn outs op lc lw rc M Ao co Ai ni ci cc W Z U hT (by omega) s0 s1 d2 d3 hU (gh D) (gh av) (by omega) (by omega) (by omega) (by omega)
 have h1:ins.length=1:=by rw[O,h8];rfl
 obtain ⟨t,rfl⟩:∃ t,ins=[t]:=by
  match ins,h1 with
  | [t],_=>exact ⟨t,rfl⟩
 have D:ak t=true:=hr t (by simp);obtain ⟨x,y,k,m,I,_,hk,hm,a9,_⟩:=pm (Cz h8 hc);have hk':an t.cols x=some k:=hk;have hm':an t.cols y=some m:=hm;obtain ⟨b,o,A1,c1,A2,c2,rfl,Z,U,hT⟩:=(hI.keep q).first (k:=0) (by simp) rfl (hB t (by simp));rw[Nat.zero_mul,Nat.add_zero] at Z U;have N:bp j [t] out=AR (pV (aM j.op k m (cN t [x]))):=by
  unfold bp pV;simp only;rw[if_neg (by omega),if_neg (by omega),if_pos h8,I];show (if ((aM j.op (eg t.cols x) (eg t.cols y) (cN t [x])).any fun p=> !eS p.2)=true then Except.error 2 else Except.ok [dO (aM j.op (eg t.cols x) (eg t.cols y) (cN t [x]))])=_;rw[mM hk',mM hm'];split<;>rfl
 rw[N];have b1:=aY D;obtain ⟨a5,_,_⟩:=dL.1 hm';have hki':(t.cols.getD m zC).kind=1:=a9;obtain ⟨J,code,outs,js,cols,op,⟨lc,lk,ln,lw⟩,⟨rc,rk,rn,M⟩,h⟩:=j;simp only at h8 I;subst h8 I;obtain ⟨bc,oc,rfl,s0,s1⟩:=pp ad;exact Ef t x y k m hk' hm' bc oc OA out.length od b o 1 ct A1 A2 c1 c2 J h lk ln rk rn outs op lc lw rc M Ao co Ai ni ci cc W Z U hT (by omega) (by simpa using a1) s0 s1 (gh D) (fun r a8=>by
  obtain ⟨_,a2,a3⟩:=po D a8 a5;have:=rG a2 (a3.trans hki');exact ⟨this.1,this.2.1⟩) (by omega)
theorem CB (j:Jb) (h:Option Addr) (D:Nat) (J:Option Addr) (N M:Nat) (I:Option Addr) (cc:Nat) (ins:List Tb) (O:Option Addr) (U:Nat) (w:World) (hE:mf w) (hJ:gT w j h D I cc) (hI:eE w O ins) (hB:∀ t∈ins,AI t) (Z:∀ t∈ins,t.cols.length≤4294967) (hl:ins.length≤4294967296) :
  Calls Tryz.prog 24 #[eM j h D J N M I cc,FN O ins.length U] w fun e w'=>qE (j5 j ins) e w'∧aa [] w w':=by
 by_cases h1:j.code=1∨j.code=9
 ·exact Ej j h1 h D J N M I cc ins O U w hE hJ hI hB hl
 by_cases h2:j.code=2∨j.code=3∨j.code=5∨j.code=6
 ·exact Cv j h2 h D J N M I cc ins O U w hE hJ hI hB hl
 by_cases h3:j.code=4∨j.code=7∨j.code=8
 ·exact Em j h3 h D J N M I cc ins O U w hE hJ hI hB Z hl
 refine rS j h D J N M I cc ins O U w hI hB hl (fun W q AH ch hH=>?_) (fun out hr hc W q OA od=>?_)
 ·refine lY j h D J N M I cc (ins.map (·.cols)) AH ch W (hE.quiet q).c (hJ.quiet q) hH (fun l hm=>?_)
  obtain ⟨t,ht,rfl⟩:=List.mem_map.1 hm;exact Z t ht
 unfold aL at hc;rw[if_pos] at hc
 ·cases hc
 left
 unfold au;rw[if_neg (by omega),if_neg (by omega),if_neg (by omega)]
end
section
open Go.RowKit Go.BigFrame
attribute [local go_sem] ag ab ae af
def qQ (W:World) (v:Value) (t:Tb):Prop:=∃ A c B d,v= .agg #[.slice A t.cols.length c,.slice B t.rows.length d]∧aZ W t A B c d
def Ba:Value:= .agg #[.slice none 0 0,.slice none 0 0]
theorem aZ.e0 (W:World):aZ W qN none none 0 0:=⟨Rd.nil,Fy _,⟨[],rfl,Rd.nil,fun i h=>absurd h (by simp)⟩,Fy _,fun x I=>(by cases I),by decide,by decide,fun r D=>(by cases D)⟩
theorem qQ.e0 (W:World):qQ W Ba qN:=⟨none,0,none,0,rfl,aZ.e0 W⟩
theorem qQ.keep {W W':World} {v:Value} {t:Tb} (h:qQ W v t) (D:aa [] W W'):qQ W' v t:=by
 obtain ⟨A,c,B,d,I,J⟩:=h;exact ⟨A,c,B,d,I,J.quiet D⟩
theorem fJ.keepM {W W':World} {b:Nat} {u:Value} {r:List Vl} {I:Array MapEntry} {cl:Nat} (J:W.heap[b]? = some (.map I cl)) (D:aa [b] W W') (h:fJ W [] u r):fJ W' [] u r:=by
 obtain ⟨A,c,e,M,h⟩:=h;exact ⟨A,c,e,M,h.keepM J D (by decide)⟩
theorem cM.keepM {W W':World} {b:Nat} {A:Option Addr} {I:List (List Vl)} {M:Array MapEntry} {cl:Nat} (J:W.heap[b]? = some (.map M cl)) (D:aa [b] W W') (h:cM W [] A I):cM W' [] A I:=by
 obtain ⟨us,O,U,N⟩:=h;exact ⟨us,O,U.keepM J D (by decide),fun i a b=>(N i a b).keepM J D⟩
theorem aZ.keepM {W W':World} {b:Nat} {t:Tb} {A B:Option Addr} {c d:Nat} {J:Array MapEntry} {cl:Nat} (I:W.heap[b]? = some (.map J cl)) (D:aa [b] W W') (h:aZ W t A B c d):aZ W' t A B c d :=
 ⟨h.cols.keepM I D (by decide),h.cc,h.rows.keepM I D,h.cd,h.names,h.ln,h.lm,h.lr⟩
theorem qQ.keepM {W W':World} {b:Nat} {v:Value} {t:Tb} {I:Array MapEntry} {cl:Nat} (J:W.heap[b]? = some (.map I cl)) (D:aa [b] W W') (h:qQ W v t):qQ W' v t:=by
 obtain ⟨A,c,B,d,M,N⟩:=h;exact ⟨A,c,B,d,M,N.keepM J D⟩
theorem pR.keepM {W W':World} {b:Nat} {u:Value×Value} {t:Tb} {es:Array MapEntry} {cl:Nat} (I:W.heap[b]? = some (.map es cl)) (D:aa [b] W W') (h:pR W u t):pR W' u t:=by
 obtain ⟨⟨A1,U,N,Z,M⟩,⟨B1,d1,J,h3,O⟩⟩:=h;exact ⟨⟨A1,U,N,Z,M.keepM I D (by decide)⟩,⟨B1,d1,J,h3,O.keepM I D⟩⟩
theorem eE.keepM {W W':World} {b:Nat} {A:Option Addr} {J:List Tb} {M:Array MapEntry} {cl:Nat} (I:W.heap[b]? = some (.map M cl)) (D:aa [b] W W') (h:eE W A J):eE W' A J:=by
 obtain ⟨us,O,U,N⟩:=h;exact ⟨us,O,U.keepM I D (by decide),fun i a b=>(N i a b).keepM I D⟩
theorem AI.ofRt {t:Tb} (h:ak t=true):AI t:=by
 obtain ⟨J,O,N,_⟩:=jE h;refine ⟨fun x M=>?_,by omega,by omega,fun r I=>by rw[gh h r I];omega⟩;obtain ⟨k,D,rfl⟩:=List.getElem_of_mem M;have:=xi (si J D).1;omega
theorem aZ.isT {W:World} {t:Tb} {A B:Option Addr} {c d:Nat} (h:aZ W t A B c d):pR W (.slice A t.cols.length c,.slice B t.rows.length d) t:=⟨⟨A,c,rfl,h.cc,h.cols⟩,⟨B,d,rfl,h.cd,h.rows⟩⟩
def kb (W:World):List (Bs×Value)→Tm→Prop
 | [],[]=>True
 | p::mv,q::m=>p.1=q.1∧qQ W p.2 q.2∧kb W mv m
 | _,_=>False
theorem kb.keep {W W':World} (D:aa [] W W'):∀ {mv:List (Bs×Value)} {m:Tm},kb W mv m→kb W' mv m
 | [],[],_=>trivial
 | _::_,_::_,h=>⟨h.1,h.2.1.keep D,kb.keep D h.2.2⟩
theorem kb.len {W:World}:∀ {mv:List (Bs×Value)} {m:Tm},kb W mv m→mv.length=m.length
 | [],[],_=>rfl
 | _::_,_::_,h=>congrArg (· + 1) h.2.2.len
theorem kb.fst {W:World}:∀ {mv:List (Bs×Value)} {m:Tm},kb W mv m→mv.map (·.1)=m.map (·.1)
 | [],[],_=>rfl
 | p::mv,q::m,h=>by rw[List.map_cons,List.map_cons,h.1,h.2.2.fst]
theorem kb.look {W:World} (n:Bs):∀ {mv:List (Bs×Value)} {m:Tm},kb W mv m→(mv.lookup n=none∧m.lookup n=none)∨∃ v c,mv.lookup n=some v∧m.lookup n=some c∧qQ W v c
 | [],[],_=> .inl ⟨rfl,rfl⟩
 | p::mv,q::m,h=>by
  obtain ⟨I,N⟩:=p;obtain ⟨q1,q2⟩:=q;obtain ⟨e,J,M⟩:=h;simp only at e;subst e;rw[List.lookup_cons,List.lookup_cons];by_cases D:n=I
  ·subst D
   simp only[beq_self_eq_true];exact .inr ⟨_,_,rfl,rfl,J⟩
  have:(n==I)=false:=by simpa using D
  rw[this];exact kb.look n M
theorem kb.get {W:World} {mv:List (Bs×Value)} {m:Tm} (h:kb W mv m) (n:Bs):qQ W ((mv.lookup n).getD Ba) (getT m n):=by
 unfold getT;rcases h.look n with ⟨D,I⟩|⟨v,c,D,I,J⟩
 ·rw[D,I];exact qQ.e0 W
 rw[D,I];exact J
theorem kb.keepM {W W':World} {b:Nat} {J:Array MapEntry} {cl:Nat} (I:W.heap[b]? = some (.map J cl)) (D:aa [b] W W'):∀ {mv:List (Bs×Value)} {m:Tm},kb W mv m→kb W' mv m
 | [],[],_=>trivial
 | _::_,_::_,h=>⟨h.1,h.2.1.keepM I D,kb.keepM I D h.2.2⟩
theorem bI.getT {w:World} {b:Nat} {mv:List (Bs×Value)} (h:bI Tryz.prog 9 w b mv) (k:Bs) (D:k.length≤1000):(Instr.lookup 22 (.map (some b)) (.string (bs k)) false).run Tryz.prog w= .ok ((mv.lookup k).getD Ba) w :=
 bI.look0 h (T:=22) (E:=54) Tryz.underlying22 Tryz.underlying9 (by kernel_rfl) k (by simp only[maxLen];omega)
theorem bI.putT {w:World} {b:Nat} {mv:List (Bs×Value)} (h:bI Tryz.prog 9 w b mv) (k:Bs) (v:Value) (D:k.length≤1000) (I:mv.length≤1000000000000000):∃ w',(Instr.mapUpdate 22 (.map (some b)) (.string (bs k)) v).run Tryz.prog w= .ok () w'∧bI Tryz.prog 9 w' b ((k,v)::mv)∧w.grownBy w' (some b) :=
 bI.store h (T:=22) (E:=54) Tryz.underlying22 Tryz.underlying9 k v (by simp only[maxLen];omega) (by simp only[maxLen];omega)
def nf (w:World) (v:Value) (gv:Bs→Option Tb):Prop:=∀ W,aa [] w W→∀ n:Bs,n.length≤1000→∃ A c B d,(Instr.lookup 22 v (.string (bs n)) true).run Tryz.prog W= .ok (.tuple #[.agg #[.slice A ((gv n).getD qN).cols.length c,.slice B ((gv n).getD qN).rows.length d],.bool (gv n).isSome]) W∧aZ W ((gv n).getD qN) A B c d
theorem nf.keep {w w':World} {v:Value} {gv:Bs→Option Tb} (h:nf w v gv) (D:aa [] w w'):nf w' v gv:=fun W z=>h W (D.trans z)
structure jX (w:World) (X b:Nat) (v0 v1 v2:Value) (mv:List (Bs×Value)) (m:Tm) (W:World):Prop where
 k:aa [] w W
 fb:ao W X 29 #[v0,v1,v2]
 rb:ao W (X+1) 39 #[.int .i64 0,.int .i64 0]
 mp:bI Tryz.prog 9 W b mv
 cv:kb W mv m
 hb:w.heap.size≤b
 xb:X≠b∧X+1≠b
theorem jX.keep {w W W':World} {X b:Nat} {J M I:Value} {mv:List (Bs×Value)} {m:Tm} (h:jX w X b J M I mv m W) (D:aa [] W W'):jX w X b J M I mv m W' :=
 ⟨h.k.trans D,h.fb.keep D (by simp),h.rb.keep D (by simp),h.mp.keep D (by simp),h.cv.keep D,h.hb,h.xb⟩
theorem jX.put {w W W':World} {X b:Nat} {N M J:Value} {mv:List (Bs×Value)} {m:Tm} (h:jX w X b N M J mv m W) {n:Bs} {v:Value} {t:Tb} (Z:qQ W v t) (U:bI Tryz.prog 9 W' b ((n,v)::mv)) (D:aa [b] W W'):jX w X b N M J ((n,v)::mv) ((n,t)::m) W':=by
 obtain ⟨es,cl,I⟩:=h.mp.isM;exact ⟨h.k.trans' D (fun x O hl=>by rw[List.mem_singleton.1 O] at hl;exact absurd h.hb (by omega)),h.fb.keep D (by simpa using h.xb.1),h.rb.keep D (by simpa using h.xb.2),U,⟨rfl,Z.keepM I D,h.cv.keepM I D⟩,h.hb,h.xb⟩
def tY (R:Except (Int×Int) Tm) (base:Nat) (e:Ending) (w':World):Prop:=match R with
 | .ok o=>∃ b mv,e= .returned (.tuple #[.map (some b),.agg #[.int .i64 0,.int .i64 (-1)]])∧bI Tryz.prog 9 w' b mv∧kb w' mv o∧base≤b
 | .error x=>e= .returned (.tuple #[.map none,.agg #[.int .i64 x.1,.int .i64 x.2]])
theorem lH {P:Program} {I:Func} {p u:Tmp} {J:TypeId} (h:I.results= #[.tmp u,.cell p J]) (D:Array Value) (w:World) :
  (results I D).run P w=((asAddr (D.getD p undef)).run P w).andThen fun a N=>((loadVar J a).run P N).andThen fun v M=> .ok (.tuple #[D.getD u undef,v]) M:=by
 simp only[results,h];simp[Sem.run_bind,Result.andThen]
theorem cf {P:Program} {J:Func} {p u:Tmp} {I:TypeId} (h:J.results= #[.tmp u,.cell p I]) (D:Array Value) (w:World) (g:Nat) (t:TypeId) (cs:Array Value) (M:Nat×Nat) (d:TypeDesc)
  (O:D.getD p undef= .pointer (some ⟨g,0,none⟩)) (U:w.heap[g]? = some (.cells cs t M))
  (N:P.underlying I=some d) (hd:(match d with | .struct _ | .array _ _=>true|_=>false)=true) (Z:(P.info? I).map (·.size)=some cs.size) :
  (results J D).run P w= .ok (.tuple #[D.getD u undef,.agg cs]) w:=by
 rw[lH h,O];simp[asAddr,run_loadVar_row w g t I cs M d U N hd Z,Result.andThen]
theorem iH {w W:World} {X:Nat} {a b:Value} (M:ao W (X+1) 39 #[a,b]) (J:aa [] w W) (I:w.heap.size≤X+1) (h D:Value):ao ((W.setCell ⟨X+1,0,none⟩ h).setCell ⟨X+1,1,none⟩ D) (X+1) 39 #[h,D]∧aa [] w ((W.setCell ⟨X+1,0,none⟩ h).setCell ⟨X+1,1,none⟩ D) :=
 ⟨((M.set 0 h).set 1 D).congr rfl,(J.setCell (.inr I) _).setCell (.inr I) _⟩
theorem yR {W:World} {g k:Nat} {I:TypeId} {a b:Int} {u:Value} (D:ao W g I #[.int .i64 a,.int .i64 b]) (h:W.cell? ⟨g,k,none⟩=some u):∃ i,u= .int .i64 i:=by
 unfold ao at D;unfold World.cell? at h;rw[D] at h;rcases k with _|_|k
 ·simp at h;exact ⟨_,h.symm⟩
 ·simp at h;exact ⟨_,h.symm⟩
 simp at h
theorem Rd.keepF {W W':World} {g size n:Nat} {ty:TypeId} {a b:Int} {A:Option Addr} {xs:List Value} (Z:ao W g ty #[.int .i64 a,.int .i64 b]) (N:aa [g] W W') (hs:0<size) (hx:0<n→∃ (j:Nat) (u:Value),xs[j]? = some u∧∀ i,u≠ .int .i64 i) (h:Rd W [] size A n xs):Rd W' [] size A n xs:=by
 refine ⟨h.1,fun M=>?_⟩;obtain ⟨ad,e,h1,O,h3⟩:=h.2 M;obtain ⟨b2,o2,D,_,_,h4⟩:=Rd.open' h M hs;rw[e] at D;injection D with D;subst D;have I:b2≠g:=fun hh=>by
  subst hh;obtain ⟨j,u,U,J⟩:=hx M;obtain ⟨i,hi⟩:=yR Z (h4 j u U);exact J i hi
 exact ⟨_,e,h1,Nat.lt_of_lt_of_le O N.size,fun j u J=>(N.cell (by rw[cZ];exact O) (by rw[cZ];simpa using I)).trans (h3 j u J)⟩
theorem fJ.keepF {W W':World} {g:Nat} {M:TypeId} {a b:Int} {u:Value} {r:List Vl} (J:ao W g M #[.int .i64 a,.int .i64 b]) (D:aa [g] W W') (h:fJ W [] u r):fJ W' [] u r:=by
 obtain ⟨A,c,e,O,h⟩:=h;exact ⟨A,c,e,O,h.keepF J D (by decide) fun I=>⟨_,_,(ay r 0 I).2.2,fun i N=>by cases N⟩⟩
theorem cM.keepF {W W':World} {g:Nat} {ty:TypeId} {a b:Int} {A:Option Addr} {M:List (List Vl)} (I:ao W g ty #[.int .i64 a,.int .i64 b]) (D:aa [g] W W') (h:cM W [] A M):cM W' [] A M:=by
 obtain ⟨us,h1,U,N⟩:=h;refine ⟨us,h1,U.keepF I D (by decide) fun Z=>?_,fun i a b=>(N i a b).keepF I D⟩;have J:0<us.length:=by omega
 obtain ⟨A',c',e,-,-⟩:=N 0 J Z;exact ⟨0,us[0],FA J,fun i O=>by rw[e] at O;cases O⟩
theorem aZ.keepF {W W':World} {g:Nat} {M:TypeId} {a b:Int} {t:Tb} {A B:Option Addr} {c d:Nat} (I:ao W g M #[.int .i64 a,.int .i64 b]) (D:aa [g] W W') (h:aZ W t A B c d):aZ W' t A B c d :=
 ⟨h.cols.keepF I D (by decide) fun J=>⟨_,_,(aN t.cols 0 J).1,fun i N=>by cases N⟩,h.cc,h.rows.keepF I D,h.cd,h.names,h.ln,h.lm,h.lr⟩
theorem qQ.keepF {W W':World} {g:Nat} {J:TypeId} {a b:Int} {v:Value} {t:Tb} (I:ao W g J #[.int .i64 a,.int .i64 b]) (D:aa [g] W W') (h:qQ W v t):qQ W' v t:=by
 obtain ⟨A,c,B,d,M,N⟩:=h;exact ⟨A,c,B,d,M,N.keepF I D⟩
theorem kb.keepF {W W':World} {g:Nat} {J:TypeId} {a b:Int} (I:ao W g J #[.int .i64 a,.int .i64 b]) (D:aa [g] W W'):∀ {mv:List (Bs×Value)} {m:Tm},kb W mv m→kb W' mv m
 | [],[],_=>trivial
 | _::_,_::_,h=>⟨h.1,h.2.1.keepF I D,kb.keepF I D h.2.2⟩
theorem jX.fin {w W:World} {X b:Nat} {N O M:Value} {mv:List (Bs×Value)} {m:Tm} (h:jX w X b N O M mv m W) (D I:Value):bI Tryz.prog 9 ((W.setCell ⟨X+1,0,none⟩ D).setCell ⟨X+1,1,none⟩ I) b mv∧kb ((W.setCell ⟨X+1,0,none⟩ D).setCell ⟨X+1,1,none⟩ I) mv m:=by
 have J:aa [X+1] W ((W.setCell ⟨X+1,0,none⟩ D).setCell ⟨X+1,1,none⟩ I):=((FK [X+1] W).setCell (.inl (by simp)) _).setCell (.inl (by simp)) _;exact ⟨h.mp.keep J (by simpa using fun e=>h.xb.2 e.symm),h.cv.keepF h.rb J⟩
def kL (f:Fl) (r:Except (Int×Int) Tm):Except (Int×Int) Tm:=match r with
 | .error e=> .error e
 | .ok h=> .ok (fu f.outs h)
def gD (f:Fl) (r:Except (Int×Int) Tm):Except (Int×Int) Tm:=match r with
 | .error e=> .error e
 | .ok h=>match cG f with
  | .error e=> .error (e.1,-1)
  | .ok l=>kL f (df f l h)
def Bb (f:Fl) (gv:Bs→Option Tb) (r:Except (Int×Int) Cm):Except (Int×Int) Tm:=match r with
 | .error e=> .error (e.1,-1)
 | .ok _=>gD f (fX gv f.ins [])
theorem Bc (f:Fl) (gv:Bs→Option Tb):eF f gv=Bb f gv (cQ f):=by
 unfold eF Bb gD kL;rfl
def rT (gv:Bs→Option Tb) (l:List In) (x:In) (m:Tm) (o:Option Tb):Except (Int×Int) Tm:=match o with
 | none=> .error (7,-1)
 | some t=>if t.cols=x.cols∧ak t=true then fX gv l ((x.name,t)::m) else .error (13,-1)
theorem yS (gv:Bs→Option Tb) (x:In) (l:List In) (m:Tm):fX gv (x::l) m=rT gv l x m (gv x.name):=by
 unfold rT;rw[fX];cases gv x.name<;>rfl
def vL (f:Fl) (D:List Nat) (k:Nat) (x:Jb) (m:Tm) (r:Except Int (List Tb)):Except (Int×Int) Tm:=match r with
 | .error e=> .error (e,(k:Int))
 | .ok h=>df f D (putT x.outs h m)
theorem vM (f:Fl) (k:Nat) (h:List Nat) (m:Tm):df f (k::h) m=vL f h k (jb f k) m (j5 (jb f k) ((jb f k).ins.map (getT m))):=by
 unfold vL;rw[df];cases j5 (jb f k) (List.map (getT m) (jb f k).ins)<;>rfl
theorem yT (ns:List Bs) (cs:List Tb) (q:Nat) (h:q<ns.length) (h':q<cs.length) (m:Tm):putT (ns.drop q) (cs.drop q) m=putT (ns.drop (q+1)) (cs.drop (q+1)) ((ns[q],cs[q])::m):=by
 rw[List.drop_eq_getElem_cons h,List.drop_eq_getElem_cons h'];rfl
theorem Bd (ns:List Bs) (cs:List Tb) (q:Nat) (h:ns.length≤q) (m:Tm):putT (ns.drop q) (cs.drop q) m=m:=by
 rw[List.drop_of_length_le h];unfold putT;rfl
def tZ (m:Tm) (l:List Pb) (o:Tm):Tm:=l.foldl (fun o x=>(x.name,getT m x.src)::o) o
theorem pr (m:Tm) (x:Pb) (l:List Pb) (o:Tm):tZ m (x::l) o=tZ m l ((x.name,getT m x.src)::o):=rfl
def zv (m:Tm):Prop:=∀ p∈m,ak p.2=true
theorem zv.put {m:Tm} (h:zv m) {n:Bs} {t:Tb} (I:ak t=true):zv ((n,t)::m):=fun p D=>by
 rcases List.mem_cons.1 D with rfl|D
 ·exact I
 exact h p D
theorem ua {m:Tm} {n:Bs} {t:Tb} (h:m.lookup n=some t):∃ k,(k,t)∈m:=by
 induction m with
 | nil=>cases h
 | cons q m ih =>
  obtain ⟨a,b⟩:=q;rw[List.lookup_cons] at h;split at h
  ·injection h with h
   subst h;exact ⟨a,List.mem_cons_self ..⟩
  obtain ⟨k,D⟩:=ih h;exact ⟨k,List.mem_cons_of_mem _ D⟩
theorem zv.get {m:Tm} (h:zv m) (n:Bs):getT m n=qN∨ak (getT m n)=true:=by
 unfold getT
 cases I:m.lookup n with
 | none=>exact .inl rfl
 | some t =>
  obtain ⟨k,D⟩:=ua I;exact .inr (h _ D)
theorem zv.bnd {m:Tm} (h:zv m) (n:Bs):AI (getT m n)∧(getT m n).cols.length≤4294967:=by
 rcases h.get n with e|e
 ·rw[e];exact ⟨⟨by decide,by decide,by decide,by decide⟩,by decide⟩
 obtain ⟨I,J,D,_⟩:=jE e;exact ⟨AI.ofRt e,by omega⟩
theorem io.quiet {w w':World} {t:Tb} {A B:Option Addr} {c d:Nat} (h:io w t A B c d) (D:aa [] w w'):io w' t A B c d:=⟨h.cols.keep D,h.cc,h.rows.keep D,h.cd,h.names,h.vals⟩
structure Be (w:World) (b:Nat) (mv:List (Bs×Value)) (m:Tm):Prop where
 mp:bI Tryz.prog 9 w b mv
 nd:(mv.map (·.1)).Nodup
 cv:kb w mv m
 sm:∀ p∈m,ek p.2=true
 six:mv.length≤6
def Bf (w:World) (v:Value):Prop:=v= .map none∨∃ b mv m,v= .map (some b)∧Be w b mv m
def E4 (w:World) (v:Value):Prop:=∃ (t:Tb) (A B:Option Addr) (c d:Nat),v=jP A t.cols.length c B t.rows.length d∧io w t A B c d∧ek t=true
theorem Di {w:World}:∀ {mv:List (Bs×Value)},(∀ p∈mv,E4 w p.2)→∃ m,kb w mv m∧∀ p∈m,ek p.2=true
 | [],_=>⟨[],trivial,fun p D=>by cases D⟩
 | q::mv,h=>by
  obtain ⟨t,A,B,c,d,e,M,I⟩:=h q (List.mem_cons_self ..);obtain ⟨m,N,J⟩:=Di (mv:=mv) fun p D=>h p (List.mem_cons_of_mem _ D)
  refine ⟨(q.1,t)::m,⟨rfl,⟨A,c,B,d,e,(M.inn I).1⟩,N⟩,fun p D=>?_⟩;rcases List.mem_cons.1 D with rfl|D
  ·exact I
  exact J p D
theorem yU (w:World):Calls Tryz.prog 5 #[.map none] w fun e w'=>e=FP (.bool true)∧aa [] w w':=by
 have D:=run_range_nilMap (P:=Tryz.prog) w 22 9 54 Tryz.underlying22;have J:∀ h,(Instr.next (FO (some ⟨w.heap.size,0,none⟩)) false h).run Tryz.prog (w.alloc (.mapIter none 0 #[] 0))=_:=fun h=>run_next_nilMap w h 0 0 #[]
 have I:∀ h,(Builtin.len_ #[22] h #[.map none]).run Tryz.prog w= .ok (FR FS 0) w:=fun h=>Maps.len_nil Tryz.underlying22 h
 go_enter Tryz.func5,Tryz.ntmps5
 go_wp2_with fail
 go_loopw [10] (fun _ wr=>wr=w.alloc (.mapIter none 0 #[] 0)) (fun _ _=>0)
 case atStart=>rfl
 subst hrel;go_wp2;go_ret;exact ⟨rfl,(FK _ _).alloc _⟩
theorem yV (b:Nat) (mv:List (Bs×Value)) (w:World) (hm:bI Tryz.prog 9 w b mv) (a5:(mv.map (·.1)).Nodup) (b1:mv.length≤maxLen) (hv:∀ p∈mv,∃ (t:Tb) (A B:Option Addr) (c d:Nat),p.2=jP A t.cols.length c B t.rows.length d∧io w t A B c d) :
  Calls Tryz.prog 5 #[.map (some b)] w fun e w'=>(∃ r,e=FP (.bool r)∧(r=true→∃ m,Be w b mv m))∧aa [] w w':=by
 have q1:∀ (ty:TypeId),(Builtin.len_ #[22] ty #[.map (some b)]).run Tryz.prog w= .ok (FR FS mv.length) w:=fun ty=>by
  have:=hm.len Tryz.underlying22 ty;rw[ki a5] at this;exact this
 have HM:=Fx hm;have bl:=Fx a5;have HV:=Fx hv;clear hm a5 hv;by_cases h6:6<mv.length
 ·have t6:(6:Int)<(mv.length:Int):=by omega
  go_enter Tryz.func5,Tryz.ntmps5
  go_wp2;go_ret;exact ⟨⟨_,rfl,fun h=>by cases h⟩,FK _ _⟩
 have t6:¬(6:Int)<(mv.length:Int):=by omega
 have H6:=Fx (show mv.length≤6 by omega);clear h6 b1;go_enter Tryz.func5,Tryz.ntmps5
 go_wp2_with (refine iW rfl _ rfl Tryz.underlying22 Tryz.underlying9 rfl HM.out ?_)
 intro y6 a3 k6 a1;obtain ⟨r,hr⟩:∃ r,w.heap.size=r:=⟨_,rfl⟩
 rw[hr] at a3 ⊢;have b0:=Fx a3;have bc:=Fx k6;have a8:Hid (w.heap.size≤r):=Fx (by omega);clear a3 k6 a1 hr q1 t6;go_wp2_with fail
 go_loopw [10] (fun _ wr=>∃ L a2,Hid (fj Tryz.prog 9 wr b r mv L a2)∧Hid (aa [r] y6 wr)∧Hid (∀ k v,mv.lookup k=some v→L k=false→E4 w v)) (fun _ wr=>wr.rangeLeft b r)
 case atStart=>exact ⟨_,_,b0,Fx (FK _ _),Fx (fun k v O h2=>by rw[O] at h2;cases h2)⟩
 obtain ⟨L,a2,U,D,a4⟩:=hrel;obtain ⟨z,rfl⟩:∃ z:World,z=wr:=⟨_,rfl⟩
 go_wp2_with (refine jY rfl _ rfl Tryz.underlying9 rfl U.out ?hDone ?hMore)
 case hDone =>
  intro _ hL;have I:Hid (aa [] w z):=Fx ((bc.out.of_nil.trans D.out).weaken fun x hx hl=>by rw[List.mem_singleton] at hx;have:=a8.out;omega);have ba:Hid (∃ m,Be w b mv m):=Fx (by
   obtain ⟨m,O,h2⟩:=Di (mv:=mv) (w:=w) fun p hp=>a4.out p.1 p.2 (gI bl.out hp) (hL _)
   exact ⟨m,HM.out,bl.out,O,h2,H6.out⟩)
  clear U D hL a4;go_wp2;go_ret;exact ⟨⟨_,rfl,fun _=>ba.out⟩,I.out⟩
 case hMore =>
  intro k v z2 a9 bZ a6 ad bk aA a1 bm;have I:Hid (aa [] w z2):=Fx (((bc.out.of_nil.trans D.out).trans aA).weaken fun x hx hl=>by rw[List.mem_singleton] at hx;have:=a8.out;omega);obtain ⟨t,A,B,c,d,bo,M⟩:=HV.out (k,v) (gp a6);simp only at bo;subst bo;have br:=Fx M;have b5:=Fx a6;have be:=Fx ad;have bz:=Fx (D.out.trans aA);have bq:z.rangeLeft b r=a2:=U.out.left_eq;have b3:Hid (a9<z.rangeLeft b r):=Fx (by rw[bq];exact bk);have N:Hid (Calls Tryz.prog 16 #[.agg #[FN A t.cols.length c,FN B t.rows.length d]] (z2.alloc (FQ #[FN A t.cols.length c,FN B t.rows.length d] 54)) fun e w'=>e=FP (.bool (ek t))∧aa [] (z2.alloc (FQ #[FN A t.cols.length c,FN B t.rows.length d] 54)) w'):=Fx (xd t A B c d _ (M.cols.keep (I.out.alloc _)) (M.rows.keep (I.out.alloc _)));clear bZ a6 ad bk aA a1 bq D U M;unfold jP at bm
  (try unfold jP)
  cases J:ek t with
  | false =>
   rw[J] at N;clear J;go_wp2_with fail
   refine N.out.mono ?_;rintro e z3 ⟨rfl,k3⟩;have bv:=Fx ((I.out.alloc _).trans k3);clear k3;go_wp2;go_ret;exact ⟨⟨_,rfl,fun h=>by cases h⟩,bv.out⟩
  | true =>
   have bX:Hid (E4 w (jP A t.cols.length c B t.rows.length d)):=Fx ⟨t,A,B,c,d,rfl,br.out,J⟩;rw[J] at N;clear J;go_wp2_with fail
   refine N.out.mono ?_;rintro e z3 ⟨rfl,k3⟩;have a0:aa [] z2 z3:=((FK _ _).alloc _).trans k3;have Z:=Fx (be.out.kept a0 (by simp) (by simp));have bb:=Fx (bz.out.trans a0.of_nil);have av:z3.rangeLeft b r<z.rangeLeft b r:=by rw[Z.out.left_eq];exact b3.out
   have bj:=Fx av;have b4:Hid (∀ k' v',mv.lookup k'=some v'→(L k' && !(k'==k))=false→E4 w v'):=Fx (fun k' v' O h2=>by
    by_cases a7:k'=k
    ·subst a7
     rw[b5.out] at O;injection O with O;rw[←O];exact bX.out
    refine a4.out k' v' O ?_;have:(k'==k)=false:=by simpa using a7
    rw[this] at h2;simpa using h2)
   clear k3 av a0;go_wp2;go_roundw
   case rel=>exact ⟨_,_,Z,bb,b4⟩
   case measure=>exact bj.out
theorem mi (f:Fl) (v0 v1 v2 jx:Value) (gv:Bs→Option Tb) (w:World) (hF:jj w v0 v1 v2 f) (hS:om f) (hE:mf w) (hT:iJ w) (c4:∀ x∈f.ins,∀ c∈x.cols,c.name.length≤1000000000) (hG:nf w jx gv) :
  Calls Tryz.prog 9 #[.agg #[v0,v1,v2],jx] w fun e w'=>tY (eF f gv) w.heap.size e w'∧aa [] w w':=by
 have g6:= @run_makeMap Tryz.prog;obtain ⟨i0,mh,lg,m7,lf⟩:=info_parts Dh;obtain ⟨R,hR⟩:∃ R,eF f gv=R:=⟨_,rfl⟩
 rw[hR];rw[Bc] at hR;have HF:=Fx hF;have l0:=hF.i0;have k0:=hF.i1;have k9:=hF.i2;obtain ⟨nC,A0,c0,rfl,n4,fc⟩:=l0;obtain ⟨n8,A1,c1,rfl,nn,e6⟩:=k0;obtain ⟨n2,A2,c2,rfl,no,gm⟩:=k9;have H0:=Fx fc;have H1:=Fx e6;have H2:=Fx gm;have HR:=Fx hR;have HS:=Fx hS;have HE:=Fx hE;have HT:=Fx hT;have HCL:=Fx c4;have HG:=Fx hG;have hW:ao ((w.alloc (FQ #[FN A0 f.ins.length c0,FN A1 f.jobs.length c1,FN A2 f.outs.length c2] 29)).alloc (FQ #[FR FS 0,FR FS 0] 39)) w.heap.size 29 #[FN A0 f.ins.length c0,FN A1 f.jobs.length c1,FN A2 f.outs.length c2]:=(FL _ _ _).alloc _;have e9:ao ((w.alloc (FQ #[FN A0 f.ins.length c0,FN A1 f.jobs.length c1,FN A2 f.outs.length c2] 29)).alloc (FQ #[FR FS 0,FR FS 0] 39)) (w.heap.size+1) 39 #[FR FS 0,FR FS 0]:=by
  have h:=(FL (w.alloc (FQ #[FN A0 f.ins.length c0,FN A1 f.jobs.length c1,FN A2 f.outs.length c2] 29)) 39 #[FR FS 0,FR FS 0]);rw[ap] at h;exact h
 have ci:aa [] w ((w.alloc (FQ #[FN A0 f.ins.length c0,FN A1 f.jobs.length c1,FN A2 f.outs.length c2] 29)).alloc (FQ #[FR FS 0,FR FS 0] 39)):=((FK _ _).alloc _).alloc _;have hM:((w.alloc (FQ #[FN A0 f.ins.length c0,FN A1 f.jobs.length c1,FN A2 f.outs.length c2] 29)).alloc (FQ #[FR FS 0,FR FS 0] 39)).heap.size=w.heap.size+2:=by simp
 have a5:=Fx hW;have av:=Fx e9;have N:=Fx ci;have et:=Fx hM;clear hF hR hS fc e6 gm hE hT c4 hG hW e9 ci hM;obtain ⟨X,hX⟩:∃ X,w.heap.size=X:=⟨_,rfl⟩
 go_enter Tryz.func9,Tryz.ntmps9
 go_upto_region 1 with (fail)
 have a9:Hid (w.heap.size≤X+1):=Fx (by omega);have lr:=Fx hX;rw[hX] at a5 av et
 (try rw[hX])
 generalize ((w.alloc (FQ #[FN A0 f.ins.length c0,FN A1 f.jobs.length c1,FN A2 f.outs.length c2] 29)).alloc (FQ #[FR FS 0,FR FS 0] 39))=y0 at a5 av N et ⊢;have p0:y0.cell? ⟨X,0,none⟩=some (FN A0 f.ins.length c0):=a5.out.cell 0;have p1:y0.cell? ⟨X,1,none⟩=some (FN A1 f.jobs.length c1):=a5.out.cell 1;have p2:y0.cell? ⟨X,2,none⟩=some (FN A2 f.outs.length c2):=a5.out.cell 2;have pl:=a5.out.lt;have b9:=Fx (qB f _ _ _ y0 (HF.out.keep N.out) HS.out (HE.out.quiet N.out).c (HT.out.keep N.out (by simp)) HCL.out)
 cases bZ:cQ f with
 | error x =>
  rw[bZ] at b9;have ad:Hid (R= .error (x.1,-1)):=Fx (by
   have:=HR.out;rw[bZ] at this;exact this.symm)
  clear bZ;go_wp2_with fail
  refine b9.out.mono ?_;rintro e w1 ⟨⟨u,rfl,gi,rfl,dr⟩,k1⟩;have cn:=Fx (ww gi x.1 x.2 w1 (HT.out.keep (N.out.trans k1) (by simp)) dr);have hf:=Fx k1;clear p0 p1 p2 pl k1 dr;go_wp2_with fail
  refine cn.out.mono ?_;rintro e w2 ⟨rfl,k2⟩;have co:=Fx (hf.out.trans k2);clear k2;have D:ao w2 (X+1) 39 #[FR FS 0,FR FS 0]:=av.out.keep co.out (by simp);have c0':w2.cell? ⟨X+1,0,none⟩=some (FR FS 0):=D.cell 0;have c1':w2.cell? ⟨X+1,1,none⟩=some (FR FS 0):=D.cell 1;have z0':w2.frozen? ⟨X+1,0,none⟩=false:=D.frozen 0;have z1':w2.frozen? ⟨X+1,1,none⟩=false:=D.frozen 1;have M:=iH D (N.out.trans co.out) a9.out;have J:=Fx M;clear D M;go_wp2
  (try simp only[Exit.inBlock,Exit.then])
  refine bodyPost_ret (cf rfl _ _ (X+1) _ _ _ _ rfl (J.out _ _).1 Tryz.underlying39 rfl (by kernel_rfl)) rfl ?_;exact ⟨by rw[ad.out];rfl,(J.out _ _).2⟩
 | ok cm =>
  rw[bZ] at b9;have j1:Hid (gD f (fX gv f.ins [])=R):=Fx (by
   have:=HR.out;rw[bZ] at this;exact this)
  clear bZ;go_wp2_with fail
  refine b9.out.mono ?_;rintro e w1 ⟨⟨bq,mq,rfl,-,-,-⟩,k1⟩;have hm:=bI.made (P:=Tryz.prog) (S:=9) w1;have dq:jX w X w1.heap.size (FN A0 f.ins.length c0) (FN A1 f.jobs.length c1) (FN A2 f.outs.length c2) [] [] (w1.alloc (.map #[] 0)):=⟨(N.out.trans k1).alloc _,(a5.out.keep k1 (by simp)).alloc _,(av.out.keep k1 (by simp)).alloc _,hm,trivial,by have:=(N.out.trans k1).size;omega,by have h1:=k1.size;have h2:=et.out;omega,by have h1:=k1.size;have h2:=et.out;omega⟩;have U:=Fx dq;have km:Hid (aa [] y0 (w1.alloc (.map #[] 0))):=Fx (k1.alloc _);clear p0 p1 p2 pl k1 hm dq b9 HR;go_upto_region 5 with (fail)
  generalize hb:w1.heap.size=b at U ⊢;generalize (w1.alloc (.map #[] 0))=y1 at U km ⊢;clear g6;have q0:y1.cell? ⟨X,0,none⟩=some (FN A0 f.ins.length c0):=U.out.fb.cell 0;have q1:y1.cell? ⟨X,1,none⟩=some (FN A1 f.jobs.length c1):=U.out.fb.cell 1;have q2:y1.cell? ⟨X,2,none⟩=some (FN A2 f.outs.length c2):=U.out.fb.cell 2;have ql:=U.out.fb.lt;have l1:=Fx (show aa [] w y1 from U.out.k);clear hb;go_upto_block 0 with (fail)
  go_cut [] (fun wx=>∃ mv m,Hid (jX w X b (FN A0 f.ins.length c0) (FN A1 f.jobs.length c1) (FN A2 f.outs.length c2) mv m wx)∧m.length≤f.ins.length∧Hid (zv m)∧Hid (gD f (.ok m)=R))
  case first =>
   have k3:f.ins.length≤100000:=by
    have:=HS.out.all;unfold bf at this;rw[Fz,List.length_map] at this;omega
   go_wp2_with fail
   go_loopw [42] (fun i wr=>∃ (j:Nat) (mv:List (Bs×Value)) (m:Tm),j≤f.ins.length∧i=FR FS j∧m.length≤j∧Hid (zv m)∧Hid (jX w X b (FN A0 f.ins.length c0) (FN A1 f.jobs.length c1) (FN A2 f.outs.length c2) mv m wr)∧Hid (gD f (fX gv (f.ins.drop j) m)=R)) (fun i _=>f.ins.length-(intOf i).toNat)
   case atStart=>exact ⟨0,[],[],FF _,rfl,Fy _,Fx (fun q hq=>by cases hq),U,j1⟩
   clear q0 q1 q2 ql;obtain ⟨j,mv,m,hj,rfl,eB,a1,I,HQ⟩:=hrel;obtain ⟨O,rfl⟩:∃ z:World,z=wr:=⟨_,rfl⟩
   by_cases be:j<f.ins.length
   ·have g3:(j:Int)<(f.ins.length:Int):=by omega
    obtain ⟨g,cs,rfl,hg,-,⟨vc,rfl,lp⟩,hc⟩:=H0.out j be;obtain ⟨c4,Ac,cc,rfl,ks,a4⟩:=lp;have d0:=I.out.k.cell_of (hc 0 _ rfl) (by simp);have d1:=I.out.k.cell_of (hc 1 _ rfl) (by simp);have d2:=I.out.k.cell_of (hc 2 _ rfl) (by simp);rw[Nat.add_zero] at d0;have hl:(f.ins[j]).name.length≤1000:=HS.out.names _ (by unfold bf;exact List.mem_append_left _ (List.mem_map.2 ⟨_,FE be,rfl⟩));have Z:=HQ.out;rw[List.drop_eq_getElem_cons be,yS] at Z;obtain ⟨x,hx⟩:∃ x,f.ins[j]=x:=⟨_,rfl⟩
    rw[hx] at d0 d1 d2 hl Z c4 ks a4;have aA:=Fx Z;have c9:=Fx a4;have fS:=I.out.cv.len;obtain ⟨At,ct,Bt,dt,e1,a6⟩:=HG.out (O.alloc (FQ #[FR FS x.at_,FM (bs x.name),FN Ac x.cols.length cc] 57)) (I.out.k.alloc _) x.name hl;have bm:=Fx a6;clear Z hx hc a4 a6
    cases cr:gv x.name with
    | none =>
     have ad:Hid (R= .error (7,-1)):=Fx (by
      have:=aA.out;rw[cr] at this;exact this.symm)
     rw[cr] at e1;simp only[Option.getD_none,Option.isSome_none] at e1;have c6:=Fx (I.out.rb);have av:=c6;have N:=Fx (I.out.k);clear cr;have bo:aa [] O ((O.alloc (FQ #[FR FS x.at_,FM (bs x.name),FN Ac x.cols.length cc] 57)).alloc (FQ #[FN At qN.cols.length ct,FN Bt qN.rows.length dt] 54)):=((FK _ _).alloc _).alloc _;have a7:=Fx bo;clear bo;go_upto_region 10 with (fail)
     have D:ao ((O.alloc (FQ #[FR FS x.at_,FM (bs x.name),FN Ac x.cols.length cc] 57)).alloc (FQ #[FN At qN.cols.length ct,FN Bt qN.rows.length dt] 54)) (X+1) 39 #[FR FS 0,FR FS 0]:=av.out.keep a7.out (by simp);have c0':((O.alloc (FQ #[FR FS x.at_,FM (bs x.name),FN Ac x.cols.length cc] 57)).alloc (FQ #[FN At qN.cols.length ct,FN Bt qN.rows.length dt] 54)).cell? ⟨X+1,0,none⟩=some (FR FS 0):=D.cell 0;have c1':((O.alloc (FQ #[FR FS x.at_,FM (bs x.name),FN Ac x.cols.length cc] 57)).alloc (FQ #[FN At qN.cols.length ct,FN Bt qN.rows.length dt] 54)).cell? ⟨X+1,1,none⟩=some (FR FS 0):=D.cell 1;have z0':((O.alloc (FQ #[FR FS x.at_,FM (bs x.name),FN Ac x.cols.length cc] 57)).alloc (FQ #[FN At qN.cols.length ct,FN Bt qN.rows.length dt] 54)).frozen? ⟨X+1,0,none⟩=false:=D.frozen 0;have z1':((O.alloc (FQ #[FR FS x.at_,FM (bs x.name),FN Ac x.cols.length cc] 57)).alloc (FQ #[FN At qN.cols.length ct,FN Bt qN.rows.length dt] 54)).frozen? ⟨X+1,1,none⟩=false:=D.frozen 1;have M:=iH D (N.out.trans a7.out) a9.out;have J:=Fx M;clear D M;go_wp2
     (try simp only[Exit.inBlock,Exit.then])
     refine bodyPost_ret (cf rfl _ _ (X+1) _ _ _ _ rfl (J.out _ _).1 Tryz.underlying39 rfl (by kernel_rfl)) rfl ?_;exact ⟨by rw[ad.out];rfl,(J.out _ _).2⟩
    | some t =>
     have g4:=aA.out;rw[cr] at g4 e1 bm;simp only[Option.getD_some,Option.isSome_some] at e1 bm;have g1:Hid ((if t.cols=x.cols∧ak t=true then gD f (fX gv (f.ins.drop (j+1)) ((x.name,t)::m)) else .error (13,-1))=R):=Fx (by
      rw[←g4];unfold rT;simp only;split<;>rfl)
     clear g4 cr aA;have bo:aa [] O ((O.alloc (FQ #[FR FS x.at_,FM (bs x.name),FN Ac x.cols.length cc] 57)).alloc (FQ #[FN At t.cols.length ct,FN Bt t.rows.length dt] 54)):=((FK _ _).alloc _).alloc _;have a3:qQ ((O.alloc (FQ #[FR FS x.at_,FM (bs x.name),FN Ac x.cols.length cc] 57)).alloc (FQ #[FN At t.cols.length ct,FN Bt t.rows.length dt] 54)) (.agg #[FN At t.cols.length ct,FN Bt t.rows.length dt]) t:=⟨At,ct,Bt,dt,rfl,bm.out.quiet ((FK _ _).alloc _)⟩;have iv:ao ((O.alloc (FQ #[FR FS x.at_,FM (bs x.name),FN Ac x.cols.length cc] 57)).alloc (FQ #[FN At t.cols.length ct,FN Bt t.rows.length dt] 54)) O.heap.size 57 #[FR FS x.at_,FM (bs x.name),FN Ac x.cols.length cc]:=(FL _ _ _).alloc _;have a6:ao ((O.alloc (FQ #[FR FS x.at_,FM (bs x.name),FN Ac x.cols.length cc] 57)).alloc (FQ #[FN At t.cols.length ct,FN Bt t.rows.length dt] 54)) (O.heap.size+1) 54 #[FN At t.cols.length ct,FN Bt t.rows.length dt]:=by
      have h:=FL (O.alloc (FQ #[FR FS x.at_,FM (bs x.name),FN Ac x.cols.length cc] 57)) 54 #[FN At t.cols.length ct,FN Bt t.rows.length dt];rw[ap] at h;exact h
     have j4:=kh t.cols x.cols At Ac ct cc ((O.alloc (FQ #[FR FS x.at_,FM (bs x.name),FN Ac x.cols.length cc] 57)).alloc (FQ #[FN At t.cols.length ct,FN Bt t.rows.length dt] 54)) (bm.out.quiet ((FK _ _).alloc _)).cols (c9.out.keep (I.out.k.trans bo)) bm.out.ln c4;have a7:=Fx bo;have cx:=Fx a3;have hu:=Fx iv;have b5:=Fx a6;have ds:=Fx j4;have c6:=Fx (I.out.rb);have av:=c6;have N:=Fx (I.out.k);clear bo a3 iv a6 j4;go_upto_region 11 with (fail)
     have kf:Hid (aZ ((O.alloc (FQ #[FR FS x.at_,FM (bs x.name),FN Ac x.cols.length cc] 57)).alloc (FQ #[FN At t.cols.length ct,FN Bt t.rows.length dt] 54)) t At Bt ct dt):=Fx (bm.out.quiet ((FK _ _).alloc _));generalize ((O.alloc (FQ #[FR FS x.at_,FM (bs x.name),FN Ac x.cols.length cc] 57)).alloc (FQ #[FN At t.cols.length ct,FN Bt t.rows.length dt] 54))=y3 at a7 cx hu b5 ds kf ⊢;have i2:y3.cell? ⟨O.heap.size,2,none⟩=some (FN Ac x.cols.length cc):=hu.out.cell 2;have u0:y3.cell? ⟨O.heap.size+1,0,none⟩=some (FN At t.cols.length ct):=b5.out.cell 0;by_cases b4:t.cols=x.cols
     ·rw[decide_eq_true b4] at ds
      have m9:=Fx b4;clear b4;go_wp2_with fail
      refine ds.out.mono ?_;rintro e w5 ⟨rfl,k5⟩;have g0:=Fx k5;have bk:Hid (Calls Tryz.prog 13 #[.agg #[FN At t.cols.length ct,FN Bt t.rows.length dt]] w5 fun e w'=>e=FP (.bool (ak t))∧aa [] w5 w'):=Fx (kf.out.quiet k5).right;have b0:w5.cell? ⟨O.heap.size+1,0,none⟩=some (FN At t.cols.length ct):=(b5.out.keep k5 (by simp)).cell 0;have b1:w5.cell? ⟨O.heap.size+1,1,none⟩=some (FN Bt t.rows.length dt):=(b5.out.keep k5 (by simp)).cell 1;clear k5 i2 u0
      cases a8:ak t with
      | true =>
       have lw:Hid (gD f (fX gv (f.ins.drop (j+1)) ((x.name,t)::m))=R):=Fx (by
        have:=g1.out;rw[if_pos ⟨m9.out,a8⟩] at this;exact this)
       have kg:Hid (zv ((x.name,t)::m)):=Fx (a1.out.put a8);rw[a8] at bk;clear a8;go_wp2_with fail
       refine bk.out.mono ?_;rintro e w6 ⟨rfl,k6⟩;clear b0 b1;have bb:=Fx (a7.out.trans (g0.out.trans k6));have e0:=Fx (g0.out.trans k6);have i1:w6.cell? ⟨O.heap.size,1,none⟩=some (FM (bs x.name)):=(hu.out.keep e0.out (by simp)).cell 1;have b0:w6.cell? ⟨O.heap.size+1,0,none⟩=some (FN At t.cols.length ct):=(b5.out.keep e0.out (by simp)).cell 0;have b1:w6.cell? ⟨O.heap.size+1,1,none⟩=some (FN Bt t.rows.length dt):=(b5.out.keep e0.out (by simp)).cell 1;have br:=Fx (I.out.keep bb.out);obtain ⟨w7,fr,cd,cj⟩:=br.out.mp.putT x.name (.agg #[FN At t.cols.length ct,FN Bt t.rows.length dt]) hl (by rw[fS];omega);have ca:=Fx (br.out.put (cx.out.keep e0.out) cd ((FK [b] _).grown cj (fun g hg=> .inl (by injection hg with hg;simp[hg]))));clear k6 cd cj;go_wp2;go_roundw
       case rel=>exact ⟨j+1,_,_,by omega,by go_num,by simp only[FG];omega,kg,ca,lw⟩
       case measure=>simp[intOf];omega
      | false =>
       have ad:Hid (R= .error (13,-1)):=Fx (by
        have:=g1.out;rw[if_neg (by rintro ⟨_,h⟩;rw[a8] at h;cases h)] at this;exact this.symm)
       rw[a8] at bk;clear a8;go_wp2_with fail
       refine bk.out.mono ?_;rintro e w6 ⟨rfl,k6⟩;have bb:=Fx (a7.out.trans (g0.out.trans k6));clear k6 b0 b1;go_upto_region 12 with (fail)
       have D:ao w6 (X+1) 39 #[FR FS 0,FR FS 0]:=av.out.keep bb.out (by simp);have c0':w6.cell? ⟨X+1,0,none⟩=some (FR FS 0):=D.cell 0;have c1':w6.cell? ⟨X+1,1,none⟩=some (FR FS 0):=D.cell 1;have z0':w6.frozen? ⟨X+1,0,none⟩=false:=D.frozen 0;have z1':w6.frozen? ⟨X+1,1,none⟩=false:=D.frozen 1;have M:=iH D (N.out.trans bb.out) a9.out;have J:=Fx M;clear D M;go_wp2
       (try simp only[Exit.inBlock,Exit.then])
       refine bodyPost_ret (cf rfl _ _ (X+1) _ _ _ _ rfl (J.out _ _).1 Tryz.underlying39 rfl (by kernel_rfl)) rfl ?_;exact ⟨by rw[ad.out];rfl,(J.out _ _).2⟩
     -- BEGIN in6
     have ad:Hid (R= .error (13,-1)):=Fx (by
      have:=g1.out;rw[if_neg (fun h=>b4 h.1)] at this;exact this.symm)
     rw[decide_eq_false b4] at ds;clear b4;go_wp2_with fail
     refine ds.out.mono ?_;rintro e w5 ⟨rfl,k5⟩;have bb:=Fx (a7.out.trans k5);clear k5 i2 u0;go_upto_region 12 with (fail)
     have D:ao w5 (X+1) 39 #[FR FS 0,FR FS 0]:=av.out.keep bb.out (by simp);have c0':w5.cell? ⟨X+1,0,none⟩=some (FR FS 0):=D.cell 0;have c1':w5.cell? ⟨X+1,1,none⟩=some (FR FS 0):=D.cell 1;have z0':w5.frozen? ⟨X+1,0,none⟩=false:=D.frozen 0;have z1':w5.frozen? ⟨X+1,1,none⟩=false:=D.frozen 1;have M:=iH D (N.out.trans bb.out) a9.out;have J:=Fx M;clear D M;go_wp2
     (try simp only[Exit.inBlock,Exit.then])
     refine bodyPost_ret (cf rfl _ _ (X+1) _ _ _ _ rfl (J.out _ _).1 Tryz.underlying39 rfl (by kernel_rfl)) rfl ?_;exact ⟨by rw[ad.out];rfl,(J.out _ _).2⟩
   have g3:¬(j:Int)<(f.ins.length:Int):=by omega
   have cq:Hid (gD f (.ok m)=R):=Fx (by
    have:=HQ.out;rw[List.drop_of_length_le (by omega)] at this;exact this)
   go_wp2;go_meet
   case rel=>exact ⟨mv,m,I,by omega,a1,cq⟩
  obtain ⟨mv,m,I,eB,a1,HQ⟩:=hcut;obtain ⟨yc,rfl⟩:∃ z:World,z=wc:=⟨_,rfl⟩
  clear U km q0 q1 q2 ql l1 j1 av N a5;have p0:yc.cell? ⟨X,0,none⟩=some (FN A0 f.ins.length c0):=I.out.fb.cell 0;have p1:yc.cell? ⟨X,1,none⟩=some (FN A1 f.jobs.length c1):=I.out.fb.cell 1;have p2:yc.cell? ⟨X,2,none⟩=some (FN A2 f.outs.length c2):=I.out.fb.cell 2;have pl:=I.out.fb.lt;have av:=Fx I.out.rb;have N:=Fx I.out.k;have ce:=Fx (qo f _ _ _ yc (HF.out.keep I.out.k))
  cases ba:cG f with
  | error x =>
   rw[ba] at ce;have ad:Hid (R= .error (x.1,-1)):=Fx (by
    have:=HQ.out;unfold gD at this;simp only at this;rw[ba] at this;exact this.symm)
   clear ba HQ;go_wp2_with fail
   refine ce.out.mono ?_;rintro e w1 ⟨⟨gi,rfl,dr⟩,k1⟩;have cn:=Fx (ww gi x.1 x.2 w1 (HT.out.keep (N.out.trans k1) (by simp)) dr);have hf:=Fx k1;clear p0 p1 p2 pl k1 dr;go_wp2_with fail
   refine cn.out.mono ?_;rintro e w2 ⟨rfl,k2⟩;have co:=Fx (hf.out.trans k2);clear k2;have D:ao w2 (X+1) 39 #[FR FS 0,FR FS 0]:=av.out.keep co.out (by simp);have c0':w2.cell? ⟨X+1,0,none⟩=some (FR FS 0):=D.cell 0;have c1':w2.cell? ⟨X+1,1,none⟩=some (FR FS 0):=D.cell 1;have z0':w2.frozen? ⟨X+1,0,none⟩=false:=D.frozen 0;have z1':w2.frozen? ⟨X+1,1,none⟩=false:=D.frozen 1;have M:=iH D (N.out.trans co.out) a9.out;have J:=Fx M;clear D M;go_wp2
   (try simp only[Exit.inBlock,Exit.then])
   refine bodyPost_ret (cf rfl _ _ (X+1) _ _ _ _ rfl (J.out _ _).1 Tryz.underlying39 rfl (by kernel_rfl)) rfl ?_;exact ⟨by rw[ad.out];rfl,(J.out _ _).2⟩
  | ok l =>
   rw[ba] at ce;have aA:Hid (kL f (df f l m)=R):=Fx (by
    have:=HQ.out;unfold gD at this;simp only at this;rw[ba] at this;exact this)
   obtain ⟨hZ,j2⟩:=fF ba;have mt:=Fx hZ.lt;clear ba HQ hZ;go_wp2_with fail
   refine ce.out.mono ?_;rintro e w6 ⟨⟨Al,cl,rfl,n5,ie⟩,k6⟩;have n0:=Fx j2;have br:=Fx (I.out.keep k6);have bv:=Fx ie;clear k6 ie p0 p1 p2 pl ce I av N;have k3:f.ins.length≤100000:=by
    have:=HS.out.all;unfold bf at this;rw[Fz,List.length_map] at this;omega
   have gl:m.length≤100000:=by omega
   clear eB;have ni:l.length≤4294967296:=by omega
   clear j2;go_upto_block 3 with (fail)
   go_cut [] (fun wx=>∃ mv m,Hid (jX w X b (FN A0 f.ins.length c0) (FN A1 f.jobs.length c1) (FN A2 f.outs.length c2) mv m wx)∧m.length≤500000000000000∧Hid (R= .ok (fu f.outs m)))
   case first =>
    go_wp2_with fail
    go_loopw [87] (fun i wr=>∃ (t:Nat) (mv:List (Bs×Value)) (m:Tm),t≤l.length∧i=FR FS t∧m.length≤100000+t*100000∧Hid (zv m)∧Hid (jX w X b (FN A0 f.ins.length c0) (FN A1 f.jobs.length c1) (FN A2 f.outs.length c2) mv m wr)∧Hid (Rd wr [] 1 Al l.length (gQ l))∧Hid (kL f (df f (l.drop t) m)=R)) (fun i _=>l.length-(intOf i).toNat)
    case atStart=>exact ⟨0,mv,m,FF _,rfl,by omega,a1,br,bv,aA⟩
    clear br aA bv gl a1;obtain ⟨t,mv,m,ht,rfl,eB,a1,I,bv,HQ⟩:=hrel;obtain ⟨wt,rfl⟩:∃ z:World,z=wr:=⟨_,rfl⟩
    have p1:wt.cell? ⟨X,1,none⟩=some (FN A1 f.jobs.length c1):=I.out.fb.cell 1;have pl:=I.out.fb.lt;by_cases g2:t<l.length
    ·have mI:(t:Int)<(l.length:Int):=by omega
     obtain ⟨bl,ol,rfl,-,n7,fz⟩:=bv.out.open' (by omega) (by omega);have q0:wt.cell? ⟨bl,ol+t,none⟩=some (FR FS (l[t]:Nat)):=fz t _ (ti l t g2);have hk:=mt.out _ (FE g2);have Z:=HQ.out;rw[List.drop_eq_getElem_cons g2,vM] at Z;obtain ⟨k,ci⟩:∃ k,l[t]=k:=⟨_,rfl⟩
     rw[ci] at q0 hk Z;have oc:(k:Int)<(f.jobs.length:Int):=by omega
     obtain ⟨g,cs,rfl,hg,-,⟨_,_,_,rfl,⟨ic,B2,e2,rfl,i9,hh⟩,⟨hU,B3,e3,rfl,lb,hB⟩,⟨e8,B4,e4,rfl,e5,cz⟩⟩,hc⟩:=H1.out k hk;have d0:=I.out.k.cell_of (hc 0 _ rfl) (by simp);have d1:=I.out.k.cell_of (hc 1 _ rfl) (by simp);have d2:=I.out.k.cell_of (hc 2 _ rfl) (by simp);have d3:=I.out.k.cell_of (hc 3 _ rfl) (by simp);have d4:=I.out.k.cell_of (hc 4 _ rfl) (by simp);have d5:=I.out.k.cell_of (hc 5 _ rfl) (by simp);have d6:=I.out.k.cell_of (hc 6 _ rfl) (by simp);have d7:=I.out.k.cell_of (hc 7 _ rfl) (by simp);have d8:=I.out.k.cell_of (hc 8 _ rfl) (by simp);have d9:=I.out.k.cell_of (hc 9 _ rfl) (by simp);have ha:=I.out.k.cell_of (hc 10 _ rfl) (by simp);have g8:=I.out.k.cell_of (hc 11 _ rfl) (by simp);have hw:=I.out.k.cell_of (hc 12 _ rfl) (by simp);have hi:=I.out.k.cell_of (hc 13 _ rfl) (by simp);have g5:=I.out.k.cell_of (hc 14 _ rfl) (by simp);rw[Nat.add_zero] at d0;rw[ee hk] at Z;have hC:∀ n∈f.jobs[k].ins,n.length≤1000:=fun n hn=>HS.out.ins _ (FE hk) n hn
     have hz:∀ n∈f.jobs[k].outs,n.length≤1000:=fun n hn=>HS.out.names n (by unfold bf;exact List.mem_append_right _ (List.mem_flatMap.2 ⟨_,FE hk,hn⟩))
     have i5:f.jobs[k].outs.length≤100000:=by
      have h1:=wC (FE hk);have:=HS.out.all;unfold bf at this;rw[Fz] at this;omega
     obtain ⟨x,hx⟩:∃ x,f.jobs[k]=x:=⟨_,rfl⟩
     rw[hx] at d0 d1 d2 d3 d4 d5 d6 d7 d8 d9 ha g8 hw hi g5 hC hz i5 Z ic i9 hh hU lb hB e8 e5 cz;have aA:=Fx Z;have l3:=Fx hC;have mE:=Fx hz;have ix:=Fx hh;have lv:=Fx hB;have m4:=Fx cz;have fS:=I.out.cv.len;clear fz Z ci hx hc hC hz hh hB cz hk;go_upto_block 5 with (fail)
     go_cut [18,20] (fun u _ wx=>Hid (ia (wt.alloc (FQ #[FR FS x.at_,FR FS x.code,FN B2 x.outs.length e2,FN B3 x.ins.length e3,FN B4 x.cols.length e4,FM (bs x.op),FM (bs x.left.col),FR FS x.left.val.kind,FR FS x.left.val.num,FM (bs x.left.val.word),FM (bs x.right.col),FR FS x.right.val.kind,FR FS x.right.val.num,FM (bs x.right.val.word),FR FS x.retry] 50)) wx (wt.alloc (FQ #[FR FS x.at_,FR FS x.code,FN B2 x.outs.length e2,FN B3 x.ins.length e3,FN B4 x.cols.length e4,FM (bs x.op),FM (bs x.left.col),FR FS x.left.val.kind,FR FS x.left.val.num,FM (bs x.left.val.word),FM (bs x.right.col),FR FS x.right.val.kind,FR FS x.right.val.num,FM (bs x.right.val.word),FR FS x.retry] 50)).heap.size u (x.ins.map (getT m)))∧Hid (aa [] (wt.alloc (FQ #[FR FS x.at_,FR FS x.code,FN B2 x.outs.length e2,FN B3 x.ins.length e3,FN B4 x.cols.length e4,FM (bs x.op),FM (bs x.left.col),FR FS x.left.val.kind,FR FS x.left.val.num,FM (bs x.left.val.word),FM (bs x.right.col),FR FS x.right.val.kind,FR FS x.right.val.num,FM (bs x.right.val.word),FR FS x.retry] 50)) wx))
     case first =>
      have dB:ao (wt.alloc (FQ #[FR FS x.at_,FR FS x.code,FN B2 x.outs.length e2,FN B3 x.ins.length e3,FN B4 x.cols.length e4,FM (bs x.op),FM (bs x.left.col),FR FS x.left.val.kind,FR FS x.left.val.num,FM (bs x.left.val.word),FM (bs x.right.col),FR FS x.right.val.kind,FR FS x.right.val.num,FM (bs x.right.val.word),FR FS x.retry] 50)) wt.heap.size 50 #[FR FS x.at_,FR FS x.code,FN B2 x.outs.length e2,FN B3 x.ins.length e3,FN B4 x.cols.length e4,FM (bs x.op),FM (bs x.left.col),FR FS x.left.val.kind,FR FS x.left.val.num,FM (bs x.left.val.word),FM (bs x.right.col),FR FS x.right.val.kind,FR FS x.right.val.num,FM (bs x.right.val.word),FR FS x.retry]:=FL _ _ _;have ho:=I.out.keep ((FK _ _).alloc (FQ #[FR FS x.at_,FR FS x.code,FN B2 x.outs.length e2,FN B3 x.ins.length e3,FN B4 x.cols.length e4,FM (bs x.op),FM (bs x.left.col),FR FS x.left.val.kind,FR FS x.left.val.num,FM (bs x.left.val.word),FM (bs x.right.col),FR FS x.right.val.kind,FR FS x.right.val.num,FM (bs x.right.val.word),FR FS x.retry] 50));clear d0 d1 d2 d3 d4 d5 d6 d7 d8 d9 ha g8 hw hi g5;generalize it:(wt.alloc (FQ #[FR FS x.at_,FR FS x.code,FN B2 x.outs.length e2,FN B3 x.ins.length e3,FN B4 x.cols.length e4,FM (bs x.op),FM (bs x.left.col),FR FS x.left.val.kind,FR FS x.left.val.num,FM (bs x.left.val.word),FM (bs x.right.col),FR FS x.right.val.kind,FR FS x.right.val.num,FM (bs x.right.val.word),FR FS x.retry] 50))=y2 at dB ho ⊢;have jf:=Fx it;clear it;have h0:=Fx ho;have x3:y2.cell? ⟨wt.heap.size,3,none⟩=some (FN B3 x.ins.length e3):=dB.cell 3;have xl:=dB.lt;clear dB ho;go_wp2_with fail
      go_loopw [18,20,99] (fun u _ i wr=>∃ q:Nat,q≤x.ins.length∧i=FR FS q∧Hid (ia y2 wr y2.heap.size u ((x.ins.take q).map (getT m)))∧Hid (aa [] y2 wr)) (fun _ _ i _=>x.ins.length-(intOf i).toNat)
      case atStart=>exact ⟨0,FF _,rfl,Fx (ia.nil _ _ _),Fx (FK _ _)⟩
      clear x3 xl;obtain ⟨q,hq,rfl,HH,en⟩:=hrel;obtain ⟨wq,rfl⟩:∃ z:World,z=wr:=⟨_,rfl⟩
      by_cases bc:q<x.ins.length
      ·have hD:(q:Int)<(x.ins.length:Int):=by omega
       have h4:=Fx (h0.out.keep en.out);obtain ⟨b6,o6,rfl,-,m8,c5⟩:=(lv.out.keep h4.out.k).open' (by omega) (by omega);have s0:=c5 q _ (cC x.ins q bc);have a2:=l3.out _ (FE bc);have hs:(x.ins.take (q+1)).map (getT m)=(x.ins.take q).map (getT m)++[getT m x.ins[q]]:=by rw[List.take_succ_eq_append_getElem bc,List.map_append];rfl
       obtain ⟨n,hn⟩:∃ n,x.ins[q]=n:=⟨_,rfl⟩
       rw[hn] at s0 a2 hs;have lk:=h4.out.mp.getT n a2;obtain ⟨Av,cv,Bv,dv,ev,a3⟩:=h0.out.cv.get n;rw[ev] at lk;have cx:=Fx a3;have kx:=Fx hs;have hr:((x.ins.take q).map (getT m)).length=q:=by rw[List.length_map,FH,Nat.min_eq_left hq]
       obtain ⟨us,hK,eb,ir⟩:=HH.out;rw[hr] at eb;obtain ⟨Au,cu,rfl,-⟩:=ar eb;have mU:=Fx hK;have i3:=Fx eb;have nc:=Fx ir;have h7:=Fx hr;have m0:=Fx (show y2.heap.size≤wq.heap.size from en.out.size);have h8:=Fx (show q+1≤maxLen∧(q+1)*48≤140737488355328 by simp only[maxLen];omega);clear c5 hn hs a3 ev hK eb ir HH hr;go_wp2_with (at_builtin;(refine wpList_append_lies _ rfl _ _ 84 rfl y2.heap.size 54 i0 _ 2 48 Tryz.underlying84 mh lg m7 lf rfl (by decide) _ q (iL us) rfl (i3.out.alloc _) ⟨wq.heap.size,0,none⟩ 1 1 [FN Av (getT m n).cols.length cv,FN Bv (getT m n).rows.length dv] rfl rfl (FI (heap_alloc_new _ _)) (by simp[Value.oneCell']) (by decide) h8.out.1 h8.out.2 (by rw[ap];have:=m0.out;omega) _ rfl ?_);intro gw e7 w8 cg bj js hO)
       have eY:=Fx ((en.out.alloc (FQ #[FN Av (getT m n).cols.length cv,FN Bv (getT m n).rows.length dv] 54)).grown bj (fun g hg=> .inr (i3.out.lt g hg).1));have lc:Hid (ia y2 w8 y2.heap.size (FN (some ⟨gw,0,none⟩) (q+1) e7) ((x.ins.take (q+1)).map (getT m))):=Fx (by
        rw[kx.out];have h:=oM (w:=y2) (W':=w8) (base:=y2.heap.size) (gw:=gw) (cap:=e7) (t:=getT m n) mU.out nc.out cx.out.isT.1 cx.out.isT.2 (by rw[h7.out];exact cg);rw[h7.out] at h;exact h)
       clear cg bj js hO;go_wp2;go_roundw
       case rel=>exact ⟨q+1,by omega,by go_num,lc,eY⟩
       case measure=>simp[intOf];omega
      have hD:¬(q:Int)<(x.ins.length:Int):=by omega
      have ls:Hid (ia y2 wq y2.heap.size u18 (x.ins.map (getT m))):=Fx (by
       have:=HH.out;rw[List.take_of_length_le (by omega)] at this;exact this)
      go_wp2;go_meet
      case rel=>exact ⟨by rw[jf.out];exact ls,by rw[jf.out];exact en⟩
     obtain ⟨HH,g7⟩:=hcut;clear d0 d1 d2 d3 d4 d5 d6 d7 d8 d9 ha g8 hw hi g5;obtain ⟨yd,rfl⟩:∃ z:World,z=wc:=⟨_,rfl⟩
     have ey:Hid (ao yd wt.heap.size 50 #[FR FS x.at_,FR FS x.code,FN B2 x.outs.length e2,FN B3 x.ins.length e3,FN B4 x.cols.length e4,FM (bs x.op),FM (bs x.left.col),FR FS x.left.val.kind,FR FS x.left.val.num,FM (bs x.left.val.word),FM (bs x.right.col),FR FS x.right.val.kind,FR FS x.right.val.num,FM (bs x.right.val.word),FR FS x.retry]):=Fx ((FL _ _ _).keep g7.out (by simp));have hv:aa [] wt yd:=((FK _ _).alloc (FQ #[FR FS x.at_,FR FS x.code,FN B2 x.outs.length e2,FN B3 x.ins.length e3,FN B4 x.cols.length e4,FM (bs x.op),FM (bs x.left.col),FR FS x.left.val.kind,FR FS x.left.val.num,FM (bs x.left.val.word),FM (bs x.right.col),FR FS x.right.val.kind,FR FS x.right.val.num,FM (bs x.right.val.word),FR FS x.retry] 50)).trans g7.out;have a0:=Fx (I.out.keep hv);have m1:=Fx (bv.out.keep hv);obtain ⟨Ah,ch,rfl,mo,b8⟩:=HH.out.is g7.out;have hA:Hid (Calls Tryz.prog 24 #[.agg #[FR FS x.at_,FR FS x.code,FN B2 x.outs.length e2,FN B3 x.ins.length e3,FN B4 x.cols.length e4,FM (bs x.op),FM (bs x.left.col),FR FS x.left.val.kind,FR FS x.left.val.num,FM (bs x.left.val.word),FM (bs x.right.col),FR FS x.right.val.kind,FR FS x.right.val.num,FM (bs x.right.val.word),FR FS x.retry],FN Ah x.ins.length ch] yd fun e w'=>qE (j5 x (x.ins.map (getT m))) e w'∧aa [] yd w'):=Fx (by
      have hd:=CB x B2 e2 B3 x.ins.length e3 B4 e4 (x.ins.map (getT m)) Ah ch yd (HE.out.quiet a0.out.k) ⟨ix.out.keep a0.out.k,i9,m4.out.keep a0.out.k,e5,ic,e8⟩ b8 (fun t ht=>by
       obtain ⟨n,_,rfl⟩:=List.mem_map.1 ht;exact (a1.out.bnd n).1) (fun t ht=>by
       obtain ⟨n,_,rfl⟩:=List.mem_map.1 ht;exact (a1.out.bnd n).2) (by rw[List.length_map];exact hU)
      rw[List.length_map] at hd;exact hd)
     rw[List.length_map] at mo;clear b8 hv HH
     (try rw[List.length_map])
     have hy:=oN ey.out;obtain ⟨f0,f1,f2,f3,f4,f5,f6,f7,f8,f9,hQ,hJ,hL,hP,hY⟩:=hy;have yl:=ey.out.lt;obtain ⟨CR,a4⟩:∃ CR,j5 x (x.ins.map (getT m))=CR:=⟨_,rfl⟩
     rw[a4] at hA;have cq:Hid (kL f (vL f (l.drop (t+1)) k x m CR)=R):=Fx (by
      have:=aA.out;rw[a4] at this;exact this)
     have c9:=Fx a4;have av:=Fx a0.out.rb;have N:=Fx a0.out.k;clear a4 aA
     cases CR with
     | error er =>
      have ad:Hid (R= .error (er,(k:Int))):=Fx cq.out.symm;go_wp2_with fail
      refine hA.out.mono ?_;rintro e w7 ⟨kz,k7⟩;obtain rfl:e=FP (.tuple #[FN none 0 0,.iface 37 (FR FS er)]):=kz;have cn:=Fx (oy er w7 (HT.out.keep (a0.out.k.trans k7) (by simp)));have l5:=Fx k7;clear k7 f0 f1 f2 f3 f4 f5 f6 f7 f8 f9 hQ hJ hL hP hY;go_wp2_with fail
      refine cn.out.mono ?_;rintro e w8 ⟨rfl,k8⟩;have eY:=Fx (l5.out.trans k8);clear k8;have D:ao w8 (X+1) 39 #[FR FS 0,FR FS 0]:=av.out.keep eY.out (by simp);have c0':w8.cell? ⟨X+1,0,none⟩=some (FR FS 0):=D.cell 0;have c1':w8.cell? ⟨X+1,1,none⟩=some (FR FS 0):=D.cell 1;have z0':w8.frozen? ⟨X+1,0,none⟩=false:=D.frozen 0;have z1':w8.frozen? ⟨X+1,1,none⟩=false:=D.frozen 1;have M:=iH D (N.out.trans eY.out) a9.out;have J:=Fx M;clear D M;go_wp2
      (try simp only[Exit.inBlock,Exit.then])
      refine bodyPost_ret (cf rfl _ _ (X+1) _ _ _ _ rfl (J.out _ _).1 Tryz.underlying39 rfl (by kernel_rfl)) rfl ?_;exact ⟨by rw[ad.out];rfl,(J.out _ _).2⟩
     | ok ts =>
      have fn:ts.length=x.outs.length:=AY c9.out;have bk:Hid (∀ t∈ts,ak t=true):=Fx (AZ c9.out);have mK:Hid (kL f (df f (l.drop (t+1)) (putT x.outs ts m))=R):=cq;have gz:=fn;clear cq c9 fn;have l2:=Fx gz;go_wp2_with fail
      refine hA.out.mono ?_;rintro e w7 ⟨⟨B,d,rfl,hV,b8⟩,k7⟩;have lx:=Fx b8;have ca:=Fx (a0.out.keep k7);have m5:=Fx (m1.out.keep k7);have z2:w7.cell? ⟨wt.heap.size,2,none⟩=some (FN B2 x.outs.length e2):=(ey.out.keep k7 (by simp)).cell 2;have zl:=(ey.out.keep k7 (by simp)).lt;have nt:=Fx hV;clear k7 f0 f1 f2 f3 f4 f5 f6 f7 f8 f9 hQ hJ hL hP hY yl b8 gz hV;go_wp2_with fail
      go_loopw [23,24,125] (fun _ _ i wr=>∃ (q:Nat) (he:List (Bs×Value)) (m':Tm),q≤x.outs.length∧i=FR FS q∧m'.length≤m.length+q∧Hid (zv m')∧Hid (jX w X b (FN A0 f.ins.length c0) (FN (some ⟨g,0,none⟩) f.jobs.length c1) (FN A2 f.outs.length c2) he m' wr)∧Hid (Rd wr [] 1 (some ⟨bl,ol,none⟩) l.length (gQ l))∧Hid (eE wr B ts)∧Hid (putT (x.outs.drop q) (ts.drop q) m'=putT x.outs ts m)) (fun _ _ i _=>x.outs.length-(intOf i).toNat)
      case atStart=>exact ⟨0,mv,m,FF _,rfl,Fy _,a1,ca,m5,lx,Fx rfl⟩
      clear z2 zl;obtain ⟨q,he,m',hq,rfl,ne,gk,HN',h5,ff,i4⟩:=hrel;obtain ⟨wq,rfl⟩:∃ z:World,z=wr:=⟨_,rfl⟩
      by_cases bc:q<x.outs.length
      ·have hD:(q:Int)<(x.outs.length:Int):=by omega
       have eA:q<ts.length:=by have:=l2.out;omega
       obtain ⟨b6,o6,rfl,-,m8,c5⟩:=(ix.out.keep HN'.out.k).open' (by omega) (by omega);have s0:=c5 q _ (cC x.outs q bc);have a2:=mE.out _ (FE bc);have eX:=bk.out _ (FE eA);have cy:=yT x.outs ts q bc eA m';rw[i4.out] at cy;have nd:(q:Int)<(ts.length:Int):=by omega
       obtain ⟨n,hn⟩:∃ n,x.outs[q]=n:=⟨_,rfl⟩
       obtain ⟨c,hc⟩:∃ c,ts[q]=c:=⟨_,rfl⟩
       rw[hc] at eX;obtain ⟨b7,o7,A7,c7,A8,c8,rfl,s1,s2,a6⟩:=ff.out.first eA hc (AI.ofRt eX);rw[hn] at s0 a2 cy;rw[hc] at cy;have mb:=Fx cy.symm;obtain ⟨w8,fr,j3,h9⟩:=HN'.out.mp.putT n (.agg #[FN A7 c.cols.length c7,FN A8 c.rows.length c8]) a2 (by have:=HN'.out.cv.len;omega);have el:aa [b] wq w8:=(FK [b] _).grown h9 (fun g hg=> .inl (by injection hg with hg;simp[hg]));obtain ⟨es,l4,bz⟩:=HN'.out.mp.isM;have lj:=Fx (HN'.out.put ⟨A7,c7,A8,c8,rfl,a6⟩ j3 el);have lG:=Fx (h5.out.keepM bz el (by decide));have jc:=Fx (ff.out.keepM bz el);have kl:=Fx (gk.out.put (n:=n) eX);clear c5 cy hn hc j3 h9 el bz a6 eX eA;go_wp2;go_roundw
       case rel=>exact ⟨q+1,_,_,by omega,by go_num,by simp only[FG];omega,kl,lj,lG,jc,mb⟩
       case measure=>simp[intOf];omega
      have hD:¬(q:Int)<(x.outs.length:Int):=by omega
      have m6:Hid (kL f (df f (l.drop (t+1)) m')=R):=Fx (by
       rw[←mK.out,←i4.out,Bd _ _ _ (by omega)])
      go_wp2;go_roundw
      case rel=>exact ⟨t+1,he,m',by omega,by go_num,by omega,gk,HN',h5,m6⟩
      case measure=>simp[intOf];omega
    have mI:¬(t:Int)<(l.length:Int):=by omega
    have ad:Hid (R= .ok (fu f.outs m)):=Fx (by
     have:=HQ.out;rw[List.drop_of_length_le (by omega)] at this;exact this.symm)
    have h6:m.length≤500000000000000:=by omega
    clear HQ;go_wp2;go_meet
    case rel=>exact ⟨mv,m,I,h6,ad⟩
   obtain ⟨mv,m,I,eB,ad⟩:=hcut;obtain ⟨ye,rfl⟩:∃ z:World,z=wc:=⟨_,rfl⟩
   clear br aA bv gl a1;have g6:= @run_makeMap Tryz.prog;have hm:=bI.made (P:=Tryz.prog) (S:=9) ye;have dq:jX w X ye.heap.size (FN A0 f.ins.length c0) (FN A1 f.jobs.length c1) (FN A2 f.outs.length c2) [] [] (ye.alloc (.map #[] 0)):=⟨I.out.k.alloc _,I.out.fb.alloc _,I.out.rb.alloc _,hm,trivial,I.out.k.size,by have h:=I.out.fb.lt;omega,by have h:=I.out.rb.lt;omega⟩;have hN:bI Tryz.prog 9 (ye.alloc (.map #[] 0)) b mv:=I.out.mp.keep ((FK [] _).alloc _) (by simp);have ih:kb (ye.alloc (.map #[] 0)) mv m:=I.out.cv.keep ((FK _ _).alloc _);have kd:b≠ye.heap.size:=Nat.ne_of_lt I.out.mp.lt;have U:=Fx dq;have b3:=Fx hN;have bX:=Fx ih;have h3:=Fx kd;clear hm dq hN ih kd I;go_upto_region 38 with (fail)
   generalize lo:ye.heap.size=b2 at U h3 ⊢;generalize (ye.alloc (.map #[] 0))=y5 at U b3 bX ⊢;clear g6 lo;have p2:y5.cell? ⟨X,2,none⟩=some (FN A2 f.outs.length c2):=U.out.fb.cell 2;have pl:=U.out.fb.lt;go_wp2_with fail
   go_loopw [142] (fun i wr=>∃ (j:Nat) (hI:List (Bs×Value)) (o:Tm),j≤f.outs.length∧i=FR FS j∧o.length≤j∧Hid (jX w X b2 (FN A0 f.ins.length c0) (FN A1 f.jobs.length c1) (FN A2 f.outs.length c2) hI o wr)∧Hid (bI Tryz.prog 9 wr b mv)∧Hid (kb wr mv m)∧Hid (tZ m (f.outs.drop j) o=fu f.outs m)) (fun i _=>f.outs.length-(intOf i).toNat)
   case atStart=>exact ⟨0,[],[],FF _,rfl,Fy _,U,b3,bX,Fx rfl⟩
   clear p2 pl U b3 bX;obtain ⟨j,hI,o,hj,rfl,i5,I,b3,bX,HQ⟩:=hrel;obtain ⟨O,rfl⟩:∃ z:World,z=wr:=⟨_,rfl⟩
   by_cases be:j<f.outs.length
   ·have g3:(j:Int)<(f.outs.length:Int):=by omega
    obtain ⟨g,cs,rfl,hg,-,hp,hc⟩:=H2.out j be;obtain rfl:cs=[FR FS f.outs[j].at_,FM (bs f.outs[j].name),FM (bs f.outs[j].src)]:=hp;have d0:=I.out.k.cell_of (hc 0 _ rfl) (by simp);have d1:=I.out.k.cell_of (hc 1 _ rfl) (by simp);have d2:=I.out.k.cell_of (hc 2 _ rfl) (by simp);rw[Nat.add_zero] at d0;obtain ⟨a2,hH⟩:=HS.out.told _ (FE be);have Z:=HQ.out;rw[List.drop_eq_getElem_cons be,pr] at Z;obtain ⟨x,hx⟩:∃ x,f.outs[j]=x:=⟨_,rfl⟩
    rw[hx] at d0 d1 d2 a2 hH Z;have aA:=Fx Z;have lk:=(b3.out.keep ((FK [] O).alloc (FQ #[FR FS x.at_,FM (bs x.name),FM (bs x.src)] 60)) (by simp)).getT x.src hH;have c3:aa [] O (O.alloc (FQ #[FR FS x.at_,FM (bs x.name),FM (bs x.src)] 60)):=(FK _ _).alloc _;obtain ⟨Av,cv,Bv,dv,ev,a3⟩:=(bX.out.keep c3).get x.src;rw[ev] at lk;have n1:=I.out.cv.len;have dz:=I.out.keep c3;obtain ⟨w7,fr,cd,cj⟩:=dz.mp.putT x.name (.agg #[FN Av (getT m x.src).cols.length cv,FN Bv (getT m x.src).rows.length dv]) a2 (by have:=H2;omega);have ez:aa [b2] (O.alloc (FQ #[FR FS x.at_,FM (bs x.name),FM (bs x.src)] 60)) w7:=(FK [b2] _).grown cj (fun g hg=> .inl (by injection hg with hg;simp[hg]));obtain ⟨es,l4,bz⟩:=dz.mp.isM;have ca:=Fx (dz.put ⟨Av,cv,Bv,dv,rfl,a3⟩ cd ez);have mY:=Fx ((b3.out.keep c3 (by simp)).keep ez (by simpa using h3.out));have lm:=Fx ((bX.out.keep c3).keepM bz ez);clear Z hx hc ev a3 cd cj ez c3 bz dz;go_wp2;go_roundw
    case rel=>exact ⟨j+1,_,_,by omega,by go_num,by simp only[FG];omega,ca,mY,lm,aA⟩
    case measure=>simp[intOf];omega
   have g3:¬(j:Int)<(f.outs.length:Int):=by omega
   have m2:Hid (R= .ok o):=Fx (by
    have h:=HQ.out;rw[List.drop_of_length_le (by omega)] at h;rw[ad.out,←h];rfl)
   have D:=I.out.rb;have c0':O.cell? ⟨X+1,0,none⟩=some (FR FS 0):=D.cell 0;have c1':O.cell? ⟨X+1,1,none⟩=some (FR FS 0):=D.cell 1;have z0':O.frozen? ⟨X+1,0,none⟩=false:=D.frozen 0;have z1':O.frozen? ⟨X+1,1,none⟩=false:=D.frozen 1;have J:=Fx (iH D I.out.k a9.out);have fs:=Fx I.out.fin;have mA:=Fx I.out.hb;clear D;go_wp2
   (try simp only[Exit.inBlock,Exit.then])
   refine bodyPost_ret (cf rfl _ _ (X+1) _ _ _ _ rfl (J.out _ _).1 Tryz.underlying39 rfl (by kernel_rfl)) rfl ?_;exact ⟨by rw[m2.out];exact ⟨_,_,rfl,(fs.out _ _).1,(fs.out _ _).2,by have:=mA.out;have:=lr.out;omega⟩,(J.out _ _).2⟩
theorem nf.of_map {w:World} {b:Nat} {mv:List (Bs×Value)} {m:Tm} (h:bI Tryz.prog 9 w b mv) (O:kb w mv m):nf w (.map (some b)) (fun n=>m.lookup n):=fun W M n Z=>by
 have D:=(h.keep M (by simp)).look (P:=Tryz.prog) Tryz.underlying22 Tryz.underlying9 (z:=Ba) (by kernel_rfl) n (by simp only[maxLen];omega);rcases (O.keep M).look n with ⟨J,I⟩|⟨v,c,J,I,A,N,B,cb,e,U⟩
 ·rw[J] at D
  simp only[I];exact ⟨none,0,none,0,D,aZ.e0 W⟩
 rw[J] at D;simp only[I];subst e;exact ⟨A,N,B,cb,D,U⟩
theorem nf.nil (w:World):nf w (.map none) (fun _=>none):=fun W _ n J=>by
 have h:keyOf Tryz.prog 9 (FM (bs n))=some (.string n):=WideMaps.keyOf_string_mk Tryz.underlying9 (by rw[ag];simp only[maxLen];omega);have I:(zeroValue 54).run Tryz.prog W= .ok Ba W:=by kernel_rfl
 have D:=Maps.look_nil (P:=Tryz.prog) (w:=W) true (Maps.string_keyed Tryz.underlying9) Tryz.underlying22 I h;rw[if_pos rfl] at D;exact ⟨none,0,none,0,D,aZ.e0 W⟩
def EX:Bs:=[105,110,32,112,58,32,105,100,32,105,110,116,59,32,106,111,98,32,97,32,61,32,102,105,108,116,101,114,32,112,32,119,104,101,114,101,32,105,100,32,62,32,49,59,32,111,117,116,32,114,32,61,32,97,59]
def te:Tb:=⟨[⟨[105,100],1⟩],[[⟨1,1,[]⟩],[⟨1,2,[]⟩],[⟨1,3,[]⟩]]⟩
def E5:Bs:=[105,100,58,105,110,116,10,49,10,50,10,51,10]
theorem Bz:ak te=true:=by decide
theorem BA:im te=E5:=by
 have I:Lib.decDigits 1=[49]:=Lib.decDigits_one (by decide);have D:Lib.decDigits 2=[50]:=Lib.decDigits_one (by decide);have h:Lib.decDigits 3=[51]:=Lib.decDigits_one (by decide);simp[im,te,E5,nu,pZ,uj,bd,Lib.itoa,I,D,h,eT]
theorem BB:dE E5= .ok te:=by rw[←BA];exact sv Bz
theorem Ez:∃ f t,fm EX= .ok f∧eF f (fun n=>[(([112]:Bs),te)].lookup n)= .ok [([114],t)]∧t.rows.length=2:=by
 have h:(match fm EX with | .ok f=>(match eF f (fun n=>[(([112]:Bs),te)].lookup n) with | .ok [(n,t)]=>decide (n=[114])&&decide (t.rows.length=2)|_=>false) | .error _=>false)=true:=by decide +kernel
 rcases D:fm EX with x|f
 ·rw[D] at h
  cases h
 rw[D] at h;dsimp only at h
 split at h
 ·rename_i n t I
  rw[Bool.and_eq_true,decide_eq_true_eq,decide_eq_true_eq] at h;obtain ⟨rfl,J⟩:=h;exact ⟨f,t,rfl,I,J⟩
 cases h
theorem zf (A B:Option Addr) (n c m d:Nat) (W:World):(Instr.field 54 (.agg #[FN A n c,FN B m d]) 1).run Tryz.prog W= .ok (FN B m d) W:=by kernel_rfl
theorem pY (w:World) (hE:jU w) (hO:mf w) (hT:iJ w) :
  Calls Tryz.prog 6 #[] w fun e w'=>e=FP (.bool true)∧aa [] w w':=by
 obtain ⟨f,t,hp,a3,a1⟩:=Ez;have hf:=(pv (by decide) hp).1;have HF:=Fx hf;have be:=Fx a3;have bq:=Fx a1;have HE:=Fx hE;have HO:=Fx hO;have HT:=Fx hT;have H1:Hid (Calls Tryz.prog 17 #[FM (bs EX)] w fun e w'=>jO (.ok f) w.heap.size e w'∧aa [] w w'):=Fx (by
  rw[←hp];exact qT EX (by decide) w hE)
 have H2:Hid (∀ W,aa [] w W→Calls Tryz.prog 18 #[FM (bs E5)] W fun e w'=>∃ A B c d,e=FP (.tuple #[.agg #[FN A 1 c,FN B 3 d],.nilIface])∧aZ w' te A B c d∧aa [] W w'):=Fx (fun W z=>By BB (by decide) W (hO.t.quiet z));clear hp a3 hf hE hO hT a1;go_enter Tryz.func6,Tryz.ntmps6
 go_wp2_with fail
 refine H1.out.mono ?_;rintro e w1 ⟨⟨v0,v1,v2,rfl,i0,i1,i2⟩,k1⟩;have aA:ik w1 _ v0 v1 v2 f:=⟨i0,i1,i2⟩;obtain ⟨A0,c0,A1,c1,A2,c2,rfl,rfl,rfl⟩:=aA.forms;have bc:=Fx aA;have ba:=Fx k1;clear i0 i1 i2 aA k1;go_upto_region 4 with (fail)
 have M:=FL w1 29 #[FN A0 f.ins.length c0,FN A1 f.jobs.length c1,FN A2 f.outs.length c2];have av:aa [] w1 (w1.alloc (FQ #[FN A0 f.ins.length c0,FN A1 f.jobs.length c1,FN A2 f.outs.length c2] 29)):=(FK _ _).alloc _;generalize (w1.alloc (FQ #[FN A0 f.ins.length c0,FN A1 f.jobs.length c1,FN A2 f.outs.length c2] 29))=y2 at M av ⊢;generalize w1.heap.size=F at M ⊢;have bb:=Fx M;have a0:=Fx av;clear M av;go_wp2_with fail
 refine (H2.out _ (ba.out.trans a0.out)).mono ?_;rintro e w2 ⟨A,B,c,d,rfl,a6,k3⟩;have bj:=Fx a6;have Z:=Fx k3;clear a6 k3;go_upto_region 7 with (fail)
 have I:=FL w2 54 #[FN A 1 c,FN B 3 d];have D:aa [] w2 (w2.alloc (FQ #[FN A 1 c,FN B 3 d] 54)):=(FK _ _).alloc _;generalize (w2.alloc (FQ #[FN A 1 c,FN B 3 d] 54))=y4 at I D ⊢;generalize w2.heap.size=T at I ⊢;have br:=Fx I;have bv:=Fx D;have O:=bb.out.keep (Z.out.trans D) (by simp);have f0:y4.cell? ⟨F,0,none⟩=some (FN A0 f.ins.length c0):=O.cell 0;have f1:y4.cell? ⟨F,1,none⟩=some (FN A1 f.jobs.length c1):=O.cell 1;have f2:y4.cell? ⟨F,2,none⟩=some (FN A2 f.outs.length c2):=O.cell 2;have t0:(y4.alloc (.map #[] 0)).cell? ⟨T,0,none⟩=some (FN A 1 c):=(I.alloc (.map #[] 0)).cell 0;have t1':(y4.alloc (.map #[] 0)).cell? ⟨T,1,none⟩=some (FN B 3 d):=(I.alloc (.map #[] 0)).cell 1;have bo:= @run_makeMap Tryz.prog;have hm:=bI.made (P:=Tryz.prog) (S:=9) y4;obtain ⟨w5,J,a9,a4⟩:=hm.putT [112] (.agg #[FN A 1 c,FN B 3 d]) (by decide) (by decide);have a7:(Instr.mapUpdate 22 (.map (some y4.heap.size)) (FM ⟨#[112]⟩) (.agg #[FN A 1 c,FN B 3 d])).run Tryz.prog (y4.alloc (.map #[] 0))= .ok () w5:=J;have a8:aa [y4.heap.size] (y4.alloc (.map #[] 0)) w5:=(FK [y4.heap.size] _).grown a4 (fun g hg=> .inl (by injection hg with hg;simp[hg]));have hk5':aa [] y4 w5:=((FK [] y4).alloc (.map #[] 0)).trans' a8 (fun x hx hl=>by rw[List.mem_singleton.1 hx] at hl;exact absurd hl (Nat.lt_irrefl _));have a5:kb w5 [([112],.agg #[FN A 1 c,FN B 3 d])] [([112],te)]:=⟨rfl,⟨A,c,B,d,rfl,(bj.out.quiet D).quiet hk5'⟩,trivial⟩;have U:aa [] w w5:=ba.out.trans (a0.out.trans (Z.out.trans (D.trans hk5')));have a2:=Fx (mi f _ _ _ (.map (some y4.heap.size)) (fun n=>[(([112]:Bs),te)].lookup n) w5 (((bc.out.flIn HF.out).keep (a0.out.trans (Z.out.trans D))).keep hk5') HF.out.short (HO.out.quiet U) (HT.out.keep U (by simp)) HF.out.colNames (nf.of_map a9 a5));rw[be.out] at a2;have bl:=Fx U;clear J hm a9 a4 a8 hk5' a5 U I D O;go_wp2_with fail
 refine a2.out.mono ?_;rintro e w6 ⟨⟨b,mv,rfl,ad,N,-⟩,k6⟩;obtain ⟨v,rfl,Ar,cr,Br,dr,rfl,bm⟩:∃ v,mv=[([114],v)]∧qQ w6 v t:=by
  rcases mv with _|⟨⟨n,v⟩,_|⟨q,mv⟩⟩
  ·exact N.elim
  ·obtain ⟨e,h1,_⟩:=N
   exact ⟨v,by simp only at e;rw[e],h1⟩
  exact N.2.2.elim
 have q1:∀ (ty:TypeId) (o:Obj),(Builtin.len_ #[22] ty #[.map (some b)]).run Tryz.prog (w6.alloc o)= .ok (FR FS 1) (w6.alloc o):=fun ty o=>(ad.keep ((FK [] _).alloc o) (by simp)).len Tryz.underlying22 ty
 have q2:∀ (o:Obj),(Instr.lookup 22 (.map (some b)) (FM ⟨#[114]⟩) false).run Tryz.prog (w6.alloc o)= .ok (.agg #[FN Ar t.cols.length cr,FN Br 2 dr]) (w6.alloc o):=fun o=>by
  have h:=(ad.keep ((FK [] _).alloc o) (by simp)).getT [114] (by decide);rw[bq.out] at h;exact h
 have q3:= @zf;have bk:=Fx (bl.out.trans k6);clear k6 ad N bm f0 f1 f2 t0 t1' a7 bo;go_wp2;go_ret;exact ⟨rfl,bk.out.alloc _⟩
end
section
open Go.RowKit Go.BigFrame
attribute [local go_sem] ag ab ae af KW.cell
theorem zi (v:Value) (w:World) (h:uw w v):Calls Tryz.prog 5 #[v] w fun e w'=>(∃ r,e=FP (.bool r)∧(r=true→Bf w v))∧aa [] w w':=by
 rcases h with rfl|⟨b,mv,rfl,N,O,M,J⟩
 ·refine (yU w).mono ?_
  rintro e w' ⟨rfl,D⟩;exact ⟨⟨true,rfl,fun _=> .inl rfl⟩,D⟩
 refine (yV b mv w N O M J).mono ?_;rintro e w' ⟨⟨r,rfl,I⟩,D⟩;refine ⟨⟨r,rfl,fun h=>?_⟩,D⟩;obtain ⟨m,U⟩:=I h;exact .inr ⟨b,mv,m,rfl,U⟩
theorem Bf.gv {w:World} {v:Value} (h:Bf w v):∃ D:Tm,nf w v (fun n=>D.lookup n):=by
 rcases h with rfl|⟨b,mv,m,rfl,h⟩
 ·exact ⟨[],nf.nil w⟩
 exact ⟨m,nf.of_map h.mp h.cv⟩
def CV (W:World) (R:Except (Int×Int) Tm) (I:Value) (D h:Int):Prop:=match R with
 | .ok o=>(∃ b mv,I= .map (some b)∧bI Tryz.prog 9 W b mv∧kb W mv o)∧D=0∧h= -1
 | .error x=>I= .map none∧D=x.1∧h=x.2
theorem CV.keep {W W':World} {R:Except (Int×Int) Tm} {M:Value} {J D:Int} (h:CV W R M J D) (I:aa [] W W'):CV W' R M J D:=by
 cases R with
 | ok o =>
  obtain ⟨⟨b,mv,U,Z,O⟩,N⟩:=h;exact ⟨⟨b,mv,U,Z.keep I (by simp),O.keep I⟩,N⟩
 | error x=>exact h
theorem tY.sh {R:Except (Int×Int) Tm} {base:Nat} {e:Ending} {W:World} (h:tY R base e W):∃ J I D,e=FP (.tuple #[J,.agg #[FR FS I,FR FS D]])∧CV W R J I D:=by
 cases R with
 | ok o =>
  obtain ⟨b,mv,N,O,M,_⟩:=h;exact ⟨_,_,_,N,⟨b,mv,rfl,O,M⟩,rfl,rfl⟩
 | error x=>exact ⟨_,_,_,h,rfl,rfl,rfl⟩
theorem ue:∀ {m D:List (Bs×Value)},m.map (·.1)=D.map (·.1)→mV m=mV D
 | [],[],_=>rfl
 | [],_::_,h=>by cases h
 | _::_,[],h=>by cases h
 | x::m,y::D,h=>by
  rw[List.map_cons,List.map_cons] at h;injection h with J I;have M:(m.lookup x.1).isSome=(D.lookup y.1).isSome:=by
   rw[Bool.eq_iff_iff,cX,cX,J,I]
  unfold mV;rw[M,ue I]
theorem pE (h:Tm):∀ (l:List Pb) (o:Tm) (p:Bs×Tb),p∈tZ h l o→p∈o∨∃ x∈l,p.1=x.name
 | [],_,_,D=> .inl D
 | x::l,o,p,D=>by
  rw[pr] at D;rcases pE h l _ p D with I|⟨y,J,e⟩
  ·rcases List.mem_cons.1 I with rfl|I
   ·exact .inr ⟨x,List.mem_cons_self ..,rfl⟩
   exact .inl I
  exact .inr ⟨y,List.mem_cons_of_mem _ J,e⟩
theorem vV {f:Fl} {gv:Bs→Option Tb} {a:Tm} (h:eF f gv= .ok a):∀ p∈a,∃ x∈f.outs,p.1=x.name:=by
 obtain ⟨h',rfl⟩:∃ h',a=tZ h' f.outs []:=by
  unfold eF at h;split at h
  ·cases h
  split at h
  ·cases h
  split at h
  ·cases h
  split at h
  ·cases h
  injection h with h;exact ⟨_,h.symm⟩
 intro p I;rcases pE h' f.outs [] p I with D|D
 ·cases D
 exact D
theorem aZ.rdT {w:World} {t:Tb} {A B:Option Addr} {c d:Nat} (h:aZ w t A B c d):nz w t A B:=⟨h.cols,h.rows,h.ln,h.lm,h.lr⟩
theorem uf {f:Fl}:∀ {l:List Nat} {m:Tm} {x:Int×Int},(∀ k∈l,k<f.jobs.length)→df f l m= .error x→x.2≤f.jobs.length
 | [],m,x,_,h=>by cases h
 | k::l,m,x,I,h=>by
  unfold df at h
  cases D:j5 (jb f k) ((jb f k).ins.map (getT m)) with
  | error e =>
   rw[D] at h;injection h with h;rw[←h];have:=I k (List.mem_cons_self ..);show (k:Int)≤_;omega
  | ok cs=>rw[D] at h;exact uf (fun k J=>I k (List.mem_cons_of_mem _ J)) h
theorem wP {gv:Bs→Option Tb}:∀ {l:List In} {m:Tm} {x:Int×Int},fX gv l m= .error x→x.2= -1
 | [],m,x,h=>by cases h
 | y::l,m,x,h=>by
  unfold fX at h;split at h
  ·cases h;rfl
  split at h
  ·exact wP h
  cases h;rfl
theorem BG {f:Fl} {gv:Bs→Option Tb} {x:Int×Int} (h:eF f gv= .error x):x.2≤f.jobs.length:=by
 unfold eF at h;split at h
 ·cases h;show (-1:Int)≤_;omega
 split at h
 ·rename_i D
  cases h
  rw[wP D];omega
 split at h
 ·cases h;show (-1:Int)≤_;omega
 rename_i D;split at h
 ·rename_i I
  cases h
  exact uf (fF D).1.lt I
 cases h
theorem EY (s:Bs) (v:Value) (name:Bs) (w:World) (hE:jU w) (hO:mf w) (hT:iJ w) (hM:uw w v) :
  Calls Tryz.prog 4 #[FM (bs s),v,FM (bs name)] w fun e w'=>e=FP (.bool true)∧aa [] w w':=by
 have HE:=Fx hE;have HO:=Fx hO;have HT:=Fx hT;have e0:=Fx (zi v w hM);clear hE hO hT hM;have dq:=Fx (fun W (z:aa [] w W)=>pY W (HE.out.quiet z) (HO.out.quiet z) (HT.out.keep z (by simp)));have HR:=Fx (fun W (z:aa [] w W)=>vS s W (HE.out.quiet z) (HO.out.c.quiet z) (HT.out.keep z (by simp)));obtain ⟨R,hR⟩:∃ R,pB s=R:=⟨_,rfl⟩
 rw[hR] at HR;have en:=Fx hR;clear hR;go_enter Tryz.func4,Tryz.ntmps4
 go_wp2_with fail
 refine e0.out.mono ?_;rintro e w0 ⟨⟨r,rfl,cy⟩,k0⟩
 cases r with
 | false =>
  go_wp2;go_ret;exact ⟨rfl,k0⟩
 | true =>
 have ff:=Fx (cy rfl);obtain ⟨m0,d4⟩:=ff.out.gv;have c9:=Fx d4;have br:=Fx k0;clear cy d4 k0 e0;by_cases g4:40<name.length
 ·have hi:(40:Int)<(name.length:Int):=by omega
  go_wp2;go_ret;exact ⟨rfl,br.out⟩
 have hi:¬(40:Int)<(name.length:Int):=by omega
 have b1:name.length≤40:=by omega
 go_wp2_with fail
 refine (dq.out _ br.out).mono ?_;rintro e w1 ⟨rfl,k1⟩;have cv:=Fx (br.out.trans k1);clear k1 dq br;go_wp2_with fail
 refine (HR.out _ cv.out).mono ?_;rintro e w2 ⟨ro,k2⟩;have bc:=Fx (cv.out.trans k2);clear k2 HR cv;rcases hr:R with _|f
 ·rw[hr] at ro
  obtain ⟨A0,n0,c0,A1,n1,c1,A2,n2,c2,rfl⟩:=ro;clear hr;go_wp2;go_ret;exact ⟨rfl,bc.out.alloc _⟩
 rw[hr] at ro en;obtain ⟨base,A0,c0,A1,c1,A2,c2,rfl,eY⟩:=ro;obtain ⟨gi,hp,m,c7⟩:=vU en.out;have cm:=(pv (by omega) hp).1;have HW:=Fx cm;have fs:=Fx c7;have cg:=Fx (eY.flIn cm);clear hr eY hp cm c7;go_wp2_with fail
 have bj:=(FK [] w2).alloc (FQ #[FN A0 f.ins.length c0,FN A1 f.jobs.length c1,FN A2 f.outs.length c2] 29);have HM:=Fx (BF f _ _ _ name b1 _ (cg.out.keep bj) (FD HW.out.njobs (by decide)));refine HM.out.mono ?_;rintro e w3 ⟨mo,k3⟩;have D:=Fx (bc.out.trans (bj.trans k3));have cr:=Fx ((FL w2 29 #[FN A0 f.ins.length c0,FN A1 f.jobs.length c1,FN A2 f.outs.length c2]).keep k3 (by simp));have b3:=Fx (cg.out.keep (bj.trans k3));obtain ⟨F1,ez⟩:∃ F,w2.heap.size=F:=⟨_,rfl⟩
 rw[ez] at cr ⊢;clear k3 HM cg ez bj;unfold nr at mo;by_cases aA:mm f name=true
 case neg =>
  rw[if_neg aA] at mo;obtain ⟨gz,rfl,-,A',c',rfl,-⟩:=mo;clear aA;go_wp2;go_ret;exact ⟨rfl,D.out.alloc _⟩
 case pos =>
 rw[if_pos aA] at mo;obtain ⟨A,c,rfl,cz⟩:=mo;have fr:=Fx aA;have c6:=Fx cz;clear aA cz
 cases bz:ml f name with
 | true =>
  clear bz;go_wp2;go_ret;exact ⟨rfl,D.out.alloc _⟩
 | false =>
 have fn:Hid (name∉bf f):=Fx (fun h=>by rw[zj,decide_eq_true h] at bz;cases bz);clear bz;go_upto_region 11 with (fail)
 have co:f.ins≠[]:=by
  have h:=fr.out;unfold mm at h
  cases hx:f.ins with
  | nil=>rw[hx] at h;cases h
  | cons a l=>simp
 have bk:=FL w3 29 #[FN A0 f.ins.length c0,FN A (1+f.jobs.length) c,FN A2 f.outs.length c2];have U:=(FK [] w3).alloc (FQ #[FN A0 f.ins.length c0,FN A (1+f.jobs.length) c,FN A2 f.outs.length c2] 29);obtain ⟨y0,eb⟩:∃ z,w3.alloc (FQ #[FN A0 f.ins.length c0,FN A (1+f.jobs.length) c,FN A2 f.outs.length c2] 29)=z:=⟨_,rfl⟩
 rw[eb] at bk U ⊢;obtain ⟨F2,e7⟩:∃ F,w3.heap.size=F:=⟨_,rfl⟩
 rw[e7] at bk ⊢;have J:=Fx (D.out.trans U);have bo:=Fx (cr.out.keep U (by simp));have be:=Fx bk;have a9:=Fx (b3.out.keep U);have b7:Hid (jj y0 (FN A0 f.ins.length c0) (FN A (1+f.jobs.length) c) (FN A2 f.outs.length c2) (aW f name)):=Fx (a9.out.more (c6.out.keep U fun _ _ h=>h.keep U));have e9:=Fx (vW (name:=name) HW.out co b1);have e8:∀ x∈(aW f name).ins,∀ c∈x.cols,c.name.length≤1000000000:=HW.out.colNames
 have dv:Hid (Calls Tryz.prog 9 #[.agg #[FN A0 f.ins.length c0,FN A1 f.jobs.length c1,FN A2 f.outs.length c2],v] y0 fun e w'=>tY (eF f (fun n=>m0.lookup n)) y0.heap.size e w'∧aa [] y0 w'):=Fx (
  mi f _ _ _ v (fun n=>m0.lookup n) y0 a9.out HW.out.short (HO.out.quiet J.out) (HT.out.keep J.out (by simp)) HW.out.colNames (c9.out.keep (J.out)))
 have d6:Hid (∀ W,aa [] y0 W→Calls Tryz.prog 9 #[.agg #[FN A0 f.ins.length c0,FN A (1+f.jobs.length) c,FN A2 f.outs.length c2],v] W fun e w'=>tY (eF (aW f name) (fun n=>m0.lookup n)) W.heap.size e w'∧aa [] W w'):=Fx (fun W z =>
  mi (aW f name) _ _ _ v (fun n=>m0.lookup n) W (b7.out.keep z) e9.out (HO.out.quiet (J.out.trans z)) (HT.out.keep (J.out.trans z) (by simp)) e8 (c9.out.keep (J.out.trans z)))
 have cj:=Fx (zh fs.out co fn.out (fun n=>m0.lookup n));have a0:y0.cell? ⟨F1,0,none⟩=some (FN A0 f.ins.length c0):=bo.out.cell 0;have a1:y0.cell? ⟨F1,1,none⟩=some (FN A1 f.jobs.length c1):=bo.out.cell 1;have a2:y0.cell? ⟨F1,2,none⟩=some (FN A2 f.outs.length c2):=bo.out.cell 2;clear bk U eb e7 e8 co cr b3 D a9 b7 e9 c6 bo;go_wp2_with fail
 refine dv.out.mono ?_;rintro e y2 ⟨a5,k2⟩;obtain ⟨av,xe,xj,rfl,a8⟩:=a5.sh;have e4:=Fx a8;have bc:=Fx k2;clear a5 a8 k2 a0 a1 a2 dv;go_upto_region 12 with (fail)
 have bl:=FL y2 39 #[FR FS xe,FR FS xj];have O:=(FK [] y2).alloc (FQ #[FR FS xe,FR FS xj] 39);obtain ⟨y3,e5⟩:∃ z,y2.alloc (FQ #[FR FS xe,FR FS xj] 39)=z:=⟨_,rfl⟩
 rw[e5] at bl O ⊢;obtain ⟨FX,d9⟩:∃ F,y2.heap.size=F:=⟨_,rfl⟩
 rw[d9] at bl ⊢;have c4:=Fx bl;have b6:=Fx (e4.out.keep O);have D:=Fx (bc.out.trans O);clear bl O e5 d9 e4 bc;have g0:y3.cell? ⟨F2,0,none⟩=some (FN A0 f.ins.length c0):=(be.out.keep D.out (by simp)).cell 0;have g1:y3.cell? ⟨F2,1,none⟩=some (FN A (1+f.jobs.length) c):=(be.out.keep D.out (by simp)).cell 1;have g2:y3.cell? ⟨F2,2,none⟩=some (FN A2 f.outs.length c2):=(be.out.keep D.out (by simp)).cell 2;go_wp2_with fail
 refine (d6.out _ D.out).mono ?_;rintro e y7 ⟨a5,k7⟩;obtain ⟨bv,ye,yj,rfl,a8⟩:=a5.sh;have eX:=Fx a8;have bZ:=Fx (b6.out.keep k7);have eA:=Fx (c4.out.keep k7 (by simp));have d7:=Fx (J.out.trans (D.out.trans k7));clear a5 a8 k7 g0 g1 g2 d6 b6 c4 D J be;go_upto_region 13 with (fail)
 have a6:=FL y7 39 #[FR FS ye,FR FS yj];have ad:=(FK [] y7).alloc (FQ #[FR FS ye,FR FS yj] 39);obtain ⟨I,d5⟩:∃ z,y7.alloc (FQ #[FR FS ye,FR FS yj] 39)=z:=⟨_,rfl⟩
 rw[d5] at a6 ad ⊢;obtain ⟨FY,e6⟩:∃ F,y7.heap.size=F:=⟨_,rfl⟩
 rw[e6] at a6 ⊢;have cu:=Fx (d7.out.trans ad);have N:=Fx (eX.out.keep ad);have M:=Fx (bZ.out.keep ad);have a7:=eA.out.keep ad (by simp);have x0:I.cell? ⟨FX,0,none⟩=some (FR FS xe):=a7.cell 0;have x1:I.cell? ⟨FX,1,none⟩=some (FR FS xj):=a7.cell 1;have v0:I.cell? ⟨FY,0,none⟩=some (FR FS ye):=a6.cell 0;have v1:I.cell? ⟨FY,1,none⟩=some (FR FS yj):=a6.cell 1;clear a6 ad d5 e6 a7 eX bZ d7 eA;rcases cj.out with ⟨a,ha,hb⟩|⟨ex,ey,ha,hb,c3,el,b9,cn⟩
 ·-- BEGIN ok
  rw[ha] at M;rw[hb] at N;obtain ⟨⟨ba,c5,rfl,ce,cq⟩,rfl,rfl⟩:=M.out;obtain ⟨⟨bb,dr,rfl,ci,ch⟩,rfl,rfl⟩:=N.out;obtain ⟨n,hn⟩:∃ n,mV c5=n:=⟨_,rfl⟩
  have dB:mV dr=n:=by rw[←hn];exact ue (ch.fst.trans cq.fst.symm)
  have q1:∀ Z,(Builtin.len_ #[22] Z #[.map (some ba)]).run Tryz.prog I= .ok (FR FS n) I:=fun Z=>by
   rw[←hn];exact ce.len Tryz.underlying22 Z
  have q2:∀ Z,(Builtin.len_ #[22] Z #[.map (some bb)]).run Tryz.prog I= .ok (FR FS n) I:=fun Z=>by
   rw[←dB];exact ci.len Tryz.underlying22 Z
  have fc:=Fx ce;have f5:=Fx cq;have f0:=Fx ci;have f6:=Fx ch;have J:Hid (∀ p∈a,p.1.length≤1000):=Fx (fun p hp=>by
   obtain ⟨x,hx,e⟩:=vV ha p hp;rw[e];exact (HW.out.short.told x hx).1)
  clear ce cq ci ch hn dB ha hb cj M N;go_wp2_with (refine iW rfl _ rfl Tryz.underlying22 Tryz.underlying9 rfl fc.out ?_)
  intro y9 bm k9 ca;obtain ⟨r,hr⟩:∃ r,I.heap.size=r:=⟨_,rfl⟩
  rw[hr] at bm ⊢;have f3:=Fx bm;have dz:=Fx k9;have c8:Hid (I.heap.size≤r):=Fx (by omega);clear bm k9 ca hr q1 q2 x0 x1 v0 v1;go_wp2_with fail
  go_loopw [14] (fun _ wr=>∃ L cd,Hid (fj Tryz.prog 9 wr ba r c5 L cd)∧Hid (aa [r] y9 wr)) (fun _ wr=>wr.rangeLeft ba r)
  case atStart=>exact ⟨_,_,f3,Fx (FK _ _)⟩
  obtain ⟨L,cd,bq,a3⟩:=hrel;obtain ⟨z,rfl⟩:∃ z:World,z=wr:=⟨_,rfl⟩
  go_wp2_with (refine jY rfl _ rfl Tryz.underlying9 rfl bq.out ?hDone ?hMore)
  case hDone =>
   intro _ _;have a4:Hid (aa [] I z):=Fx ((dz.out.of_nil.trans a3.out).weaken fun x hx hl=>by rw[List.mem_singleton] at hx;have:=c8.out;omega);have f2:=Fx (cu.out.trans a4.out);clear bq a3;go_wp2;go_ret;exact ⟨rfl,f2.out⟩
  case hMore =>
   intro k v' z2 d1 f1 cx b4 ev b8 ca f8;have a4:Hid (aa [] I z2):=Fx (((dz.out.of_nil.trans a3.out).trans b8).weaken fun x hx hl=>by rw[List.mem_singleton] at hx;have:=c8.out;omega);obtain ⟨t,bX,fS⟩:∃ t,a.lookup k=some t∧qQ I v' t:=by
    rcases f5.out.look k with ⟨h,_⟩|⟨v1,t,h1,h2,h3⟩
    ·rw[cx] at h;cases h
    rw[cx] at h1;cases h1
    exact ⟨t,h2,h3⟩
   obtain ⟨v2,d2,er⟩:∃ v2,dr.lookup k=some v2∧qQ I v2 t:=by
    rcases f6.out.look k with ⟨_,h⟩|⟨v1,t',h1,h2,h3⟩
    ·rw[bX] at h;cases h
    rw[bX] at h2;cases h2
    exact ⟨v1,h1,h3⟩
   have f4:k.length≤1000:=J.out (k,t) (gp bX);obtain ⟨At,ct,Bt,dt,rfl,eB⟩:=fS;obtain ⟨As,cs,d0,ds,rfl,d8⟩:=er;have q3:=(f0.out.keep (a4.out.alloc (FQ #[FN At t.cols.length ct,FN Bt t.rows.length dt] 54)) (by simp)).getT k f4;rw[d2] at q3;simp only[Option.getD_some] at q3;have bZ:Hid (Calls Tryz.prog 12 #[.agg #[FN As t.cols.length cs,FN d0 t.rows.length ds],.agg #[FN At t.cols.length ct,FN Bt t.rows.length dt]] (z2.alloc (FQ #[FN At t.cols.length ct,FN Bt t.rows.length dt] 54)) fun e w'=>e=FP (.bool true)∧aa [] (z2.alloc (FQ #[FN At t.cols.length ct,FN Bt t.rows.length dt] 54)) w'):=Fx (by
    have h:=zz t t As d0 At Bt cs ds ct dt (z2.alloc (FQ #[FN At t.cols.length ct,FN Bt t.rows.length dt] 54)) (d8.quiet (a4.out.alloc _)).rdT (eB.quiet (a4.out.alloc _)).rdT;rw[decide_eq_true rfl] at h;exact h)
   have es:=Fx b4;have fz:=Fx (a3.out.trans b8);have fb:z.rangeLeft ba r=cd:=bq.out.left_eq;have f7:Hid (d1<z.rangeLeft ba r):=Fx (by rw[fb];exact ev);clear f1 cx b4 ev b8 ca bX d2 eB d8 fb a3 bq;go_wp2_with fail
   refine bZ.out.mono ?_;rintro e z3 ⟨rfl,k3⟩;have O:aa [] z2 z3:=((FK _ _).alloc _).trans k3;have b0:=Fx (es.out.kept O (by simp) (by simp));have d3:=Fx (fz.out.trans O.of_nil);have b5:z3.rangeLeft ba r<z.rangeLeft ba r:=by rw[b0.out.left_eq];exact f7.out
   have et:=Fx b5;clear k3 b5 O;go_wp2;go_roundw
   case rel=>exact ⟨_,_,b0,d3⟩
   case measure=>exact et.out
 -- BEGIN bad
 rw[ha] at M;rw[hb] at N;obtain ⟨rfl,rfl,rfl⟩:=M.out;obtain ⟨rfl,rfl,rfl⟩:=N.out;obtain ⟨e1,j1⟩:=ex;obtain ⟨e2,j2⟩:=ey;obtain rfl:e1=e2:=c3;have gk:j1≤f.jobs.length:=BG ha;have gm:f.jobs.length≤16:=HW.out.njobs;have q1:(e1==0)=false:=by rw[beq_eq_false_iff_ne];exact el
 have bm:=run_range_nilMap (P:=Tryz.prog) I 22 9 54 Tryz.underlying22;have gl:∀ Z,(Instr.next (FO (some ⟨I.heap.size,0,none⟩)) false Z).run Tryz.prog (I.alloc (.mapIter none 0 #[] 0))=_:=fun Z=>run_next_nilMap I Z 0 0 #[]
 have g3:∀ Z,(Builtin.len_ #[22] Z #[.map none]).run Tryz.prog I= .ok (FR FS 0) I:=fun Z=>Maps.len_nil Tryz.underlying22 Z
 clear ha hb cj M N;by_cases s1:j1<0
 ·obtain rfl:j2=j1:=b9 s1
  clear b9 cn;go_wp2_with fail
  go_loopw [14] (fun _ wr=>wr=I.alloc (.mapIter none 0 #[] 0)) (fun _ _=>0)
  case atStart=>rfl
  subst hrel;go_wp2;go_ret;exact ⟨rfl,cu.out.alloc _⟩
 have f9:IntKind.i64.wrap (j1+1)=j1+1:=by simp[IntKind.wrap,IntKind.bits,IntKind.signed];omega
 obtain rfl:j2=j1+1:=cn (by omega);have s2:0≤j1:=by omega
 have s3:(0:Int)≤j1:=by omega
 clear b9 cn;go_wp2_with fail
 go_loopw [14] (fun _ wr=>wr=I.alloc (.mapIter none 0 #[] 0)) (fun _ _=>0)
 case atStart=>rfl
 subst hrel;go_wp2;go_ret;exact ⟨rfl,cu.out.alloc _⟩
end
section
open Go.RowKit Go.Shelf Go.ChangeShapes Go.WideShapes
namespace Emo
theorem env {W:World} (h:laidMetH Tryz.prog Rows.evalMoreRow.laid W) (I:W.ShapedOpen Tryz.prog):jU W∧mf W∧iJ W:=by
 have D:=vX (hd:=("errors.errorType",Rows.laid_errors_errorType)) (by kernel_rfl) h;exact ⟨CW (by kernel_rfl) (by kernel_rfl) (by kernel_rfl) (by kernel_rfl) (by kernel_rfl) D.1 I,⟨CZ (by kernel_rfl) (by kernel_rfl) (by kernel_rfl) (by kernel_rfl) D.1 I,⟨ui (gF "foreman/ops.compares" Rows.laid_foreman_ops_compares (by kernel_rfl) D.1)⟩⟩,zq (List.mem_singleton.2 rfl) D.2⟩
theorem BI (os:Os) (args:Array Value):laidMetH Tryz.prog Rows.evalMoreRow.laid ((uh os).forCall (fun _ _=>0) ⟨#[],args,[]⟩).memory :=
 laidMetH_of_parts3 (fuel:=8) (laidMet_of_run' 8 (by kernel_rfl) (by kernel_rfl)) (by kernel_rfl) (by kernel_rfl)
theorem EA (os:Os) (I:os.Started) (H:Type) (enc:TypeId×Value→H) :
  ReturnsInHanded {} Tryz.checked os 4 .any (fun w args=>(Rows.evalMoreSpec.pre enc Tryz.prog Tryz.f4 [] false w args∧laidMetH Tryz.prog Rows.evalMoreRow.laid w)∧sizedMet enc Tryz.prog Tryz.f4 (OpenSpec.ofChange Rows.evalMoreSpec) false w args)
   (Rows.evalMoreSpec.post enc Tryz.prog Tryz.f4 false true false false):=by
 refine pG (C:=Tryz.checked) (X:=fun w _=>laidMetH Tryz.prog Rows.evalMoreRow.laid w) (fun _ _ _ hh h=>h.of_heap hh) Fr.own I (by kernel_rfl) Tryz.func4
  (ChangeSpec.witness_shaped (enc:=enc) (C:=Tryz.checked) (os:=os) (X:=fun w _=>laidMetH Tryz.prog Rows.evalMoreRow.laid w) false (uh os) #[.string ⟨#[]⟩,.map none,.string ⟨#[]⟩] 8 rfl (World.shaped_of_RefB (by kernel_rfl) (by kernel_rfl)) (by kernel_rfl) (by kernel_rfl) (by kernel_rfl) (BI os _)) ?_
 intro W base args ds gs U J hW hL M;have D:∀ (j:Nat) t v,Tryz.f4.params[j]? = some t→args[j]? = some v→Value.okWide Tryz.prog W .any base t v:=J
 have hW':=hW;obtain ⟨p,q,ad,hV,rfl,a1,a0⟩:=hW;have hA:DataW.TrodAll enc Tryz.prog W 0 (fun _=>true) true Tryz.f4.params.toList args.toList ds p:=ad;rw[Tryz.params4] at hA D;obtain ⟨v0,v1,v2,d0,d1,d2,p0,p1,p2,rfl,rfl,rfl,h0,h1,h2⟩:=trodAll_three hA;obtain ⟨rfl,rfl⟩:=trodVars_none hV;have av:∀ x∈p0,x.block<W.heap.size:=by obtain ⟨m,N⟩:=h0;exact DataW.trod_lt m _ _ _ N
 have Z:∀ x∈p1,x.block<W.heap.size:=by obtain ⟨m,N⟩:=h1;exact DataW.trod_lt m _ _ _ N
 have aA:∀ x∈p2,x.block<W.heap.size:=by obtain ⟨m,N⟩:=h2;exact DataW.trod_lt m _ _ _ N
 have g0:=h0;obtain ⟨s,rfl,-,-,-⟩:=Go.ChangeMaps.open_string Tryz.underlying9 (D 0 _ v0 rfl rfl) g0;have g1:=h1;have mh:=xm (D 1 _ v1 rfl rfl) g1;have g2:=h2;obtain ⟨name,rfl,-,-,-⟩:=Go.ChangeMaps.open_string Tryz.underlying9 (D 2 _ v2 rfl rfl) g2;refine (EY s.data.toList v1 name.data.toList W (env hL M).1 (env hL M).2.1 (env hL M).2.2 mh).mono fun ev W' ⟨he,O⟩=>?_
 subst he;have k0:=aa.trod Fr.laidOut (by kernel_rfl) (of_decide_eq_true (by kernel_rfl)) h0 O av;have k1:=aa.trod Fr.laidOut (by kernel_rfl) (of_decide_eq_true (by kernel_rfl)) h1 O Z;have k2:=aa.trod Fr.laidOut (by kernel_rfl) (of_decide_eq_true (by kernel_rfl)) h2 O aA;exact ⟨_,rfl,_,_,_,[],_,[],hW',trodAll_mk1 (shut_bool Tryz.underlying4 _),trodAll_mk3 k0 k1 k2,rfl,O.frame _,fun h=>by cases h⟩
theorem said:Rows.EvalMoreSaid :=
 OpenClaim.holds_of_wide 4 Tryz.f4 rfl rfl rfl rfl rfl rfl rfl ⟨rfl,rfl,rfl,rfl,rfl⟩ rfl rfl rfl rfl rfl (by kernel_rfl) Tryz.func4 (by kernel_rfl)
  (of_decide_eq_true (by kernel_rfl)) (by unfold Func.isWrapper;rw[if_neg (of_decide_eq_false (by kernel_rfl))];exact ⟨rfl,rfl⟩)
  (fun os h H enc _=>EA os h H enc)
end Emo
end
end Go.Proofs.YtecpeogejjibaaaGreatDoor
