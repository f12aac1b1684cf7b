/- Tables in memory, behind names: what eval.Run keeps, is given, and hands back. foremankeep.given. eval.Run. -/
import Derived.Test.YtecpeogejjibaaaGreatDoorEtnM14
import Derived.Test.YtecpeogejjibaaaGreatDoorEtnM15
import Derived.Test.YtecpeogejjibaaaGreatDoorEtnM3
import Derived.Test.YtecpeogejjibaaaGreatDoorEtnM12
import Derived.Test.YtecpeogejjibaaaGreatDoorEtnM8
import Derived.Test.YtecpeogejjibaaaGreatDoorEtnM2
import Derived.Laws.IdiomRangeMap
import Derived.Test.YtecpeogejjibaaaGreatDoorEtnM6
set_option linter.unusedSimpArgs false
set_option linter.unusedVariables false
set_option maxRecDepth 100000
set_option maxHeartbeats 16000000
namespace Go.Proofs.YtecpeogejjibaaaGreatDoor
open Go.Lib renaming hid → Fk
open _root_.Nat renaming le_refl → Fm, zero_le → Fu
open _root_.List renaming length_append → Fo, getElem?_eq_getElem → Fp, getElem_mem → Fs, length_cons → Fv, length_take → Fw
open Go.World renaming news_of_block → Fx
open aa renaming refl → Fz
open ao renaming new → FA
open Go.Value renaming string → FC, slice → FD, pointer → FE, int → FH
open Go.Ending renaming returned → FF
open Go.Obj renaming cells → FG
open Go.IntKind renaming i64 → FI
section
open Go.RowKit Go.BigFrame
attribute [local go_sem] ag ab ae af
def pL (W:World) (v:Value) (t:Tb):Prop:=∃ A c B d,v= .agg #[.slice A t.cols.length c,.slice B t.rows.length d]∧aY W t A B c d
def Bd:Value:= .agg #[.slice none 0 0,.slice none 0 0]
theorem aY.e0 (W:World):aY W mj none none 0 0:=⟨Rd.nil,Fm _,⟨[],rfl,Rd.nil,fun i h=>absurd h (by simp)⟩,Fm _,fun x H=>(by cases H),by decide,by decide,fun r D=>(by cases D)⟩
theorem pL.e0 (W:World):pL W Bd mj:=⟨none,0,none,0,rfl,aY.e0 W⟩
theorem pL.keep {W W':World} {v:Value} {t:Tb} (h:pL W v t) (I:aa [] W W'):pL W' v t:=by
 obtain ⟨A,c,B,d,D,H⟩:=h;exact ⟨A,c,B,d,D,H.quiet I⟩
theorem fG.keepM {W W':World} {b:Nat} {u:Value} {r:List Vl} {J:Array MapEntry} {cl:Nat} (D:W.heap[b]? = some (.map J cl)) (H:aa [b] W W') (h:fG W [] u r):fG W' [] u r:=by
 obtain ⟨A,c,e,I,h⟩:=h;exact ⟨A,c,e,I,h.keepM D H (by decide)⟩
theorem cJ.keepM {W W':World} {b:Nat} {A:Option Addr} {H:List (List Vl)} {O:Array MapEntry} {cl:Nat} (D:W.heap[b]? = some (.map O cl)) (I:aa [b] W W') (h:cJ W [] A H):cJ W' [] A H:=by
 obtain ⟨us,M,N,J⟩:=h;exact ⟨us,M,N.keepM D I (by decide),fun i a b=>(J i a b).keepM D I⟩
theorem aY.keepM {W W':World} {b:Nat} {t:Tb} {A B:Option Addr} {c d:Nat} {I:Array MapEntry} {cl:Nat} (D:W.heap[b]? = some (.map I cl)) (H:aa [b] W W') (h:aY W t A B c d):aY W' t A B c d :=
 ⟨h.cols.keepM D H (by decide),h.cc,h.rows.keepM D H,h.cd,h.names,h.ln,h.lm,h.lr⟩
theorem pL.keepM {W W':World} {b:Nat} {v:Value} {t:Tb} {M:Array MapEntry} {cl:Nat} (D:W.heap[b]? = some (.map M cl)) (J:aa [b] W W') (h:pL W v t):pL W' v t:=by
 obtain ⟨A,c,B,d,H,I⟩:=h;exact ⟨A,c,B,d,H,I.keepM D J⟩
theorem pX.keepM {W W':World} {b:Nat} {u:Value×Value} {t:Tb} {es:Array MapEntry} {cl:Nat} (H:W.heap[b]? = some (.map es cl)) (D:aa [b] W W') (h:pX W u t):pX W' u t:=by
 obtain ⟨⟨A1,N,O,M,J⟩,⟨B1,I,Z,U,V⟩⟩:=h;exact ⟨⟨A1,N,O,M,J.keepM H D (by decide)⟩,⟨B1,I,Z,U,V.keepM H D⟩⟩
theorem eu.keepM {W W':World} {b:Nat} {A:Option Addr} {H:List Tb} {O:Array MapEntry} {cl:Nat} (D:W.heap[b]? = some (.map O cl)) (I:aa [b] W W') (h:eu W A H):eu W' A H:=by
 obtain ⟨us,M,N,J⟩:=h;exact ⟨us,M,N.keepM D I (by decide),fun i a b=>(J i a b).keepM D I⟩
theorem AL.ofRt {t:Tb} (h:ak t=true):AL t:=by
 obtain ⟨J,N,M,_⟩:=jE h;refine ⟨fun x I=>?_,by omega,by omega,fun r H=>by rw[gh h r H];omega⟩;obtain ⟨k,D,rfl⟩:=List.getElem_of_mem I;have:=xu (sn J D).1;omega
theorem aY.isT {W:World} {t:Tb} {A B:Option Addr} {c d:Nat} (h:aY W t A B c d):pX W (.slice A t.cols.length c,.slice B t.rows.length d) t:=⟨⟨A,c,rfl,h.cc,h.cols⟩,⟨B,d,rfl,h.cd,h.rows⟩⟩
def iQ (W:World):List (Bs×Value)→Tm→Prop
 | [],[]=>True
 | p::mv,q::m=>p.1=q.1∧pL W p.2 q.2∧iQ W mv m
 | _,_=>False
theorem iQ.keep {W W':World} (D:aa [] W W'):∀ {mv:List (Bs×Value)} {m:Tm},iQ W mv m→iQ W' mv m
 | [],[],_=>trivial
 | _::_,_::_,h=>⟨h.1,h.2.1.keep D,iQ.keep D h.2.2⟩
theorem iQ.len {W:World}:∀ {mv:List (Bs×Value)} {m:Tm},iQ W mv m→mv.length=m.length
 | [],[],_=>rfl
 | _::_,_::_,h=>congrArg (· + 1) h.2.2.len
theorem iQ.fst {W:World}:∀ {mv:List (Bs×Value)} {m:Tm},iQ W mv m→mv.map (·.1)=m.map (·.1)
 | [],[],_=>rfl
 | p::mv,q::m,h=>by rw[List.map_cons,List.map_cons,h.1,h.2.2.fst]
theorem iQ.look {W:World} (n:Bs):∀ {mv:List (Bs×Value)} {m:Tm},iQ W mv m→(mv.lookup n=none∧m.lookup n=none)∨∃ v c,mv.lookup n=some v∧m.lookup n=some c∧pL W v c
 | [],[],_=> .inl ⟨rfl,rfl⟩
 | p::mv,q::m,h=>by
  obtain ⟨D,M⟩:=p;obtain ⟨N,q2⟩:=q;obtain ⟨e,I,J⟩:=h;simp only at e;subst e;rw[List.lookup_cons,List.lookup_cons];by_cases H:n=D
  ·subst H
   simp only[beq_self_eq_true];exact .inr ⟨_,_,rfl,rfl,I⟩
  have:(n==D)=false:=by simpa using H
  rw[this];exact iQ.look n J
theorem iQ.get {W:World} {mv:List (Bs×Value)} {m:Tm} (h:iQ W mv m) (n:Bs):pL W ((mv.lookup n).getD Bd) (getT m n):=by
 unfold getT;rcases h.look n with ⟨D,H⟩|⟨v,c,D,H,I⟩
 ·rw[D,H];exact pL.e0 W
 rw[D,H];exact I
theorem iQ.keepM {W W':World} {b:Nat} {I:Array MapEntry} {cl:Nat} (D:W.heap[b]? = some (.map I cl)) (H:aa [b] W W'):∀ {mv:List (Bs×Value)} {m:Tm},iQ W mv m→iQ W' mv m
 | [],[],_=>trivial
 | _::_,_::_,h=>⟨h.1,h.2.1.keepM D H,iQ.keepM D H h.2.2⟩
theorem bA.getT {w:World} {b:Nat} {mv:List (Bs×Value)} (h:bA Tryz.prog 9 w b mv) (k:Bs) (D:k.length≤1000):(Instr.lookup 22 (.map (some b)) (.string (bs k)) false).run Tryz.prog w= .ok ((mv.lookup k).getD Bd) w :=
 bA.look0 h (T:=22) (E:=54) Tryz.underlying22 Tryz.underlying9 (by kernel_rfl) k (by simp only[maxLen];omega)
theorem bA.putT {w:World} {b:Nat} {mv:List (Bs×Value)} (h:bA Tryz.prog 9 w b mv) (k:Bs) (v:Value) (D:k.length≤1000) (H:mv.length≤1000000000000000):∃ w',(Instr.mapUpdate 22 (.map (some b)) (.string (bs k)) v).run Tryz.prog w= .ok () w'∧bA Tryz.prog 9 w' b ((k,v)::mv)∧w.grownBy w' (some b) :=
 bA.store h (T:=22) (E:=54) Tryz.underlying22 Tryz.underlying9 k v (by simp only[maxLen];omega) (by simp only[maxLen];omega)
def mo (w:World) (v:Value) (gv:Bs→Option Tb):Prop:=∀ W,aa [] w W→∀ n:Bs,n.length≤1000→∃ A c B d,(Instr.lookup 22 v (.string (bs n)) true).run Tryz.prog W= .ok (.tuple #[.agg #[.slice A ((gv n).getD mj).cols.length c,.slice B ((gv n).getD mj).rows.length d],.bool (gv n).isSome]) W∧aY W ((gv n).getD mj) A B c d
theorem mo.keep {w w':World} {v:Value} {gv:Bs→Option Tb} (h:mo w v gv) (D:aa [] w w'):mo w' v gv:=fun W z=>h W (D.trans z)
structure jY (w:World) (X b:Nat) (v0 v1 v2:Value) (mv:List (Bs×Value)) (m:Tm) (W:World):Prop where
 k:aa [] w W
 fb:ao W X 29 #[v0,v1,v2]
 rb:ao W (X+1) 39 #[.int .i64 0,.int .i64 0]
 mp:bA Tryz.prog 9 W b mv
 cv:iQ W mv m
 hb:w.heap.size≤b
 xb:X≠b∧X+1≠b
theorem jY.keep {w W W':World} {X b:Nat} {J I H:Value} {mv:List (Bs×Value)} {m:Tm} (h:jY w X b J I H mv m W) (D:aa [] W W'):jY w X b J I H mv m W' :=
 ⟨h.k.trans D,h.fb.keep D (by simp),h.rb.keep D (by simp),h.mp.keep D (by simp),h.cv.keep D,h.hb,h.xb⟩
theorem jY.put {w W W':World} {X b:Nat} {I M H:Value} {mv:List (Bs×Value)} {m:Tm} (h:jY w X b I M H mv m W) {n:Bs} {v:Value} {t:Tb} (N:pL W v t) (V:bA Tryz.prog 9 W' b ((n,v)::mv)) (D:aa [b] W W'):jY w X b I M H ((n,v)::mv) ((n,t)::m) W':=by
 obtain ⟨Z,cl,J⟩:=h.mp.isM;exact ⟨h.k.trans' D (fun x O U=>by rw[List.mem_singleton.1 O] at U;exact absurd h.hb (by omega)),h.fb.keep D (by simpa using h.xb.1),h.rb.keep D (by simpa using h.xb.2),V,⟨rfl,N.keepM J D,h.cv.keepM J D⟩,h.hb,h.xb⟩
def Be (R:Except (Int×Int) Tm) (base:Nat) (e:Ending) (w':World):Prop:=match R with
 | .ok o=>∃ b mv,e= .returned (.tuple #[.map (some b),.agg #[.int .i64 0,.int .i64 (-1)]])∧bA Tryz.prog 9 w' b mv∧iQ w' mv o∧base≤b
 | .error x=>e= .returned (.tuple #[.map none,.agg #[.int .i64 x.1,.int .i64 x.2]])
theorem lE {P:Program} {I:Func} {p u:Tmp} {H:TypeId} (h:I.results= #[.tmp u,.cell p H]) (D:Array Value) (w:World) :
  (results I D).run P w=((asAddr (D.getD p undef)).run P w).andThen fun a J=>((loadVar H a).run P J).andThen fun v M=> .ok (.tuple #[D.getD u undef,v]) M:=by
 simp only[results,h];simp[Sem.run_bind,Result.andThen]
theorem bU {P:Program} {I:Func} {p u:Tmp} {H:TypeId} (h:I.results= #[.tmp u,.cell p H]) (D:Array Value) (w:World) (g:Nat) (t:TypeId) (cs:Array Value) (J:Nat×Nat) (d:TypeDesc)
  (U:D.getD p undef= .pointer (some ⟨g,0,none⟩)) (N:w.heap[g]? = some (.cells cs t J))
  (O:P.underlying H=some d) (hd:(match d with | .struct _ | .array _ _=>true|_=>false)=true) (M:(P.info? H).map (·.size)=some cs.size) :
  (results I D).run P w= .ok (.tuple #[D.getD u undef,.agg cs]) w:=by
 rw[lE h,U];simp[asAddr,run_loadVar_row w g t H cs J d N O hd M,Result.andThen]
theorem iH {w W:World} {X:Nat} {a b:Value} (I:ao W (X+1) 39 #[a,b]) (J:aa [] w W) (H:w.heap.size≤X+1) (h D:Value):ao ((W.setCell ⟨X+1,0,none⟩ h).setCell ⟨X+1,1,none⟩ D) (X+1) 39 #[h,D]∧aa [] w ((W.setCell ⟨X+1,0,none⟩ h).setCell ⟨X+1,1,none⟩ D) :=
 ⟨((I.set 0 h).set 1 D).congr rfl,(J.setCell (.inr H) _).setCell (.inr H) _⟩
theorem yW {W:World} {g k:Nat} {H:TypeId} {a b:Int} {u:Value} (D:ao W g H #[.int .i64 a,.int .i64 b]) (h:W.cell? ⟨g,k,none⟩=some u):∃ i,u= .int .i64 i:=by
 unfold ao at D;unfold World.cell? at h;rw[D] at h;rcases k with _|_|k
 ·simp at h;exact ⟨_,h.symm⟩
 ·simp at h;exact ⟨_,h.symm⟩
 simp at h
theorem Rd.keepF {W W':World} {g size n:Nat} {ty:TypeId} {a b:Int} {A:Option Addr} {xs:List Value} (Z:ao W g ty #[.int .i64 a,.int .i64 b]) (M:aa [g] W W') (hs:0<size) (hx:0<n→∃ (j:Nat) (u:Value),xs[j]? = some u∧∀ i,u≠ .int .i64 i) (h:Rd W [] size A n xs):Rd W' [] size A n xs:=by
 refine ⟨h.1,fun H=>?_⟩;obtain ⟨ad,e,V,N,h3⟩:=h.2 H;obtain ⟨b2,o2,D,_,_,h4⟩:=Rd.open' h H hs;rw[e] at D;injection D with D;subst D;have I:b2≠g:=fun U=>by
  subst U;obtain ⟨j,u,hj,J⟩:=hx H;obtain ⟨i,O⟩:=yW Z (h4 j u hj);exact J i O
 exact ⟨_,e,V,Nat.lt_of_lt_of_le N M.size,fun j u J=>(M.cell (by rw[cY];exact N) (by rw[cY];simpa using I)).trans (h3 j u J)⟩
theorem fG.keepF {W W':World} {g:Nat} {I:TypeId} {a b:Int} {u:Value} {r:List Vl} (D:ao W g I #[.int .i64 a,.int .i64 b]) (J:aa [g] W W') (h:fG W [] u r):fG W' [] u r:=by
 obtain ⟨A,c,e,N,h⟩:=h;exact ⟨A,c,e,N,h.keepF D J (by decide) fun M=>⟨_,_,(ay r 0 M).2.2,fun i H=>by cases H⟩⟩
theorem cJ.keepF {W W':World} {g:Nat} {Z:TypeId} {a b:Int} {A:Option Addr} {J:List (List Vl)} (I:ao W g Z #[.int .i64 a,.int .i64 b]) (H:aa [g] W W') (h:cJ W [] A J):cJ W' [] A J:=by
 obtain ⟨us,U,O,N⟩:=h;refine ⟨us,U,O.keepF I H (by decide) fun V=>?_,fun i a b=>(N i a b).keepF I H⟩;have M:0<us.length:=by omega
 obtain ⟨A',c',e,-,-⟩:=N 0 M V;exact ⟨0,us[0],Fp M,fun i D=>by rw[e] at D;cases D⟩
theorem aY.keepF {W W':World} {g:Nat} {J:TypeId} {a b:Int} {t:Tb} {A B:Option Addr} {c d:Nat} (D:ao W g J #[.int .i64 a,.int .i64 b]) (H:aa [g] W W') (h:aY W t A B c d):aY W' t A B c d :=
 ⟨h.cols.keepF D H (by decide) fun M=>⟨_,_,(aN t.cols 0 M).1,fun i I=>by cases I⟩,h.cc,h.rows.keepF D H,h.cd,h.names,h.ln,h.lm,h.lr⟩
theorem pL.keepF {W W':World} {g:Nat} {H:TypeId} {a b:Int} {v:Value} {t:Tb} (D:ao W g H #[.int .i64 a,.int .i64 b]) (I:aa [g] W W') (h:pL W v t):pL W' v t:=by
 obtain ⟨A,c,B,d,J,M⟩:=h;exact ⟨A,c,B,d,J,M.keepF D I⟩
theorem iQ.keepF {W W':World} {g:Nat} {I:TypeId} {a b:Int} (D:ao W g I #[.int .i64 a,.int .i64 b]) (H:aa [g] W W'):∀ {mv:List (Bs×Value)} {m:Tm},iQ W mv m→iQ W' mv m
 | [],[],_=>trivial
 | _::_,_::_,h=>⟨h.1,h.2.1.keepF D H,iQ.keepF D H h.2.2⟩
theorem jY.fin {w W:World} {X b:Nat} {N M J:Value} {mv:List (Bs×Value)} {m:Tm} (h:jY w X b N M J mv m W) (H D:Value):bA Tryz.prog 9 ((W.setCell ⟨X+1,0,none⟩ H).setCell ⟨X+1,1,none⟩ D) b mv∧iQ ((W.setCell ⟨X+1,0,none⟩ H).setCell ⟨X+1,1,none⟩ D) mv m:=by
 have I:aa [X+1] W ((W.setCell ⟨X+1,0,none⟩ H).setCell ⟨X+1,1,none⟩ D):=((Fz [X+1] W).setCell (.inl (by simp)) _).setCell (.inl (by simp)) _;exact ⟨h.mp.keep I (by simpa using fun e=>h.xb.2 e.symm),h.cv.keepF h.rb I⟩
def kI (f:Fl) (r:Except (Int×Int) Tm):Except (Int×Int) Tm:=match r with
 | .error e=> .error e
 | .ok h=> .ok (fa f.outs h)
def gE (f:Fl) (r:Except (Int×Int) Tm):Except (Int×Int) Tm:=match r with
 | .error e=> .error e
 | .ok h=>match cM f with
  | .error e=> .error (e.1,-1)
  | .ok l=>kI f (dI f l h)
def Bf (f:Fl) (gv:Bs→Option Tb) (r:Except (Int×Int) Cm):Except (Int×Int) Tm:=match r with
 | .error e=> .error (e.1,-1)
 | .ok _=>gE f (eZ gv f.ins [])
theorem Bg (f:Fl) (gv:Bs→Option Tb):fP f gv=Bf f gv (cN f):=by
 unfold fP Bf gE kI;rfl
def rZ (gv:Bs→Option Tb) (l:List In) (x:In) (m:Tm) (o:Option Tb):Except (Int×Int) Tm:=match o with
 | none=> .error (7,-1)
 | some t=>if t.cols=x.cols∧ak t=true then eZ gv l ((x.name,t)::m) else .error (13,-1)
theorem yX (gv:Bs→Option Tb) (x:In) (l:List In) (m:Tm):eZ gv (x::l) m=rZ gv l x m (gv x.name):=by
 unfold rZ;rw[eZ];cases gv x.name<;>rfl
def vR (f:Fl) (D:List Nat) (k:Nat) (x:Jb) (m:Tm) (r:Except Int (List Tb)):Except (Int×Int) Tm:=match r with
 | .error e=> .error (e,(k:Int))
 | .ok h=>dI f D (putT x.outs h m)
theorem vS (f:Fl) (k:Nat) (h:List Nat) (m:Tm):dI f (k::h) m=vR f h k (jb f k) m (j6 (jb f k) ((jb f k).ins.map (getT m))):=by
 unfold vR;rw[dI];cases j6 (jb f k) (List.map (getT m) (jb f k).ins)<;>rfl
theorem yY (ns:List Bs) (cs:List Tb) (q:Nat) (h:q<ns.length) (h':q<cs.length) (m:Tm):putT (ns.drop q) (cs.drop q) m=putT (ns.drop (q+1)) (cs.drop (q+1)) ((ns[q],cs[q])::m):=by
 rw[List.drop_eq_getElem_cons h,List.drop_eq_getElem_cons h'];rfl
theorem Bh (ns:List Bs) (cs:List Tb) (q:Nat) (h:ns.length≤q) (m:Tm):putT (ns.drop q) (cs.drop q) m=m:=by
 rw[List.drop_of_length_le h];unfold putT;rfl
def uc (m:Tm) (l:List Pb) (o:Tm):Tm:=l.foldl (fun o x=>(x.name,getT m x.src)::o) o
theorem py (m:Tm) (x:Pb) (l:List Pb) (o:Tm):uc m (x::l) o=uc m l ((x.name,getT m x.src)::o):=rfl
def zz (m:Tm):Prop:=∀ p∈m,ak p.2=true
theorem zz.put {m:Tm} (h:zz m) {n:Bs} {t:Tb} (H:ak t=true):zz ((n,t)::m):=fun p D=>by
 rcases List.mem_cons.1 D with rfl|D
 ·exact H
 exact h p D
theorem ud {m:Tm} {n:Bs} {t:Tb} (h:m.lookup n=some t):∃ k,(k,t)∈m:=by
 induction m with
 | nil=>cases h
 | cons q m ih =>
  obtain ⟨a,b⟩:=q;rw[List.lookup_cons] at h;split at h
  ·injection h with h
   subst h;exact ⟨a,List.mem_cons_self ..⟩
  obtain ⟨k,D⟩:=ih h;exact ⟨k,List.mem_cons_of_mem _ D⟩
theorem zz.get {m:Tm} (h:zz m) (n:Bs):getT m n=mj∨ak (getT m n)=true:=by
 unfold getT
 cases H:m.lookup n with
 | none=>exact .inl rfl
 | some t =>
  obtain ⟨k,D⟩:=ud H;exact .inr (h _ D)
theorem zz.bnd {m:Tm} (h:zz m) (n:Bs):AL (getT m n)∧(getT m n).cols.length≤4294967:=by
 rcases h.get n with e|e
 ·rw[e];exact ⟨⟨by decide,by decide,by decide,by decide⟩,by decide⟩
 obtain ⟨I,H,D,_⟩:=jE e;exact ⟨AL.ofRt e,by omega⟩
theorem io.quiet {w w':World} {t:Tb} {A B:Option Addr} {c d:Nat} (h:io w t A B c d) (D:aa [] w w'):io w' t A B c d:=⟨h.cols.keep D,h.cc,h.rows.keep D,h.cd,h.names,h.vals⟩
structure Bi (w:World) (b:Nat) (mv:List (Bs×Value)) (m:Tm):Prop where
 mp:bA Tryz.prog 9 w b mv
 nd:(mv.map (·.1)).Nodup
 cv:iQ w mv m
 sm:∀ p∈m,eh p.2=true
 six:mv.length≤6
def Bj (w:World) (v:Value):Prop:=v= .map none∨∃ b mv m,v= .map (some b)∧Bi w b mv m
def EW (w:World) (v:Value):Prop:=∃ (t:Tb) (A B:Option Addr) (c d:Nat),v=jR A t.cols.length c B t.rows.length d∧io w t A B c d∧eh t=true
theorem Dg {w:World}:∀ {mv:List (Bs×Value)},(∀ p∈mv,EW w p.2)→∃ m,iQ w mv m∧∀ p∈m,eh p.2=true
 | [],_=>⟨[],trivial,fun p D=>by cases D⟩
 | q::mv,h=>by
  obtain ⟨t,A,B,c,d,e,I,H⟩:=h q (List.mem_cons_self ..);obtain ⟨m,J,M⟩:=Dg (mv:=mv) fun p D=>h p (List.mem_cons_of_mem _ D)
  refine ⟨(q.1,t)::m,⟨rfl,⟨A,c,B,d,e,(I.inn H).1⟩,J⟩,fun p D=>?_⟩;rcases List.mem_cons.1 D with rfl|D
  ·exact H
  exact M p D
theorem yZ (w:World):Calls Tryz.prog 5 #[.map none] w fun e w'=>e=FF (.bool true)∧aa [] w w':=by
 have H:=run_range_nilMap (P:=Tryz.prog) w 22 9 54 Tryz.underlying22;have D:∀ h,(Instr.next (FE (some ⟨w.heap.size,0,none⟩)) false h).run Tryz.prog (w.alloc (.mapIter none 0 #[] 0))=_:=fun h=>run_next_nilMap w h 0 0 #[]
 have I:∀ h,(Builtin.len_ #[22] h #[.map none]).run Tryz.prog w= .ok (FH FI 0) w:=fun h=>Maps.len_nil Tryz.underlying22 h
 go_enter Tryz.func5,Tryz.ntmps5
 go_wp2_with fail
 go_loopw [10] (fun _ wr=>wr=w.alloc (.mapIter none 0 #[] 0)) (fun _ _=>0)
 case atStart=>rfl
 subst hrel;go_wp2;go_ret;exact ⟨rfl,(Fz _ _).alloc _⟩
theorem ze (b:Nat) (mv:List (Bs×Value)) (w:World) (hm:bA Tryz.prog 9 w b mv) (a1:(mv.map (·.1)).Nodup) (b3:mv.length≤maxLen) (hv:∀ p∈mv,∃ (t:Tb) (A B:Option Addr) (c d:Nat),p.2=jR A t.cols.length c B t.rows.length d∧io w t A B c d) :
  Calls Tryz.prog 5 #[.map (some b)] w fun e w'=>(∃ r,e=FF (.bool r)∧(r=true→∃ m,Bi w b mv m))∧aa [] w w':=by
 have q1:∀ (ty:TypeId),(Builtin.len_ #[22] ty #[.map (some b)]).run Tryz.prog w= .ok (FH FI mv.length) w:=fun ty=>by
  have:=hm.len Tryz.underlying22 ty;rw[kh a1] at this;exact this
 have HM:=Fk hm;have bc:=Fk a1;have HV:=Fk hv;clear hm a1 hv;by_cases h6:6<mv.length
 ·have t6:(6:Int)<(mv.length:Int):=by omega
  go_enter Tryz.func5,Tryz.ntmps5
  go_wp2;go_ret;exact ⟨⟨_,rfl,fun h=>by cases h⟩,Fz _ _⟩
 have t6:¬(6:Int)<(mv.length:Int):=by omega
 have H6:=Fk (show mv.length≤6 by omega);clear h6 b3;go_enter Tryz.func5,Tryz.ntmps5
 go_wp2_with (refine iX rfl _ rfl Tryz.underlying22 Tryz.underlying9 rfl HM.out ?_)
 intro y6 av k6 a4;obtain ⟨r,hr⟩:∃ r,w.heap.size=r:=⟨_,rfl⟩
 rw[hr] at av ⊢;have bX:=Fk av;have a7:=Fk k6;have bb:Hid (w.heap.size≤r):=Fk (by omega);clear av k6 a4 hr q1 t6;go_wp2_with fail
 go_loopw [10] (fun _ wr=>∃ L ad,Hid (fg Tryz.prog 9 wr b r mv L ad)∧Hid (aa [r] y6 wr)∧Hid (∀ k v,mv.lookup k=some v→L k=false→EW w v)) (fun _ wr=>wr.rangeLeft b r)
 case atStart=>exact ⟨_,_,bX,Fk (Fz _ _),Fk (fun k v M h2=>by rw[M] at h2;cases h2)⟩
 obtain ⟨L,ad,N,D,a2⟩:=hrel;obtain ⟨z,rfl⟩:∃ z:World,z=wr:=⟨_,rfl⟩
 go_wp2_with (refine jZ rfl _ rfl Tryz.underlying9 rfl N.out ?hDone ?hMore)
 case hDone =>
  intro _ hL;have I:Hid (aa [] w z):=Fk ((a7.out.of_nil.trans D.out).weaken fun x hx hl=>by rw[List.mem_singleton] at hx;have:=bb.out;omega);have a5:Hid (∃ m,Bi w b mv m):=Fk (by
   obtain ⟨m,M,h2⟩:=Dg (mv:=mv) (w:=w) fun p hp=>a2.out p.1 p.2 (gI bc.out hp) (hL _)
   exact ⟨m,HM.out,bc.out,M,h2,H6.out⟩)
  clear N D hL a2;go_wp2;go_ret;exact ⟨⟨_,rfl,fun _=>a5.out⟩,I.out⟩
 case hMore =>
  intro k v z2 bm bZ a0 U bk aA a4 ba;have I:Hid (aa [] w z2):=Fk (((a7.out.of_nil.trans D.out).trans aA).weaken fun x hx hl=>by rw[List.mem_singleton] at hx;have:=bb.out;omega);obtain ⟨t,A,B,c,d,bo,J⟩:=HV.out (k,v) (gp a0);simp only at bo;subst bo;have bv:=Fk J;have bz:=Fk a0;have a8:=Fk U;have br:=Fk (D.out.trans aA);have be:z.rangeLeft b r=ad:=N.out.left_eq;have b0:Hid (bm<z.rangeLeft b r):=Fk (by rw[be];exact bk);have O:Hid (Calls Tryz.prog 16 #[.agg #[FD A t.cols.length c,FD B t.rows.length d]] (z2.alloc (FG #[FD A t.cols.length c,FD B t.rows.length d] 54)) fun e w'=>e=FF (.bool (eh t))∧aa [] (z2.alloc (FG #[FD A t.cols.length c,FD B t.rows.length d] 54)) w'):=Fk (xp t A B c d _ (J.cols.keep (I.out.alloc _)) (J.rows.keep (I.out.alloc _)));clear bZ a0 U bk aA a4 be D N J;unfold jR at ba
  (try unfold jR)
  cases H:eh t with
  | false =>
   rw[H] at O;clear H;go_wp2_with fail
   refine O.out.mono ?_;rintro e z3 ⟨rfl,k3⟩;have bt:=Fk ((I.out.alloc _).trans k3);clear k3;go_wp2;go_ret;exact ⟨⟨_,rfl,fun h=>by cases h⟩,bt.out⟩
  | true =>
   have bq:Hid (EW w (jR A t.cols.length c B t.rows.length d)):=Fk ⟨t,A,B,c,d,rfl,bv.out,H⟩;rw[H] at O;clear H;go_wp2_with fail
   refine O.out.mono ?_;rintro e z3 ⟨rfl,k3⟩;have a3:aa [] z2 z3:=((Fz _ _).alloc _).trans k3;have V:=Fk (a8.out.kept a3 (by simp) (by simp));have bj:=Fk (br.out.trans a3.of_nil);have Z:z3.rangeLeft b r<z.rangeLeft b r:=by rw[V.out.left_eq];exact b0.out
   have a9:=Fk Z;have b1:Hid (∀ k' v',mv.lookup k'=some v'→(L k' && !(k'==k))=false→EW w v'):=Fk (fun k' v' M h2=>by
    by_cases a6:k'=k
    ·subst a6
     rw[bz.out] at M;injection M with M;rw[←M];exact bq.out
    refine a2.out k' v' M ?_;have:(k'==k)=false:=by simpa using a6
    rw[this] at h2;simpa using h2)
   clear k3 Z a3;go_wp2;go_roundw
   case rel=>exact ⟨_,_,V,bj,b1⟩
   case measure=>exact a9.out
theorem mr (f:Fl) (v0 v1 v2 jf:Value) (gv:Bs→Option Tb) (w:World) (hF:lT w v0 v1 v2 f) (hS:rF f) (hE:mi w) (hT:iJ w) (b4:∀ x∈f.ins,∀ c∈x.cols,c.name.length≤1000000000) (hG:mo w jf gv) :
  Calls Tryz.prog 9 #[.agg #[v0,v1,v2],jf] w fun e w'=>Be (fP f gv) w.heap.size e w'∧aa [] w w':=by
 have gk:= @run_makeMap Tryz.prog;obtain ⟨i0,l4,mU,mh,l1⟩:=info_parts Df;obtain ⟨R,hR⟩:∃ R,fP f gv=R:=⟨_,rfl⟩
 rw[hR];rw[Bg] at hR;have HF:=Fk hF;have mI:=hF.i0;have mE:=hF.i1;have lw:=hF.i2;obtain ⟨nt,A0,c0,rfl,nC,eX⟩:=mI;obtain ⟨nb,A1,c1,rfl,nd,fr⟩:=mE;obtain ⟨ni,A2,c2,rfl,m6,e8⟩:=lw;have H0:=Fk eX;have H1:=Fk fr;have H2:=Fk e8;have HR:=Fk hR;have HS:=Fk hS;have HE:=Fk hE;have HT:=Fk hT;have HCL:=Fk b4;have HG:=Fk hG;have hZ:ao ((w.alloc (FG #[FD A0 f.ins.length c0,FD A1 f.jobs.length c1,FD A2 f.outs.length c2] 29)).alloc (FG #[FH FI 0,FH FI 0] 39)) w.heap.size 29 #[FD A0 f.ins.length c0,FD A1 f.jobs.length c1,FD A2 f.outs.length c2]:=(FA _ _ _).alloc _;have e1:ao ((w.alloc (FG #[FD A0 f.ins.length c0,FD A1 f.jobs.length c1,FD A2 f.outs.length c2] 29)).alloc (FG #[FH FI 0,FH FI 0] 39)) (w.heap.size+1) 39 #[FH FI 0,FH FI 0]:=by
  have h:=(FA (w.alloc (FG #[FD A0 f.ins.length c0,FD A1 f.jobs.length c1,FD A2 f.outs.length c2] 29)) 39 #[FH FI 0,FH FI 0]);rw[ap] at h;exact h
 have b3:aa [] w ((w.alloc (FG #[FD A0 f.ins.length c0,FD A1 f.jobs.length c1,FD A2 f.outs.length c2] 29)).alloc (FG #[FH FI 0,FH FI 0] 39)):=((Fz _ _).alloc _).alloc _;have hD:((w.alloc (FG #[FD A0 f.ins.length c0,FD A1 f.jobs.length c1,FD A2 f.outs.length c2] 29)).alloc (FG #[FH FI 0,FH FI 0] 39)).heap.size=w.heap.size+2:=by simp
 have a2:=Fk hZ;have Z:=Fk e1;have M:=Fk b3;have et:=Fk hD;clear hF hR hS eX fr e8 hE hT b4 hG hZ e1 b3 hD;obtain ⟨X,hX⟩:∃ X,w.heap.size=X:=⟨_,rfl⟩
 go_enter Tryz.func9,Tryz.ntmps9
 go_upto_region 1 with (fail)
 have a7:Hid (w.heap.size≤X+1):=Fk (by omega);have ml:=Fk hX;rw[hX] at a2 Z et
 (try rw[hX])
 generalize ((w.alloc (FG #[FD A0 f.ins.length c0,FD A1 f.jobs.length c1,FD A2 f.outs.length c2] 29)).alloc (FG #[FH FI 0,FH FI 0] 39))=y0 at a2 Z M et ⊢;have p0:y0.cell? ⟨X,0,none⟩=some (FD A0 f.ins.length c0):=a2.out.cell 0;have p1:y0.cell? ⟨X,1,none⟩=some (FD A1 f.jobs.length c1):=a2.out.cell 1;have p2:y0.cell? ⟨X,2,none⟩=some (FD A2 f.outs.length c2):=a2.out.cell 2;have pl:=a2.out.lt;have b9:=Fk (l7 f _ _ _ y0 (HF.out.keep M.out) HS.out (HE.out.quiet M.out).c (HT.out.keep M.out (by simp)) HCL.out)
 cases bt:cN f with
 | error x =>
  rw[bt] at b9;have V:Hid (R= .error (x.1,-1)):=Fk (by
   have:=HR.out;rw[bt] at this;exact this.symm)
  clear bt;go_wp2_with fail
  refine b9.out.mono ?_;rintro e w1 ⟨⟨u,rfl,gi,rfl,ca⟩,k1⟩;have cg:=Fk (wH gi x.1 x.2 w1 (HT.out.keep (M.out.trans k1) (by simp)) ca);have g8:=Fk k1;clear p0 p1 p2 pl k1 ca;go_wp2_with fail
  refine cg.out.mono ?_;rintro e w2 ⟨rfl,k2⟩;have b5:=Fk (g8.out.trans k2);clear k2;have D:ao w2 (X+1) 39 #[FH FI 0,FH FI 0]:=Z.out.keep b5.out (by simp);have c0':w2.cell? ⟨X+1,0,none⟩=some (FH FI 0):=D.cell 0;have c1':w2.cell? ⟨X+1,1,none⟩=some (FH FI 0):=D.cell 1;have z0':w2.frozen? ⟨X+1,0,none⟩=false:=D.frozen 0;have z1':w2.frozen? ⟨X+1,1,none⟩=false:=D.frozen 1;have J:=iH D (M.out.trans b5.out) a7.out;have I:=Fk J;clear D J;go_wp2
  (try simp only[Exit.inBlock,Exit.then])
  refine bodyPost_ret (bU rfl _ _ (X+1) _ _ _ _ rfl (I.out _ _).1 Tryz.underlying39 rfl (by kernel_rfl)) rfl ?_;exact ⟨by rw[V.out];rfl,(I.out _ _).2⟩
 | ok cm =>
  rw[bt] at b9;have hw:Hid (gE f (eZ gv f.ins [])=R):=Fk (by
   have:=HR.out;rw[bt] at this;exact this)
  clear bt;go_wp2_with fail
  refine b9.out.mono ?_;rintro e w1 ⟨⟨bq,mq,rfl,-,-,-⟩,k1⟩;have hm:=bA.made (P:=Tryz.prog) (S:=9) w1;have cq:jY w X w1.heap.size (FD A0 f.ins.length c0) (FD A1 f.jobs.length c1) (FD A2 f.outs.length c2) [] [] (w1.alloc (.map #[] 0)):=⟨(M.out.trans k1).alloc _,(a2.out.keep k1 (by simp)).alloc _,(Z.out.keep k1 (by simp)).alloc _,hm,trivial,by have:=(M.out.trans k1).size;omega,by have h1:=k1.size;have h2:=et.out;omega,by have h1:=k1.size;have h2:=et.out;omega⟩;have O:=Fk cq;have i3:Hid (aa [] y0 (w1.alloc (.map #[] 0))):=Fk (k1.alloc _);clear p0 p1 p2 pl k1 hm cq b9 HR;go_upto_region 5 with (fail)
  generalize hb:w1.heap.size=b at O ⊢;generalize (w1.alloc (.map #[] 0))=y1 at O i3 ⊢;clear gk;have q0:y1.cell? ⟨X,0,none⟩=some (FD A0 f.ins.length c0):=O.out.fb.cell 0;have q1:y1.cell? ⟨X,1,none⟩=some (FD A1 f.jobs.length c1):=O.out.fb.cell 1;have q2:y1.cell? ⟨X,2,none⟩=some (FD A2 f.outs.length c2):=O.out.fb.cell 2;have ql:=O.out.fb.lt;have lc:=Fk (show aa [] w y1 from O.out.k);clear hb;go_upto_block 0 with (fail)
  go_cut [] (fun wx=>∃ mv m,Hid (jY w X b (FD A0 f.ins.length c0) (FD A1 f.jobs.length c1) (FD A2 f.outs.length c2) mv m wx)∧m.length≤f.ins.length∧Hid (zz m)∧Hid (gE f (.ok m)=R))
  case first =>
   have kf:f.ins.length≤100000:=by
    have:=HS.out.all;unfold aW at this;rw[Fo,List.length_map] at this;omega
   go_wp2_with fail
   go_loopw [42] (fun i wr=>∃ (j:Nat) (mv:List (Bs×Value)) (m:Tm),j≤f.ins.length∧i=FH FI j∧m.length≤j∧Hid (zz m)∧Hid (jY w X b (FD A0 f.ins.length c0) (FD A1 f.jobs.length c1) (FD A2 f.outs.length c2) mv m wr)∧Hid (gE f (eZ gv (f.ins.drop j) m)=R)) (fun i _=>f.ins.length-(intOf i).toNat)
   case atStart=>exact ⟨0,[],[],Fu _,rfl,Fm _,Fk (fun q hq=>by cases hq),O,hw⟩
   clear q0 q1 q2 ql;obtain ⟨j,mv,m,hj,rfl,eA,aA,H,HQ⟩:=hrel;obtain ⟨N,rfl⟩:∃ z:World,z=wr:=⟨_,rfl⟩
   by_cases ba:j<f.ins.length
   ·have gc:(j:Int)<(f.ins.length:Int):=by omega
    obtain ⟨g,cs,rfl,hg,-,⟨vc,rfl,mA⟩,hc⟩:=H0.out j ba;obtain ⟨b4,Ac,cc,rfl,km,a4⟩:=mA;have d0:=H.out.k.cell_of (hc 0 _ rfl) (by simp);have d1:=H.out.k.cell_of (hc 1 _ rfl) (by simp);have d2:=H.out.k.cell_of (hc 2 _ rfl) (by simp);rw[Nat.add_zero] at d0;have hl:(f.ins[j]).name.length≤1000:=HS.out.names _ (by unfold aW;exact List.mem_append_left _ (List.mem_map.2 ⟨_,Fs ba,rfl⟩));have U:=HQ.out;rw[List.drop_eq_getElem_cons ba,yX] at U;obtain ⟨x,hx⟩:∃ x,f.ins[j]=x:=⟨_,rfl⟩
    rw[hx] at d0 d1 d2 hl U b4 km a4;have ad:=Fk U;have c5:=Fk a4;have ff:=H.out.cv.len;obtain ⟨At,ct,Bt,dt,ey,a0⟩:=HG.out (N.alloc (FG #[FH FI x.at_,FC (bs x.name),FD Ac x.cols.length cc] 57)) (H.out.k.alloc _) x.name hl;have be:=Fk a0;clear U hx hc a4 a0
    cases cx:gv x.name with
    | none =>
     have V:Hid (R= .error (7,-1)):=Fk (by
      have:=ad.out;rw[cx] at this;exact this.symm)
     rw[cx] at ey;simp only[Option.getD_none,Option.isSome_none] at ey;have b8:=Fk (H.out.rb);have Z:=b8;have M:=Fk (H.out.k);clear cx;have bv:aa [] N ((N.alloc (FG #[FH FI x.at_,FC (bs x.name),FD Ac x.cols.length cc] 57)).alloc (FG #[FD At mj.cols.length ct,FD Bt mj.rows.length dt] 54)):=((Fz _ _).alloc _).alloc _;have a9:=Fk bv;clear bv;go_upto_region 10 with (fail)
     have D:ao ((N.alloc (FG #[FH FI x.at_,FC (bs x.name),FD Ac x.cols.length cc] 57)).alloc (FG #[FD At mj.cols.length ct,FD Bt mj.rows.length dt] 54)) (X+1) 39 #[FH FI 0,FH FI 0]:=Z.out.keep a9.out (by simp);have c0':((N.alloc (FG #[FH FI x.at_,FC (bs x.name),FD Ac x.cols.length cc] 57)).alloc (FG #[FD At mj.cols.length ct,FD Bt mj.rows.length dt] 54)).cell? ⟨X+1,0,none⟩=some (FH FI 0):=D.cell 0;have c1':((N.alloc (FG #[FH FI x.at_,FC (bs x.name),FD Ac x.cols.length cc] 57)).alloc (FG #[FD At mj.cols.length ct,FD Bt mj.rows.length dt] 54)).cell? ⟨X+1,1,none⟩=some (FH FI 0):=D.cell 1;have z0':((N.alloc (FG #[FH FI x.at_,FC (bs x.name),FD Ac x.cols.length cc] 57)).alloc (FG #[FD At mj.cols.length ct,FD Bt mj.rows.length dt] 54)).frozen? ⟨X+1,0,none⟩=false:=D.frozen 0;have z1':((N.alloc (FG #[FH FI x.at_,FC (bs x.name),FD Ac x.cols.length cc] 57)).alloc (FG #[FD At mj.cols.length ct,FD Bt mj.rows.length dt] 54)).frozen? ⟨X+1,1,none⟩=false:=D.frozen 1;have J:=iH D (M.out.trans a9.out) a7.out;have I:=Fk J;clear D J;go_wp2
     (try simp only[Exit.inBlock,Exit.then])
     refine bodyPost_ret (bU rfl _ _ (X+1) _ _ _ _ rfl (I.out _ _).1 Tryz.underlying39 rfl (by kernel_rfl)) rfl ?_;exact ⟨by rw[V.out];rfl,(I.out _ _).2⟩
    | some t =>
     have hu:=ad.out;rw[cx] at hu ey be;simp only[Option.getD_some,Option.isSome_some] at ey be;have fS:Hid ((if t.cols=x.cols∧ak t=true then gE f (eZ gv (f.ins.drop (j+1)) ((x.name,t)::m)) else .error (13,-1))=R):=Fk (by
      rw[←hu];unfold rZ;simp only;split<;>rfl)
     clear hu cx ad;have bv:aa [] N ((N.alloc (FG #[FH FI x.at_,FC (bs x.name),FD Ac x.cols.length cc] 57)).alloc (FG #[FD At t.cols.length ct,FD Bt t.rows.length dt] 54)):=((Fz _ _).alloc _).alloc _;have a1:pL ((N.alloc (FG #[FH FI x.at_,FC (bs x.name),FD Ac x.cols.length cc] 57)).alloc (FG #[FD At t.cols.length ct,FD Bt t.rows.length dt] 54)) (.agg #[FD At t.cols.length ct,FD Bt t.rows.length dt]) t:=⟨At,ct,Bt,dt,rfl,be.out.quiet ((Fz _ _).alloc _)⟩;have i4:ao ((N.alloc (FG #[FH FI x.at_,FC (bs x.name),FD Ac x.cols.length cc] 57)).alloc (FG #[FD At t.cols.length ct,FD Bt t.rows.length dt] 54)) N.heap.size 57 #[FH FI x.at_,FC (bs x.name),FD Ac x.cols.length cc]:=(FA _ _ _).alloc _;have a0:ao ((N.alloc (FG #[FH FI x.at_,FC (bs x.name),FD Ac x.cols.length cc] 57)).alloc (FG #[FD At t.cols.length ct,FD Bt t.rows.length dt] 54)) (N.heap.size+1) 54 #[FD At t.cols.length ct,FD Bt t.rows.length dt]:=by
      have h:=FA (N.alloc (FG #[FH FI x.at_,FC (bs x.name),FD Ac x.cols.length cc] 57)) 54 #[FD At t.cols.length ct,FD Bt t.rows.length dt];rw[ap] at h;exact h
     have hO:=im t.cols x.cols At Ac ct cc ((N.alloc (FG #[FH FI x.at_,FC (bs x.name),FD Ac x.cols.length cc] 57)).alloc (FG #[FD At t.cols.length ct,FD Bt t.rows.length dt] 54)) (be.out.quiet ((Fz _ _).alloc _)).cols (c5.out.keep (H.out.k.trans bv)) be.out.ln b4;have a9:=Fk bv;have c4:=Fk a1;have g0:=Fk i4;have br:=Fk a0;have cy:=Fk hO;have b8:=Fk (H.out.rb);have Z:=b8;have M:=Fk (H.out.k);clear bv a1 i4 a0 hO;go_upto_region 11 with (fail)
     have hL:Hid (aY ((N.alloc (FG #[FH FI x.at_,FC (bs x.name),FD Ac x.cols.length cc] 57)).alloc (FG #[FD At t.cols.length ct,FD Bt t.rows.length dt] 54)) t At Bt ct dt):=Fk (be.out.quiet ((Fz _ _).alloc _));generalize ((N.alloc (FG #[FH FI x.at_,FC (bs x.name),FD Ac x.cols.length cc] 57)).alloc (FG #[FD At t.cols.length ct,FD Bt t.rows.length dt] 54))=y3 at a9 c4 g0 br cy hL ⊢;have i2:y3.cell? ⟨N.heap.size,2,none⟩=some (FD Ac x.cols.length cc):=g0.out.cell 2;have u0:y3.cell? ⟨N.heap.size+1,0,none⟩=some (FD At t.cols.length ct):=br.out.cell 0;by_cases bo:t.cols=x.cols
     ·rw[decide_eq_true bo] at cy
      have mt:=Fk bo;clear bo;go_wp2_with fail
      refine cy.out.mono ?_;rintro e w5 ⟨rfl,k5⟩;have gf:=Fk k5;have bm:Hid (Calls Tryz.prog 13 #[.agg #[FD At t.cols.length ct,FD Bt t.rows.length dt]] w5 fun e w'=>e=FF (.bool (ak t))∧aa [] w5 w'):=Fk (hL.out.quiet k5).right;have b0:w5.cell? ⟨N.heap.size+1,0,none⟩=some (FD At t.cols.length ct):=(br.out.keep k5 (by simp)).cell 0;have b1:w5.cell? ⟨N.heap.size+1,1,none⟩=some (FD Bt t.rows.length dt):=(br.out.keep k5 (by simp)).cell 1;clear k5 i2 u0
      cases a8:ak t with
      | true =>
       have m1:Hid (gE f (eZ gv (f.ins.drop (j+1)) ((x.name,t)::m))=R):=Fk (by
        have:=fS.out;rw[if_pos ⟨mt.out,a8⟩] at this;exact this)
       have hC:Hid (zz ((x.name,t)::m)):=Fk (aA.out.put a8);rw[a8] at bm;clear a8;go_wp2_with fail
       refine bm.out.mono ?_;rintro e w6 ⟨rfl,k6⟩;clear b0 b1;have a5:=Fk (a9.out.trans (gf.out.trans k6));have dB:=Fk (gf.out.trans k6);have i1:w6.cell? ⟨N.heap.size,1,none⟩=some (FC (bs x.name)):=(g0.out.keep dB.out (by simp)).cell 1;have b0:w6.cell? ⟨N.heap.size+1,0,none⟩=some (FD At t.cols.length ct):=(br.out.keep dB.out (by simp)).cell 0;have b1:w6.cell? ⟨N.heap.size+1,1,none⟩=some (FD Bt t.rows.length dt):=(br.out.keep dB.out (by simp)).cell 1;have bZ:=Fk (H.out.keep a5.out);obtain ⟨w7,eY,cD,cz⟩:=bZ.out.mp.putT x.name (.agg #[FD At t.cols.length ct,FD Bt t.rows.length dt]) hl (by rw[ff];omega);have cd:=Fk (bZ.out.put (c4.out.keep dB.out) cD ((Fz [b] _).grown cz (fun g hg=> .inl (by injection hg with hg;simp[hg]))));clear k6 cD cz;go_wp2;go_roundw
       case rel=>exact ⟨j+1,_,_,by omega,by go_num,by simp only[Fv];omega,hC,cd,m1⟩
       case measure=>simp[intOf];omega
      | false =>
       have V:Hid (R= .error (13,-1)):=Fk (by
        have:=fS.out;rw[if_neg (by rintro ⟨_,h⟩;rw[a8] at h;cases h)] at this;exact this.symm)
       rw[a8] at bm;clear a8;go_wp2_with fail
       refine bm.out.mono ?_;rintro e w6 ⟨rfl,k6⟩;have a5:=Fk (a9.out.trans (gf.out.trans k6));clear k6 b0 b1;go_upto_region 12 with (fail)
       have D:ao w6 (X+1) 39 #[FH FI 0,FH FI 0]:=Z.out.keep a5.out (by simp);have c0':w6.cell? ⟨X+1,0,none⟩=some (FH FI 0):=D.cell 0;have c1':w6.cell? ⟨X+1,1,none⟩=some (FH FI 0):=D.cell 1;have z0':w6.frozen? ⟨X+1,0,none⟩=false:=D.frozen 0;have z1':w6.frozen? ⟨X+1,1,none⟩=false:=D.frozen 1;have J:=iH D (M.out.trans a5.out) a7.out;have I:=Fk J;clear D J;go_wp2
       (try simp only[Exit.inBlock,Exit.then])
       refine bodyPost_ret (bU rfl _ _ (X+1) _ _ _ _ rfl (I.out _ _).1 Tryz.underlying39 rfl (by kernel_rfl)) rfl ?_;exact ⟨by rw[V.out];rfl,(I.out _ _).2⟩
     -- BEGIN in6
     have V:Hid (R= .error (13,-1)):=Fk (by
      have:=fS.out;rw[if_neg (fun h=>bo h.1)] at this;exact this.symm)
     rw[decide_eq_false bo] at cy;clear bo;go_wp2_with fail
     refine cy.out.mono ?_;rintro e w5 ⟨rfl,k5⟩;have a5:=Fk (a9.out.trans k5);clear k5 i2 u0;go_upto_region 12 with (fail)
     have D:ao w5 (X+1) 39 #[FH FI 0,FH FI 0]:=Z.out.keep a5.out (by simp);have c0':w5.cell? ⟨X+1,0,none⟩=some (FH FI 0):=D.cell 0;have c1':w5.cell? ⟨X+1,1,none⟩=some (FH FI 0):=D.cell 1;have z0':w5.frozen? ⟨X+1,0,none⟩=false:=D.frozen 0;have z1':w5.frozen? ⟨X+1,1,none⟩=false:=D.frozen 1;have J:=iH D (M.out.trans a5.out) a7.out;have I:=Fk J;clear D J;go_wp2
     (try simp only[Exit.inBlock,Exit.then])
     refine bodyPost_ret (bU rfl _ _ (X+1) _ _ _ _ rfl (I.out _ _).1 Tryz.underlying39 rfl (by kernel_rfl)) rfl ?_;exact ⟨by rw[V.out];rfl,(I.out _ _).2⟩
   have gc:¬(j:Int)<(f.ins.length:Int):=by omega
   have c3:Hid (gE f (.ok m)=R):=Fk (by
    have:=HQ.out;rw[List.drop_of_length_le (by omega)] at this;exact this)
   go_wp2;go_meet
   case rel=>exact ⟨mv,m,H,by omega,aA,c3⟩
  obtain ⟨mv,m,H,eA,aA,HQ⟩:=hcut;obtain ⟨yc,rfl⟩:∃ z:World,z=wc:=⟨_,rfl⟩
  clear O i3 q0 q1 q2 ql lc hw Z M a2;have p0:yc.cell? ⟨X,0,none⟩=some (FD A0 f.ins.length c0):=H.out.fb.cell 0;have p1:yc.cell? ⟨X,1,none⟩=some (FD A1 f.jobs.length c1):=H.out.fb.cell 1;have p2:yc.cell? ⟨X,2,none⟩=some (FD A2 f.outs.length c2):=H.out.fb.cell 2;have pl:=H.out.fb.lt;have Z:=Fk H.out.rb;have M:=Fk H.out.k;have cr:=Fk (qx f _ _ _ yc (HF.out.keep H.out.k))
  cases bb:cM f with
  | error x =>
   rw[bb] at cr;have V:Hid (R= .error (x.1,-1)):=Fk (by
    have:=HQ.out;unfold gE at this;simp only at this;rw[bb] at this;exact this.symm)
   clear bb HQ;go_wp2_with fail
   refine cr.out.mono ?_;rintro e w1 ⟨⟨gi,rfl,ca⟩,k1⟩;have cg:=Fk (wH gi x.1 x.2 w1 (HT.out.keep (M.out.trans k1) (by simp)) ca);have g8:=Fk k1;clear p0 p1 p2 pl k1 ca;go_wp2_with fail
   refine cg.out.mono ?_;rintro e w2 ⟨rfl,k2⟩;have b5:=Fk (g8.out.trans k2);clear k2;have D:ao w2 (X+1) 39 #[FH FI 0,FH FI 0]:=Z.out.keep b5.out (by simp);have c0':w2.cell? ⟨X+1,0,none⟩=some (FH FI 0):=D.cell 0;have c1':w2.cell? ⟨X+1,1,none⟩=some (FH FI 0):=D.cell 1;have z0':w2.frozen? ⟨X+1,0,none⟩=false:=D.frozen 0;have z1':w2.frozen? ⟨X+1,1,none⟩=false:=D.frozen 1;have J:=iH D (M.out.trans b5.out) a7.out;have I:=Fk J;clear D J;go_wp2
   (try simp only[Exit.inBlock,Exit.then])
   refine bodyPost_ret (bU rfl _ _ (X+1) _ _ _ _ rfl (I.out _ _).1 Tryz.underlying39 rfl (by kernel_rfl)) rfl ?_;exact ⟨by rw[V.out];rfl,(I.out _ _).2⟩
  | ok l =>
   rw[bb] at cr;have ad:Hid (kI f (dI f l m)=R):=Fk (by
    have:=HQ.out;unfold gE at this;simp only at this;rw[bb] at this;exact this)
   obtain ⟨it,hA⟩:=gN bb;have kl:=Fk it.lt;clear bb HQ it;go_wp2_with fail
   refine cr.out.mono ?_;rintro e w6 ⟨⟨Al,cl,rfl,ne,hJ⟩,k6⟩;have nn:=Fk hA;have bZ:=Fk (H.out.keep k6);have bz:=Fk hJ;clear k6 hJ p0 p1 p2 pl cr H Z M;have kf:f.ins.length≤100000:=by
    have:=HS.out.all;unfold aW at this;rw[Fo,List.length_map] at this;omega
   have e0:m.length≤100000:=by omega
   clear eA;have m9:l.length≤4294967296:=by omega
   clear hA;go_upto_block 3 with (fail)
   go_cut [] (fun wx=>∃ mv m,Hid (jY w X b (FD A0 f.ins.length c0) (FD A1 f.jobs.length c1) (FD A2 f.outs.length c2) mv m wx)∧m.length≤500000000000000∧Hid (R= .ok (fa f.outs m)))
   case first =>
    go_wp2_with fail
    go_loopw [87] (fun i wr=>∃ (t:Nat) (mv:List (Bs×Value)) (m:Tm),t≤l.length∧i=FH FI t∧m.length≤100000+t*100000∧Hid (zz m)∧Hid (jY w X b (FD A0 f.ins.length c0) (FD A1 f.jobs.length c1) (FD A2 f.outs.length c2) mv m wr)∧Hid (Rd wr [] 1 Al l.length (gQ l))∧Hid (kI f (dI f (l.drop t) m)=R)) (fun i _=>l.length-(intOf i).toNat)
    case atStart=>exact ⟨0,mv,m,Fu _,rfl,by omega,aA,bZ,bz,ad⟩
    clear bZ ad bz e0 aA;obtain ⟨t,mv,m,ht,rfl,eA,aA,H,bz,HQ⟩:=hrel;obtain ⟨wt,rfl⟩:∃ z:World,z=wr:=⟨_,rfl⟩
    have p1:wt.cell? ⟨X,1,none⟩=some (FD A1 f.jobs.length c1):=H.out.fb.cell 1;have pl:=H.out.fb.lt;by_cases hh:t<l.length
    ·have l0:(t:Int)<(l.length:Int):=by omega
     obtain ⟨bl,ol,rfl,-,m8,e9⟩:=bz.out.open' (by omega) (by omega);have q0:wt.cell? ⟨bl,ol+t,none⟩=some (FH FI (l[t]:Nat)):=e9 t _ (tr l t hh);have hk:=kl.out _ (Fs hh);have U:=HQ.out;rw[List.drop_eq_getElem_cons hh,vS] at U;obtain ⟨k,b3⟩:∃ k,l[t]=k:=⟨_,rfl⟩
     rw[b3] at q0 hk U;have no:(k:Int)<(f.jobs.length:Int):=by omega
     obtain ⟨g,cs,rfl,hg,-,⟨_,_,_,rfl,⟨h9,B2,e2,rfl,hP,ho⟩,⟨i9,B3,e3,rfl,kd,gl⟩,⟨eB,B4,e4,rfl,fc,c6⟩⟩,hc⟩:=H1.out k hk;have d0:=H.out.k.cell_of (hc 0 _ rfl) (by simp);have d1:=H.out.k.cell_of (hc 1 _ rfl) (by simp);have d2:=H.out.k.cell_of (hc 2 _ rfl) (by simp);have d3:=H.out.k.cell_of (hc 3 _ rfl) (by simp);have d4:=H.out.k.cell_of (hc 4 _ rfl) (by simp);have d5:=H.out.k.cell_of (hc 5 _ rfl) (by simp);have d6:=H.out.k.cell_of (hc 6 _ rfl) (by simp);have d7:=H.out.k.cell_of (hc 7 _ rfl) (by simp);have d8:=H.out.k.cell_of (hc 8 _ rfl) (by simp);have d9:=H.out.k.cell_of (hc 9 _ rfl) (by simp);have g4:=H.out.k.cell_of (hc 10 _ rfl) (by simp);have hi:=H.out.k.cell_of (hc 11 _ rfl) (by simp);have g7:=H.out.k.cell_of (hc 12 _ rfl) (by simp);have he:=H.out.k.cell_of (hc 13 _ rfl) (by simp);have gz:=H.out.k.cell_of (hc 14 _ rfl) (by simp);rw[Nat.add_zero] at d0;rw[ea hk] at U;have g1:∀ n∈f.jobs[k].ins,n.length≤1000:=fun n hn=>HS.out.ins _ (Fs hk) n hn
     have ha:∀ n∈f.jobs[k].outs,n.length≤1000:=fun n hn=>HS.out.names n (by unfold aW;exact List.mem_append_right _ (List.mem_flatMap.2 ⟨_,Fs hk,hn⟩))
     have hQ:f.jobs[k].outs.length≤100000:=by
      have h1:=wK (Fs hk);have:=HS.out.all;unfold aW at this;rw[Fo] at this;omega
     obtain ⟨x,hx⟩:∃ x,f.jobs[k]=x:=⟨_,rfl⟩
     rw[hx] at d0 d1 d2 d3 d4 d5 d6 d7 d8 d9 g4 hi g7 he gz g1 ha hQ U h9 hP ho i9 kd gl eB fc c6;have ad:=Fk U;have lv:=Fk g1;have k3:=Fk ha;have hM:=Fk ho;have mY:=Fk gl;have ks:=Fk c6;have ff:=H.out.cv.len;clear e9 U b3 hx hc g1 ha ho gl c6 hk;go_upto_block 5 with (fail)
     go_cut [18,20] (fun u _ wx=>Hid (g9 (wt.alloc (FG #[FH FI x.at_,FH FI x.code,FD B2 x.outs.length e2,FD B3 x.ins.length e3,FD B4 x.cols.length e4,FC (bs x.op),FC (bs x.left.col),FH FI x.left.val.kind,FH FI x.left.val.num,FC (bs x.left.val.word),FC (bs x.right.col),FH FI x.right.val.kind,FH FI x.right.val.num,FC (bs x.right.val.word),FH FI x.retry] 50)) wx (wt.alloc (FG #[FH FI x.at_,FH FI x.code,FD B2 x.outs.length e2,FD B3 x.ins.length e3,FD B4 x.cols.length e4,FC (bs x.op),FC (bs x.left.col),FH FI x.left.val.kind,FH FI x.left.val.num,FC (bs x.left.val.word),FC (bs x.right.col),FH FI x.right.val.kind,FH FI x.right.val.num,FC (bs x.right.val.word),FH FI x.retry] 50)).heap.size u (x.ins.map (getT m)))∧Hid (aa [] (wt.alloc (FG #[FH FI x.at_,FH FI x.code,FD B2 x.outs.length e2,FD B3 x.ins.length e3,FD B4 x.cols.length e4,FC (bs x.op),FC (bs x.left.col),FH FI x.left.val.kind,FH FI x.left.val.num,FC (bs x.left.val.word),FC (bs x.right.col),FH FI x.right.val.kind,FH FI x.right.val.num,FC (bs x.right.val.word),FH FI x.retry] 50)) wx))
     case first =>
      have dz:ao (wt.alloc (FG #[FH FI x.at_,FH FI x.code,FD B2 x.outs.length e2,FD B3 x.ins.length e3,FD B4 x.cols.length e4,FC (bs x.op),FC (bs x.left.col),FH FI x.left.val.kind,FH FI x.left.val.num,FC (bs x.left.val.word),FC (bs x.right.col),FH FI x.right.val.kind,FH FI x.right.val.num,FC (bs x.right.val.word),FH FI x.retry] 50)) wt.heap.size 50 #[FH FI x.at_,FH FI x.code,FD B2 x.outs.length e2,FD B3 x.ins.length e3,FD B4 x.cols.length e4,FC (bs x.op),FC (bs x.left.col),FH FI x.left.val.kind,FH FI x.left.val.num,FC (bs x.left.val.word),FC (bs x.right.col),FH FI x.right.val.kind,FH FI x.right.val.num,FC (bs x.right.val.word),FH FI x.retry]:=FA _ _ _;have g5:=H.out.keep ((Fz _ _).alloc (FG #[FH FI x.at_,FH FI x.code,FD B2 x.outs.length e2,FD B3 x.ins.length e3,FD B4 x.cols.length e4,FC (bs x.op),FC (bs x.left.col),FH FI x.left.val.kind,FH FI x.left.val.num,FC (bs x.left.val.word),FC (bs x.right.col),FH FI x.right.val.kind,FH FI x.right.val.num,FC (bs x.right.val.word),FH FI x.retry] 50));clear d0 d1 d2 d3 d4 d5 d6 d7 d8 d9 g4 hi g7 he gz;generalize iv:(wt.alloc (FG #[FH FI x.at_,FH FI x.code,FD B2 x.outs.length e2,FD B3 x.ins.length e3,FD B4 x.cols.length e4,FC (bs x.op),FC (bs x.left.col),FH FI x.left.val.kind,FH FI x.left.val.num,FC (bs x.left.val.word),FC (bs x.right.col),FH FI x.right.val.kind,FH FI x.right.val.num,FC (bs x.right.val.word),FH FI x.retry] 50))=y2 at dz g5 ⊢;have hK:=Fk iv;clear iv;have ix:=Fk g5;have x3:y2.cell? ⟨wt.heap.size,3,none⟩=some (FD B3 x.ins.length e3):=dz.cell 3;have xl:=dz.lt;clear dz g5;go_wp2_with fail
      go_loopw [18,20,99] (fun u _ i wr=>∃ q:Nat,q≤x.ins.length∧i=FH FI q∧Hid (g9 y2 wr y2.heap.size u ((x.ins.take q).map (getT m)))∧Hid (aa [] y2 wr)) (fun _ _ i _=>x.ins.length-(intOf i).toNat)
      case atStart=>exact ⟨0,Fu _,rfl,Fk (g9.nil _ _ _),Fk (Fz _ _)⟩
      clear x3 xl;obtain ⟨q,hq,rfl,HH,en⟩:=hrel;obtain ⟨wq,rfl⟩:∃ z:World,z=wr:=⟨_,rfl⟩
      by_cases a6:q<x.ins.length
      ·have g3:(q:Int)<(x.ins.length:Int):=by omega
       have ir:=Fk (ix.out.keep en.out);obtain ⟨b6,o6,rfl,-,l3,ci⟩:=(mY.out.keep ir.out.k).open' (by omega) (by omega);have s0:=ci q _ (cw x.ins q a6);have a3:=lv.out _ (Fs a6);have hs:(x.ins.take (q+1)).map (getT m)=(x.ins.take q).map (getT m)++[getT m x.ins[q]]:=by rw[List.take_succ_eq_append_getElem a6,List.map_append];rfl
       obtain ⟨n,hn⟩:∃ n,x.ins[q]=n:=⟨_,rfl⟩
       rw[hn] at s0 a3 hs;have lk:=ir.out.mp.getT n a3;obtain ⟨Av,cv,Bv,dv,ev,a1⟩:=ix.out.cv.get n;rw[ev] at lk;have c4:=Fk a1;have mK:=Fk hs;have gm:((x.ins.take q).map (getT m)).length=q:=by rw[List.length_map,Fw,Nat.min_eq_left hq]
       obtain ⟨us,hI,ez,hv⟩:=HH.out;rw[gm] at ez;obtain ⟨Au,cu,rfl,-⟩:=aq ez;have kx:=Fk hI;have h5:=Fk ez;have k9:=Fk hv;have j2:=Fk gm;have kz:=Fk (show y2.heap.size≤wq.heap.size from en.out.size);have hY:=Fk (show q+1≤maxLen∧(q+1)*48≤140737488355328 by simp only[maxLen];omega);clear ci hn hs a1 ev hI ez hv HH gm;go_wp2_with (at_builtin;(refine wpList_append_lies _ rfl _ _ 84 rfl y2.heap.size 54 i0 _ 2 48 Tryz.underlying84 l4 mU mh l1 rfl (by decide) _ q (iL us) rfl (h5.out.alloc _) ⟨wq.heap.size,0,none⟩ 1 1 [FD Av (getT m n).cols.length cv,FD Bv (getT m n).rows.length dv] rfl rfl (Fx (heap_alloc_new _ _)) (by simp[Value.oneCell']) (by decide) hY.out.1 hY.out.2 (by rw[ap];have:=kz.out;omega) _ rfl ?_);intro gw fn w8 cj bc hB ie)
       have el:=Fk ((en.out.alloc (FG #[FD Av (getT m n).cols.length cv,FD Bv (getT m n).rows.length dv] 54)).grown bc (fun g hg=> .inr (h5.out.lt g hg).1));have lg:Hid (g9 y2 w8 y2.heap.size (FD (some ⟨gw,0,none⟩) (q+1) fn) ((x.ins.take (q+1)).map (getT m))):=Fk (by
        rw[mK.out];have h:=oN (w:=y2) (W':=w8) (base:=y2.heap.size) (gw:=gw) (cap:=fn) (t:=getT m n) kx.out k9.out c4.out.isT.1 c4.out.isT.2 (by rw[j2.out];exact cj);rw[j2.out] at h;exact h)
       clear cj bc hB ie;go_wp2;go_roundw
       case rel=>exact ⟨q+1,by omega,by go_num,lg,el⟩
       case measure=>simp[intOf];omega
      have g3:¬(q:Int)<(x.ins.length:Int):=by omega
      have kg:Hid (g9 y2 wq y2.heap.size u18 (x.ins.map (getT m))):=Fk (by
       have:=HH.out;rw[List.take_of_length_le (by omega)] at this;exact this)
      go_wp2;go_meet
      case rel=>exact ⟨by rw[hK.out];exact kg,by rw[hK.out];exact en⟩
     obtain ⟨HH,hf⟩:=hcut;clear d0 d1 d2 d3 d4 d5 d6 d7 d8 d9 g4 hi g7 he gz;obtain ⟨yd,rfl⟩:∃ z:World,z=wc:=⟨_,rfl⟩
     have eb:Hid (ao yd wt.heap.size 50 #[FH FI x.at_,FH FI x.code,FD B2 x.outs.length e2,FD B3 x.ins.length e3,FD B4 x.cols.length e4,FC (bs x.op),FC (bs x.left.col),FH FI x.left.val.kind,FH FI x.left.val.num,FC (bs x.left.val.word),FC (bs x.right.col),FH FI x.right.val.kind,FH FI x.right.val.num,FC (bs x.right.val.word),FH FI x.retry]):=Fk ((FA _ _ _).keep hf.out (by simp));have hr:aa [] wt yd:=((Fz _ _).alloc (FG #[FH FI x.at_,FH FI x.code,FD B2 x.outs.length e2,FD B3 x.ins.length e3,FD B4 x.cols.length e4,FC (bs x.op),FC (bs x.left.col),FH FI x.left.val.kind,FH FI x.left.val.num,FC (bs x.left.val.word),FC (bs x.right.col),FH FI x.right.val.kind,FH FI x.right.val.num,FC (bs x.right.val.word),FH FI x.retry] 50)).trans hf.out;have av:=Fk (H.out.keep hr);have m0:=Fk (bz.out.keep hr);obtain ⟨Ah,ch,rfl,l5,cn⟩:=HH.out.is hf.out;have g2:Hid (Calls Tryz.prog 24 #[.agg #[FH FI x.at_,FH FI x.code,FD B2 x.outs.length e2,FD B3 x.ins.length e3,FD B4 x.cols.length e4,FC (bs x.op),FC (bs x.left.col),FH FI x.left.val.kind,FH FI x.left.val.num,FC (bs x.left.val.word),FC (bs x.right.col),FH FI x.right.val.kind,FH FI x.right.val.num,FC (bs x.right.val.word),FH FI x.retry],FD Ah x.ins.length ch] yd fun e w'=>qJ (j6 x (x.ins.map (getT m))) e w'∧aa [] yd w'):=Fk (by
      have hd:=Cz x B2 e2 B3 x.ins.length e3 B4 e4 (x.ins.map (getT m)) Ah ch yd (HE.out.quiet av.out.k) ⟨hM.out.keep av.out.k,hP,ks.out.keep av.out.k,fc,h9,eB⟩ cn (fun t ht=>by
       obtain ⟨n,_,rfl⟩:=List.mem_map.1 ht;exact (aA.out.bnd n).1) (fun t ht=>by
       obtain ⟨n,_,rfl⟩:=List.mem_map.1 ht;exact (aA.out.bnd n).2) (by rw[List.length_map];exact i9)
      rw[List.length_map] at hd;exact hd)
     rw[List.length_map] at l5;clear cn hr HH
     (try rw[List.length_map])
     have hy:=oO eb.out;obtain ⟨f0,f1,f2,f3,f4,f5,f6,f7,f8,f9,hH,ih,h8,h7,ic⟩:=hy;have yl:=eb.out.lt;obtain ⟨CR,a4⟩:∃ CR,j6 x (x.ins.map (getT m))=CR:=⟨_,rfl⟩
     rw[a4] at g2;have c3:Hid (kI f (vR f (l.drop (t+1)) k x m CR)=R):=Fk (by
      have:=ad.out;rw[a4] at this;exact this)
     have c5:=Fk a4;have Z:=Fk av.out.rb;have M:=Fk av.out.k;clear a4 ad
     cases CR with
     | error er =>
      have V:Hid (R= .error (er,(k:Int))):=Fk c3.out.symm;go_wp2_with fail
      refine g2.out.mono ?_;rintro e w7 ⟨lo,k7⟩;obtain rfl:e=FF (.tuple #[FD none 0 0,.iface 37 (FH FI er)]):=lo;have cg:=Fk (oy er w7 (HT.out.keep (av.out.k.trans k7) (by simp)));have lp:=Fk k7;clear k7 f0 f1 f2 f3 f4 f5 f6 f7 f8 f9 hH ih h8 h7 ic;go_wp2_with fail
      refine cg.out.mono ?_;rintro e w8 ⟨rfl,k8⟩;have el:=Fk (lp.out.trans k8);clear k8;have D:ao w8 (X+1) 39 #[FH FI 0,FH FI 0]:=Z.out.keep el.out (by simp);have c0':w8.cell? ⟨X+1,0,none⟩=some (FH FI 0):=D.cell 0;have c1':w8.cell? ⟨X+1,1,none⟩=some (FH FI 0):=D.cell 1;have z0':w8.frozen? ⟨X+1,0,none⟩=false:=D.frozen 0;have z1':w8.frozen? ⟨X+1,1,none⟩=false:=D.frozen 1;have J:=iH D (M.out.trans el.out) a7.out;have I:=Fk J;clear D J;go_wp2
      (try simp only[Exit.inBlock,Exit.then])
      refine bodyPost_ret (bU rfl _ _ (X+1) _ _ _ _ rfl (I.out _ _).1 Tryz.underlying39 rfl (by kernel_rfl)) rfl ?_;exact ⟨by rw[V.out];rfl,(I.out _ _).2⟩
     | ok ts =>
      have e7:ts.length=x.outs.length:=pt c5.out;have bm:Hid (∀ t∈ts,ak t=true):=Fk (ua c5.out);have j3:Hid (kI f (dI f (l.drop (t+1)) (putT x.outs ts m))=R):=c3;have fs:=e7;clear c3 c5 e7;have lj:=Fk fs;go_wp2_with fail
      refine g2.out.mono ?_;rintro e w7 ⟨⟨B,d,rfl,hz,cn⟩,k7⟩;have m2:=Fk cn;have cd:=Fk (av.out.keep k7);have lm:=Fk (m0.out.keep k7);have z2:w7.cell? ⟨wt.heap.size,2,none⟩=some (FD B2 x.outs.length e2):=(eb.out.keep k7 (by simp)).cell 2;have zl:=(eb.out.keep k7 (by simp)).lt;have m7:=Fk hz;clear k7 f0 f1 f2 f3 f4 f5 f6 f7 f8 f9 hH ih h8 h7 ic yl cn fs hz;go_wp2_with fail
      go_loopw [23,24,125] (fun _ _ i wr=>∃ (q:Nat) (g6:List (Bs×Value)) (m':Tm),q≤x.outs.length∧i=FH FI q∧m'.length≤m.length+q∧Hid (zz m')∧Hid (jY w X b (FD A0 f.ins.length c0) (FD (some ⟨g,0,none⟩) f.jobs.length c1) (FD A2 f.outs.length c2) g6 m' wr)∧Hid (Rd wr [] 1 (some ⟨bl,ol,none⟩) l.length (gQ l))∧Hid (eu wr B ts)∧Hid (putT (x.outs.drop q) (ts.drop q) m'=putT x.outs ts m)) (fun _ _ i _=>x.outs.length-(intOf i).toNat)
      case atStart=>exact ⟨0,mv,m,Fu _,rfl,Fm _,aA,cd,lm,m2,Fk rfl⟩
      clear z2 zl;obtain ⟨q,g6,m',hq,rfl,m4,e6,HN',js,e5,jc⟩:=hrel;obtain ⟨wq,rfl⟩:∃ z:World,z=wr:=⟨_,rfl⟩
      by_cases a6:q<x.outs.length
      ·have g3:(q:Int)<(x.outs.length:Int):=by omega
       have c9:q<ts.length:=by have:=lj.out;omega
       obtain ⟨b6,o6,rfl,-,l3,ci⟩:=(hM.out.keep HN'.out.k).open' (by omega) (by omega);have s0:=ci q _ (cw x.outs q a6);have a3:=k3.out _ (Fs a6);have ds:=bm.out _ (Fs c9);have co:=yY x.outs ts q a6 c9 m';rw[jc.out] at co;have m5:(q:Int)<(ts.length:Int):=by omega
       obtain ⟨n,hn⟩:∃ n,x.outs[q]=n:=⟨_,rfl⟩
       obtain ⟨c,hc⟩:∃ c,ts[q]=c:=⟨_,rfl⟩
       rw[hc] at ds;obtain ⟨b7,o7,A7,c7,A8,c8,rfl,s1,s2,a0⟩:=e5.out.first c9 hc (AL.ofRt ds);rw[hn] at s0 a3 co;rw[hc] at co;have l2:=Fk co.symm;obtain ⟨w8,eY,hV,h4⟩:=HN'.out.mp.putT n (.agg #[FD A7 c.cols.length c7,FD A8 c.rows.length c8]) a3 (by have:=HN'.out.cv.len;omega);have dq:aa [b] wq w8:=(Fz [b] _).grown h4 (fun g hg=> .inl (by injection hg with hg;simp[hg]));obtain ⟨es,mb,bk⟩:=HN'.out.mp.isM;have lr:=Fk (HN'.out.put ⟨A7,c7,A8,c8,rfl,a0⟩ hV dq);have k0:=Fk (js.out.keepM bk dq (by decide));have h3:=Fk (e5.out.keepM bk dq);have hW:=Fk (e6.out.put (n:=n) ds);clear ci co hn hc hV h4 dq bk a0 ds c9;go_wp2;go_roundw
       case rel=>exact ⟨q+1,_,_,by omega,by go_num,by simp only[Fv];omega,hW,lr,k0,h3,l2⟩
       case measure=>simp[intOf];omega
      have g3:¬(q:Int)<(x.outs.length:Int):=by omega
      have lf:Hid (kI f (dI f (l.drop (t+1)) m')=R):=Fk (by
       rw[←j3.out,←jc.out,Bh _ _ _ (by omega)])
      go_wp2;go_roundw
      case rel=>exact ⟨t+1,g6,m',by omega,by go_num,by omega,e6,HN',js,lf⟩
      case measure=>simp[intOf];omega
    have l0:¬(t:Int)<(l.length:Int):=by omega
    have V:Hid (R= .ok (fa f.outs m)):=Fk (by
     have:=HQ.out;rw[List.drop_of_length_le (by omega)] at this;exact this.symm)
    have hN:m.length≤500000000000000:=by omega
    clear HQ;go_wp2;go_meet
    case rel=>exact ⟨mv,m,H,hN,V⟩
   obtain ⟨mv,m,H,eA,V⟩:=hcut;obtain ⟨ye,rfl⟩:∃ z:World,z=wc:=⟨_,rfl⟩
   clear bZ ad bz e0 aA;have gk:= @run_makeMap Tryz.prog;have hm:=bA.made (P:=Tryz.prog) (S:=9) ye;have cq:jY w X ye.heap.size (FD A0 f.ins.length c0) (FD A1 f.jobs.length c1) (FD A2 f.outs.length c2) [] [] (ye.alloc (.map #[] 0)):=⟨H.out.k.alloc _,H.out.fb.alloc _,H.out.rb.alloc _,hm,trivial,H.out.k.size,by have h:=H.out.fb.lt;omega,by have h:=H.out.rb.lt;omega⟩;have jx:bA Tryz.prog 9 (ye.alloc (.map #[] 0)) b mv:=H.out.mp.keep ((Fz [] _).alloc _) (by simp);have hU:iQ (ye.alloc (.map #[] 0)) mv m:=H.out.cv.keep ((Fz _ _).alloc _);have j1:b≠ye.heap.size:=Nat.ne_of_lt H.out.mp.lt;have O:=Fk cq;have bX:=Fk jx;have bj:=Fk hU;have i5:=Fk j1;clear hm cq jx hU j1 H;go_upto_region 38 with (fail)
   generalize lb:ye.heap.size=b2 at O i5 ⊢;generalize (ye.alloc (.map #[] 0))=y5 at O bX bj ⊢;clear gk lb;have p2:y5.cell? ⟨X,2,none⟩=some (FD A2 f.outs.length c2):=O.out.fb.cell 2;have pl:=O.out.fb.lt;go_wp2_with fail
   go_loopw [142] (fun i wr=>∃ (j:Nat) (h0:List (Bs×Value)) (o:Tm),j≤f.outs.length∧i=FH FI j∧o.length≤j∧Hid (jY w X b2 (FD A0 f.ins.length c0) (FD A1 f.jobs.length c1) (FD A2 f.outs.length c2) h0 o wr)∧Hid (bA Tryz.prog 9 wr b mv)∧Hid (iQ wr mv m)∧Hid (uc m (f.outs.drop j) o=fa f.outs m)) (fun i _=>f.outs.length-(intOf i).toNat)
   case atStart=>exact ⟨0,[],[],Fu _,rfl,Fm _,O,bX,bj,Fk rfl⟩
   clear p2 pl O bX bj;obtain ⟨j,h0,o,hj,rfl,hQ,H,bX,bj,HQ⟩:=hrel;obtain ⟨N,rfl⟩:∃ z:World,z=wr:=⟨_,rfl⟩
   by_cases ba:j<f.outs.length
   ·have gc:(j:Int)<(f.outs.length:Int):=by omega
    obtain ⟨g,cs,rfl,hg,-,hp,hc⟩:=H2.out j ba;obtain rfl:cs=[FH FI f.outs[j].at_,FC (bs f.outs[j].name),FC (bs f.outs[j].src)]:=hp;have d0:=H.out.k.cell_of (hc 0 _ rfl) (by simp);have d1:=H.out.k.cell_of (hc 1 _ rfl) (by simp);have d2:=H.out.k.cell_of (hc 2 _ rfl) (by simp);rw[Nat.add_zero] at d0;obtain ⟨a3,h6⟩:=HS.out.told _ (Fs ba);have U:=HQ.out;rw[List.drop_eq_getElem_cons ba,py] at U;obtain ⟨x,hx⟩:∃ x,f.outs[j]=x:=⟨_,rfl⟩
    rw[hx] at d0 d1 d2 a3 h6 U;have ad:=Fk U;have lk:=(bX.out.keep ((Fz [] N).alloc (FG #[FH FI x.at_,FC (bs x.name),FC (bs x.src)] 60)) (by simp)).getT x.src h6;have ce:aa [] N (N.alloc (FG #[FH FI x.at_,FC (bs x.name),FC (bs x.src)] 60)):=(Fz _ _).alloc _;obtain ⟨Av,cv,Bv,dv,ev,a1⟩:=(bj.out.keep ce).get x.src;rw[ev] at lk;have nc:=H.out.cv.len;have ex:=H.out.keep ce;obtain ⟨w7,eY,cD,cz⟩:=ex.mp.putT x.name (.agg #[FD Av (getT m x.src).cols.length cv,FD Bv (getT m x.src).rows.length dv]) a3 (by have:=H2;omega);have dr:aa [b2] (N.alloc (FG #[FH FI x.at_,FC (bs x.name),FC (bs x.src)] 60)) w7:=(Fz [b2] _).grown cz (fun g hg=> .inl (by injection hg with hg;simp[hg]));obtain ⟨es,mb,bk⟩:=ex.mp.isM;have cd:=Fk (ex.put ⟨Av,cv,Bv,dv,rfl,a1⟩ cD dr);have lx:=Fk ((bX.out.keep ce (by simp)).keep dr (by simpa using i5.out));have lG:=Fk ((bj.out.keep ce).keepM bk dr);clear U hx hc ev a1 cD cz dr ce bk ex;go_wp2;go_roundw
    case rel=>exact ⟨j+1,_,_,by omega,by go_num,by simp only[Fv];omega,cd,lx,lG,ad⟩
    case measure=>simp[intOf];omega
   have gc:¬(j:Int)<(f.outs.length:Int):=by omega
   have ls:Hid (R= .ok o):=Fk (by
    have h:=HQ.out;rw[List.drop_of_length_le (by omega)] at h;rw[V.out,←h];rfl)
   have D:=H.out.rb;have c0':N.cell? ⟨X+1,0,none⟩=some (FH FI 0):=D.cell 0;have c1':N.cell? ⟨X+1,1,none⟩=some (FH FI 0):=D.cell 1;have z0':N.frozen? ⟨X+1,0,none⟩=false:=D.frozen 0;have z1':N.frozen? ⟨X+1,1,none⟩=false:=D.frozen 1;have I:=Fk (iH D H.out.k a7.out);have fz:=Fk H.out.fin;have j4:=Fk H.out.hb;clear D;go_wp2
   (try simp only[Exit.inBlock,Exit.then])
   refine bodyPost_ret (bU rfl _ _ (X+1) _ _ _ _ rfl (I.out _ _).1 Tryz.underlying39 rfl (by kernel_rfl)) rfl ?_;exact ⟨by rw[ls.out];exact ⟨_,_,rfl,(fz.out _ _).1,(fz.out _ _).2,by have:=j4.out;have:=ml.out;omega⟩,(I.out _ _).2⟩
end
end Go.Proofs.YtecpeogejjibaaaGreatDoor
