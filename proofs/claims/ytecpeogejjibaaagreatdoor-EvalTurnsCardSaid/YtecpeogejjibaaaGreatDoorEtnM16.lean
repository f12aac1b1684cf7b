/- A flow's own tokens are read as that flow: plain. Jobs, and whole flows, of their own tokens: plain. What a flow that was read is like: every part of the parser: plain. Parse's deferred closure. Parse. What the program's Parse hands back, in one form, whether the text is a flow or none. A flow that was read may be looked at by plan. Jobs in memory, row by row: read whole, put behind one another; slices.Clone of them. -/
import Derived.Test.YtecpeogejjibaaaGreatDoorEtnM13
import Derived.Test.YtecpeogejjibaaaGreatDoorEtnM11
import Derived.Defers
import Derived.Recover
import Derived.Test.YtecpeogejjibaaaGreatDoorEtnM3
import Derived.WalkSpells
set_option linter.unusedSimpArgs false
set_option linter.unusedVariables false
set_option maxRecDepth 100000
set_option maxHeartbeats 16000000
namespace Go.Proofs.YtecpeogejjibaaaGreatDoor
open Go.Lib renaming hid → Fk
open _root_.Nat renaming le_refl → Fm, le_trans → Ft, zero_le → Fu
open _root_.List renaming length_append → Fo, getElem_mem → Fs, length_cons → Fv, length_take → Fw
open aa renaming refl → Fz
open ao renaming new → FA
open Go.Value renaming string → FC, slice → FD, pointer → FE, int → FH
open Go.Ending renaming returned → FF
open Go.Obj renaming cells → FG
open Go.IntKind renaming i64 → FI
section
def Mt (m:List Tk) (l:List Pc):Prop:=m.map kt=l.map Prod.fst
theorem Mt.nil {m:List Tk} (h:Mt m []):m=[]:=by
 unfold Mt at h;simpa using h
theorem Mt.cons {m:List Tk} {p:Pc} {l:List Pc} (h:Mt m (p::l)):∃ t r,m=t::r∧kt t=p.1∧Mt r l:=by
 unfold Mt at h
 cases m with
 | nil=>cases h
 | cons t r =>
  injection h with H D;exact ⟨t,r,rfl,H,D⟩
theorem Fg:(2:Int)≠5:=by decide
def Fh (t:Tk):Prop:=BK t∧(t.kind=1→t.text≠[]∧jU (t.text.headD 0)=true∧∀ c∈t.text,sE c=true)
def fQ (n:Nat) (l r:List Tk):Prop:=(∀ t∈r,t∈l)∧n+r.length≤l.length∧(i8 l→i8 r)
theorem fQ.refl (l:List Tk):fQ 0 l l:=⟨fun _ h=>h,by omega,fun h=>h⟩
theorem fQ.trans {n m k:Nat} {l r q:List Tk} (h:fQ n l r) (g:fQ m r q) (H:k≤n+m):fQ k l q:=⟨fun t D=>h.1 t (g.1 t D),by have:=h.2.1;have:=g.2.1;omega,fun e=>g.2.2 (h.2.2 e)⟩
theorem fQ.tail {l:List Tk} (h:(aS l).kind≠5):fQ 1 l l.tail:=by
 cases l with
 | nil=>exact absurd rfl h
 | cons t l=>exact ⟨fun u D=>List.mem_cons_of_mem _ D,by simp;omega,fun e=>e.tail h⟩
def eL (l:List Tk):Prop:=∀ t∈l,Fh t
theorem eL.sub {n:Nat} {l r:List Tk} (h:eL l) (g:fQ n l r):eL r:=fun t D=>h t (g.1 t D)
theorem eL.hd {l:List Tk} (h:eL l) (D:(aS l).kind≠5):Fh (aS l):=by
 cases l with
 | nil=>exact absurd rfl D
 | cons t l=>exact h t (by simp)
theorem dQ {l r:List Tk} {s:Bs} (U:eL l) (h:aQ l= .ok (s,r)):bI s∧fQ 1 l r:=by
 obtain ⟨D,O,rfl,rfl⟩:=ja h;have H:(aS l).kind≠5:=by rw[D];decide
 obtain ⟨_,J⟩:=U.hd H;obtain ⟨M,N,I⟩:=J D;exact ⟨⟨M,O,N,I⟩,fQ.tail H⟩
theorem dJ {l r:List Tk} {s:Bs} (h:aR s l= .ok r):fQ 1 l r:=by
 obtain ⟨D,rfl⟩:=nM h;exact fQ.tail (dY D)
theorem wQ {l r:List Tk} {s:Bs} {ms:List Bs} (h:iu ms l= .ok (s,r)):s∈ms∧fQ 1 l r:=by
 obtain ⟨k,_,D,rfl,H,rfl⟩:=nk h;exact ⟨Fs D,fQ.tail (dY H)⟩
theorem qU:∀ (n:Nat) {l r:List Tk} {acc ns:List Bs},eL l→dU n l acc= .ok (ns,r)→∃ H,ns=acc++H∧(∀ s∈H,bI s)∧fQ (2*H.length) l r
 | 0,l,r,acc,ns,N,h=>by
  injection h with h;injection h with D J;subst D J;exact ⟨[],by simp,(fun s I=>by cases I),fQ.refl _⟩
 | n+1,l,r,acc,ns,N,h=>by
  unfold dU at h;split at h
  ·rename_i I
   have M:=fQ.tail (dY I);obtain ⟨⟨s,r1⟩,D,h⟩:=aj h;dsimp only at h D
   obtain ⟨hw,U⟩:=dQ (N.sub M) D;obtain ⟨H,rfl,Z,V⟩:=qU n ((N.sub M).sub U) h;exact ⟨s::H,by simp,fun u O=>by rcases List.mem_cons.1 O with rfl|O;exact hw;exact Z u O,(M.trans U (Fm _)).trans V (by simp;omega)⟩
  injection h with h;injection h with D J;subst D J;exact ⟨[],by simp,(fun s I=>by cases I),fQ.refl _⟩
theorem mS (e:Bs):∀ l:List Bs,l≠[]→(fy l e).length+1=2*l.length
 | [],h=>absurd rfl h
 | [a],_=>rfl
 | a::b::l,_=>by
  have:=mS e (b::l) (by simp);show (((1,a),[])::((4,[44]),[32])::fy (b::l) e:List Pc).length+1=_;simp only[Fv] at this ⊢;omega
theorem pB:∀ l:List Cl,l≠[]→(pA l).length+1=3*l.length
 | [],h=>absurd rfl h
 | [a],_=>rfl
 | a::b::l,_=>by
  have:=pB (b::l) (by simp);show (((1,a.name),[32])::((1,eP a.kind.toNat),[])::((4,[44]),[32])::pA (b::l):List Pc).length+1=_;simp only[Fv] at this ⊢;omega
theorem wR {l r:List Tk} {ns:List Bs} (M:eL l) (hl:l.length≤1000) (h:fh l= .ok (ns,r)):rA ns∧∀ e,fQ (fy ns e).length l r:=by
 unfold fh at h;obtain ⟨⟨s,Z⟩,I,h⟩:=aj h;dsimp only at h I
 obtain ⟨V,J⟩:=dQ M I;obtain ⟨O,rfl,U,N⟩:=qU _ (M.sub J) h;have H:=J.trans N (Fm _);refine ⟨⟨by simp,by have:=H.2.1;simp;omega,fun u D=>?_⟩,fun e=>⟨H.1,?_,H.2.2⟩⟩
 ·rcases List.mem_append.1 D with D|D
  ·rw[List.mem_singleton.1 D];exact V
  exact U u D
 have:=mS e ([s]++O) (by simp);have:=H.2.1;simp only[Fo,Fv,List.length_nil] at *;omega
theorem uf:∀ (n:Nat) {l r:List Tk} {acc cs:List Cl},eL l→dD n l acc= .ok (cs,r)→l.length≤n→0<l.length→∃ H,cs=acc++H∧H≠[]∧(∀ c∈H,bI c.name∧(c.kind=1∨c.kind=2))∧fQ (3*H.length-1) l r
 | 0,l,r,acc,cs,_,_,U,M=>by omega
 | n+1,l,r,acc,cs,hn,h,hl,_=>by
  rw[eU] at h;obtain ⟨⟨s,r1⟩,U,h⟩:=aj h;obtain ⟨⟨k,V⟩,M,h⟩:=aj h;dsimp only at h M
  obtain ⟨hw,s1⟩:=dQ hn U;obtain ⟨hk,s2⟩:=wQ M;have Z:=(hn.sub s1).sub s2;have I:=s1.trans s2 (Fm _);have N:∀ k:Bs,(if k=[116,101,120,116] then (2:Int) else 1)=1∨(if k=[116,101,120,116] then (2:Int) else 1)=2:=fun k=>by split;exact .inr rfl;exact .inl rfl
  split at h
  ·rename_i hs
   have s3:=fQ.tail (dY hs);have D:=I.trans s3 (Fm _);have J:0<V.tail.length∨V.tail=[]:=by cases V.tail with|nil=>exact .inr rfl|cons _ _=>exact .inl (by simp)
   rcases J with J|J
   ·obtain ⟨H,rfl,_,hy,s4⟩:=uf n (Z.sub s3) h (by have:=D.2.1;omega) J
    exact ⟨⟨s,if k=[116,101,120,116] then 2 else 1⟩::H,by simp,by simp,fun u O=>by rcases List.mem_cons.1 O with rfl|O;exact ⟨hw,N k⟩;exact hy u O,D.trans s4 (by simp;omega)⟩
   rw[J] at h
   cases n with
   | zero=>have:=D.2.1;omega
   | succ n =>
    rw[eU] at h;cases h
  injection h with h;injection h with U M;subst U M;exact ⟨[⟨s,if k=[116,101,120,116] then 2 else 1⟩],rfl,by simp,fun u O=>by rw[List.mem_singleton.1 O];exact ⟨hw,N k⟩,I⟩
theorem wS {r q:List Tk} {v u:Vl} (H:(aS r).kind≠5) (h:kr r v= .ok (u,q)):u=v∧eO v=true∧fQ 1 r q:=by
 unfold kr at h;split at h
 ·rename_i D
  injection h with h;injection h with J I;subst J I;exact ⟨rfl,D,fQ.tail H⟩
 cases h
theorem jO (v:Vl) (e:Bs):(ue v e).length≤2∧(0≤v.num∨v.kind≠1→(ue v e).length=1):=by
 unfold ue;split
 ·rename_i D
  split
  ·rename_i H
   exact ⟨by simp,fun h=>by rcases h with h|h;omega;exact absurd D h⟩
  exact ⟨by simp,fun _=>rfl⟩
 exact ⟨by simp,fun _=>rfl⟩
theorem CF {l r:List Tk} {v:Vl} (V:eL l) (h:iq l= .ok (v,r)):eO v=true∧∀ e,fQ (ue v e).length l r:=by
 unfold iq at h;split at h
 ·rename_i O
  have M:=fQ.tail (dY O);unfold eS at h;split at h
  ·cases h
  split at h
  ·rename_i D
   obtain ⟨rfl,H,I⟩:=wS (by rw[D];decide) h;exact ⟨H,fun e=>M.trans I (jO _ e).1⟩
  split at h
  ·rename_i D
   split at h
   ·obtain ⟨rfl,H,I⟩:=wS (by rw[D];decide) h
    exact ⟨H,fun e=>M.trans I (jO _ e).1⟩
   cases h
  cases h
 unfold eS at h;split at h
 ·cases h
 split at h
 ·rename_i D
  obtain ⟨rfl,H,I⟩:=wS (by rw[D];decide) h;exact ⟨H,fun e=>by rw[(jO _ e).2 (.inr (show (2:Int)≠1 by decide))];exact I⟩
 split at h
 ·rename_i D
  split at h
  ·rename_i n N
   have J:(aS l).kind≠5:=by rw[D];decide
   obtain ⟨rfl,H,I⟩:=wS J h;have U:=je N ((V.hd J).1.2.1 D);exact ⟨H,fun e=>by rw[(jO _ e).2 (.inl (by simpa using U.1))];exact I⟩
  cases h
 cases h
theorem Bu {l r:List Tk} {a:Ar} (N:eL l) (h:lK l= .ok (a,r)):sN a∧∀ e,fQ (ii a e).length l r:=by
 unfold lK at h;split at h
 ·obtain ⟨⟨s,U⟩,H,h⟩:=aj h
  injection h with h;injection h with J D;subst J D;obtain ⟨M,I⟩:=dQ N H;exact ⟨.inl ⟨M,rfl⟩,fun e=>by unfold ii;rw[if_neg M.ne];exact I⟩
 obtain ⟨⟨v,U⟩,H,h⟩:=aj h;injection h with h;injection h with J D;subst J D;obtain ⟨O,I⟩:=CF N H;exact ⟨.inr ⟨rfl,O⟩,fun e=>by unfold ii;rw[if_pos rfl];exact I e⟩
theorem EK {l r:List Tk} {x:Pb} (D:eL l) (h:ng l= .ok (x,r)):DA x∧fQ (Bk x).length l r:=by
 unfold ng at h;obtain ⟨q1,g1,h⟩:=aj h;try dsimp only at h
 have N:=dJ g1;have D:=D.sub N;have S:=N;obtain ⟨⟨a2,q2⟩,M,h⟩:=aj h;try dsimp only at h M
 obtain ⟨V,O⟩:=dQ D M;have D:=D.sub O;have S:=S.trans O (Fm _);obtain ⟨q3,g3,h⟩:=aj h;try dsimp only at h
 have H:=dJ g3;have D:=D.sub H;have S:=S.trans H (Fm _);obtain ⟨⟨a4,q4⟩,U,h⟩:=aj h;try dsimp only at h U
 obtain ⟨w4,J⟩:=dQ D U;have D:=D.sub J;have S:=S.trans J (Fm _);obtain ⟨q5,g5,h⟩:=aj h;try dsimp only at h
 have I:=dJ g5;have D:=D.sub I;have S:=S.trans I (Fm _);injection h with h;injection h with h1 Z;subst h1 Z;exact ⟨⟨V,w4⟩,S⟩
theorem E8 {l r:List Tk} {x:In} (D:eL l) (hl:l.length≤1000) (he:i8 l) (h:eE l= .ok (x,r)):E5 x∧fQ (Ee x).length l r:=by
 unfold eE at h;obtain ⟨q1,g1,h⟩:=aj h;try dsimp only at h
 have U:=dJ g1;have D:=D.sub U;have S:=U;obtain ⟨⟨a2,q2⟩,O,h⟩:=aj h;try dsimp only at h O
 obtain ⟨w2,V⟩:=dQ D O;have D:=D.sub V;have S:=S.trans V (Fm _);obtain ⟨q3,g3,h⟩:=aj h;try dsimp only at h
 have J:=dJ g3;have D:=D.sub J;have S:=S.trans J (Fm _);obtain ⟨⟨I,q4⟩,Z,h⟩:=aj h;try dsimp only at h Z
 obtain ⟨ys,e4,H,w4,N⟩:=uf _ D Z (Fm _) (S.2.2 he).pos;have D:=D.sub N;have S:=S.trans N (Fm _);obtain ⟨q5,g5,h⟩:=aj h;try dsimp only at h
 have M:=dJ g5;have D:=D.sub M;have S:=S.trans M (Fm _);injection h with h;injection h with h1 h2;subst h1 h2;rw[List.nil_append] at e4;subst e4;have ad:=pB I H;have hS:=S.2.1;refine ⟨⟨w2,H,by show I.length≤1000;omega,w4⟩,S.1,?_,S.2.2⟩;show (((1,[105,110]),[32])::((1,a2),[])::((4,[58]),[32])::(pA I++[((4,[59]),[10])]):List Pc).length+_≤_;simp only[Fv,Fo,List.length_nil];omega
theorem CH {l r:List Tk} {n:Int} (O:eL l) (h:dW l= .ok (n,r)):(0≤n∧n≤5)∧fQ (sa n).length l r:=by
 unfold dW at h;split at h
 ·rename_i V
  have M:=fQ.tail (dY V);split at h
  ·cases h
  rename_i U;have H:(aS l.tail).kind=2:=by
   by_cases e:(aS l.tail).kind=2
   ·exact e
   exact absurd e U
  have D:(aS l.tail).kind≠5:=by rw[H];decide
  split at h
  ·rename_i n' N
   have Z:=je N (((O.sub M).hd D).1.2.1 H);split at h
   ·cases h
   injection h with h;injection h with J I;subst J I;refine ⟨⟨Z.1,by omega⟩,M.trans (fQ.tail D) ?_⟩;unfold sa;split
   ·exact Fm _
   exact Fu _
  cases h
 injection h with h;injection h with J I;subst J I;exact ⟨⟨Int.le_refl _,by decide⟩,fQ.refl _⟩
theorem EL {l r:List Tk} {j J:Jb} (D:eL l) (h:xG j l= .ok (J,r)):(∃ a c,bI a∧bI c∧J={ j with ins:=j.ins++[a],cols:=j.cols++[c] })∧fQ 3 l r:=by
 unfold xG at h;obtain ⟨⟨a1,q1⟩,O,h⟩:=aj h;try dsimp only at h O
 obtain ⟨w1,I⟩:=dQ D O;have D:=D.sub I;have S:=I;obtain ⟨q2,Z,h⟩:=aj h;try dsimp only at h
 have M:=dJ Z;have D:=D.sub M;have S:=S.trans M (Fm _);obtain ⟨⟨a3,q3⟩,N,h⟩:=aj h;try dsimp only at h N
 obtain ⟨w3,H⟩:=dQ D N;have D:=D.sub H;have S:=S.trans H (Fm _);injection h with h;injection h with V U;subst V U;exact ⟨⟨a1,a3,w1,w3,rfl⟩,S⟩
theorem Eh {l r:List Tk} {j I:Jb} (M:eL l) (h:nL j l= .ok (I,r)):(∃ a c b d,bI a∧bI b∧bI c∧bI d∧I={ j with ins:=j.ins++[a]++[b],cols:=j.cols++[c]++[d] })∧fQ 7 l r:=by
 unfold nL at h;obtain ⟨⟨j1,r1⟩,D,h⟩:=aj h;dsimp only at h D
 obtain ⟨⟨a,c,Z,V,rfl⟩,H⟩:=EL M D;obtain ⟨r2,O,h⟩:=aj h;have J:=dJ O;obtain ⟨⟨b,d,U,hd,rfl⟩,N⟩:=EL ((M.sub H).sub J) h;exact ⟨⟨a,c,b,d,Z,U,V,hd,rfl⟩,(H.trans J (Fm _)).trans N (by omega)⟩
theorem CI {l r:List Tk} {j J:Jb} (D:eL l) (h:ku j l= .ok (J,r)):(∃ a b,bI a∧bI b∧J={ j with ins:=j.ins++[a]++[b] })∧fQ 3 l r:=by
 unfold ku at h;obtain ⟨⟨a1,q1⟩,O,h⟩:=aj h;try dsimp only at h O
 obtain ⟨w1,I⟩:=dQ D O;have D:=D.sub I;have S:=I;obtain ⟨q2,Z,h⟩:=aj h;try dsimp only at h
 have M:=dJ Z;have D:=D.sub M;have S:=S.trans M (Fm _);obtain ⟨⟨a3,q3⟩,N,h⟩:=aj h;try dsimp only at h N
 obtain ⟨w3,H⟩:=dQ D N;have D:=D.sub H;have S:=S.trans H (Fm _);injection h with h;injection h with V U;subst V U;exact ⟨⟨a1,a3,w1,w3,rfl⟩,S⟩
theorem wT {l r:List Tk} {j N:Jb} (D:eL l) (h:ei j l= .ok (N,r)):(∃ s o a,bI s∧o∈xF∧sN a∧N={ j with left:=⟨s,zV⟩,op:=o,right:=a }∧fQ (3+(ii a []).length) l r):=by
 unfold ei at h;obtain ⟨q1,g1,h⟩:=aj h;try dsimp only at h
 have M:=dJ g1;have D:=D.sub M;have S:=M;obtain ⟨⟨a2,q2⟩,J,h⟩:=aj h;try dsimp only at h J
 obtain ⟨Z,O⟩:=dQ D J;have D:=D.sub O;have S:=S.trans O (Fm _);obtain ⟨⟨a3,q3⟩,V,h⟩:=aj h;try dsimp only at h V
 obtain ⟨w3,I⟩:=wQ V;have D:=D.sub I;have S:=S.trans I (Fm _);obtain ⟨⟨a4,q4⟩,U,h⟩:=aj h;try dsimp only at h U
 obtain ⟨w4,H⟩:=Bu D U;have H:=H [];have D:=D.sub H;have S:=S.trans H (Fm _);injection h with h;injection h with h1 h2;subst h1 h2;exact ⟨a2,a3,a4,Z,w3,w4,rfl,S⟩
theorem EM {l r:List Tk} {j U:Jb} (D:eL l) (h:sF j l= .ok (U,r)):(∃ c a o b,bI c∧sN a∧o∈[[43],[45],[42]]∧sN b∧U={ j with cols:=[c],left:=a,op:=o,right:=b }∧fQ (3+(ii a [32]).length+1+(ii b []).length) l r):=by
 unfold sF at h;obtain ⟨q1,g1,h⟩:=aj h;try dsimp only at h
 have O:=dJ g1;have D:=D.sub O;have S:=O;obtain ⟨⟨a2,q2⟩,N,h⟩:=aj h;try dsimp only at h N
 obtain ⟨w2,V⟩:=dQ D N;have D:=D.sub V;have S:=S.trans V (Fm _);obtain ⟨q3,g3,h⟩:=aj h;try dsimp only at h
 have J:=dJ g3;have D:=D.sub J;have S:=S.trans J (Fm _);obtain ⟨⟨a4,q4⟩,g4,h⟩:=aj h;try dsimp only at h g4
 obtain ⟨w4,H⟩:=Bu D g4;have H:=H [32];have D:=D.sub H;have S:=S.trans H (Fm _);obtain ⟨⟨a5,q5⟩,g5,h⟩:=aj h;try dsimp only at h g5
 obtain ⟨w5,M⟩:=wQ g5;have D:=D.sub M;have S:=S.trans M (Fm _);obtain ⟨⟨a6,q6⟩,Z,h⟩:=aj h;try dsimp only at h Z
 obtain ⟨w6,I⟩:=Bu D Z;have I:=I [];have D:=D.sub I;have S:=S.trans I (Fm _);injection h with h;injection h with h1 h2;subst h1 h2;exact ⟨a2,a4,a5,a6,w2,w4,w5,w6,rfl,S⟩
theorem EN {l r:List Tk} {j M:Jb} (D:eL l) (hl:l.length≤1000) (h:zP j l= .ok (M,r)):(∃ ns,rA ns∧M={ j with cols:=ns }∧fQ (1+(fy ns []).length) l r):=by
 unfold zP at h;obtain ⟨q1,Z,h⟩:=aj h;try dsimp only at h
 have J:=dJ Z;have D:=D.sub J;have S:=J;obtain ⟨⟨V,q2⟩,I,h⟩:=aj h;try dsimp only at h I
 obtain ⟨N,H⟩:=wR D (by have:=S.2.1;omega) I;have H:=H [];have D:=D.sub H;have S:=S.trans H (Fm _);injection h with h;injection h with U O;subst U O;exact ⟨V,N,rfl,S⟩
theorem CK {l r:List Tk} {j N:Jb} (D:eL l) (h:i7 j l= .ok (N,r)):(∃ c o d,bI c∧bI d∧o∈[[115,117,109],[109,97,120]]∧N={ j with cols:=[c,d],op:=o }∧fQ 4 l r):=by
 unfold i7 at h;obtain ⟨q1,g1,h⟩:=aj h;try dsimp only at h
 have M:=dJ g1;have D:=D.sub M;have S:=M;obtain ⟨⟨a2,q2⟩,J,h⟩:=aj h;try dsimp only at h J
 obtain ⟨Z,O⟩:=dQ D J;have D:=D.sub O;have S:=S.trans O (Fm _);obtain ⟨⟨a3,q3⟩,V,h⟩:=aj h;try dsimp only at h V
 obtain ⟨w3,H⟩:=wQ V;have D:=D.sub H;have S:=S.trans H (Fm _);obtain ⟨⟨a4,q4⟩,U,h⟩:=aj h;try dsimp only at h U
 obtain ⟨w4,I⟩:=dQ D U;have D:=D.sub I;have S:=S.trans I (Fm _);injection h with h;injection h with h1 h2;subst h1 h2;exact ⟨a2,a3,a4,Z,w4,w3,rfl,S⟩
theorem wU:∀ o∈xF,o.length≤10:=by decide
theorem CL:∀ o∈([[43],[45],[42]]:List Bs),o.length≤10:=by decide
theorem CM:∀ o∈([[115,117,109],[109,97,120]]:List Bs),o.length≤10:=by decide
theorem Ei {l r:List Tk} {ad:Int} {outs:List Bs} {rt:Int} {j:Jb} (hn:eL l) (hl:l.length≤1000) (h:bF (BW ad outs rt) l= .ok (j,r)):(j.outs=outs∧j.retry=rt∧zY j.left∧zY j.right∧j.op.length≤10∧C7 j)∧fQ (Bl j).length l r:=by
 unfold bF at h;split at h
 ·cases h
 rename_i h0;have hk:(aS l).kind≠5:=by
  intro e;exact h0 (.inr (by rw[e];decide))
 have V:=fQ.tail hk;have O:=hn.sub V;have a1:l.tail.length≤1000:=by have:=V.2.1;omega
 have z:zY ⟨[],zV⟩:= .inl rfl;have a0:¬bR (aS l).text=0:=fun e=>h0 (.inl e)
 have aA:=qo (aS l).text;generalize bR (aS l).text=c at h a0 aA;clear h0;split at h
 ·rename_i e
  subst e;obtain ⟨⟨a,c,b,d,N,I,Z,hd,rfl⟩,U⟩:=Eh O h;exact ⟨⟨rfl,rfl,z,z,Fu 10,.inl ⟨rfl,a,b,c,d,N,I,Z,hd,rfl,rfl⟩⟩,V.trans U (Fm _)⟩
 split at h
 ·rename_i e
  subst e;obtain ⟨⟨a,b,N,I,rfl⟩,U⟩:=CI O h;exact ⟨⟨rfl,rfl,z,z,Fu 10,.inr (.inl ⟨rfl,a,b,N,I,rfl,rfl⟩)⟩,V.trans U (Fm _)⟩
 obtain ⟨⟨a,q⟩,h1,h⟩:=aj h;dsimp only at h h1
 obtain ⟨N,U⟩:=dQ O h1;have H:=O.sub U;have av:q.length≤1000:=by have:=U.2.1;omega
 have D:=V.trans U (Fm _);rename_i n7 n5;obtain rfl|rfl|rfl|rfl|rfl|rfl|rfl:c=1∨c=2∨c=3∨c=4∨c=6∨c=8∨c=9:=by omega
 ·obtain ⟨s,o,b,hs,M,I,rfl,J⟩:=wT H (show ei _ q=_ from h)
  exact ⟨⟨rfl,rfl,.inr (.inl ⟨hs,rfl⟩),.inr I,wU o M,.inr (.inr (.inr (.inl ⟨.inl rfl,a,s,N,hs,rfl,rfl,rfl,M,I⟩)))⟩,D.trans J (by
   show (((1,i6 1),[32])::((1,a),[32])::((1,[119,104,101,114,101]),[32])::((1,s),[32])::((4,o),[32])::ii b []:List Pc).length≤_;simp only[Fv];omega)⟩
 ·obtain ⟨c,x,o,b,Z,hx,M,I,rfl,J⟩:=EM H (show sF _ q=_ from h)
  exact ⟨⟨rfl,rfl,.inr hx,.inr I,CL o M,.inr (.inr (.inr (.inr (.inl ⟨rfl,a,c,N,Z,rfl,rfl,hx,M,I⟩))))⟩,D.trans J (by
   show (((1,i6 2),[32])::((1,a),[])::((4,[58]),[32])::((1,c),[32])::((4,[61]),[32])::(ii x [32]++((4,o),[32])::ii b []):List Pc).length≤_;simp only[Fv,Fo];omega)⟩
 ·obtain ⟨ns,hw,rfl,J⟩:=EN H av (show zP _ q=_ from h)
  exact ⟨⟨rfl,rfl,z,z,Fu 10,.inr (.inr (.inr (.inr (.inr (.inl ⟨.inl rfl,a,N,rfl,hw⟩)))))⟩,D.trans J (by
   show (((1,i6 3),[32])::((1,a),[32])::((1,[98,121]),[32])::fy ns []:List Pc).length≤_;simp only[Fv];omega)⟩
 ·obtain ⟨ns,hw,rfl,J⟩:=EN H av (show zP _ q=_ from h)
  exact ⟨⟨rfl,rfl,z,z,Fu 10,.inr (.inr (.inr (.inr (.inr (.inl ⟨.inr rfl,a,N,rfl,hw⟩)))))⟩,D.trans J (by
   show (((1,i6 4),[32])::((1,a),[32])::((1,[98,121]),[32])::fy ns []:List Pc).length≤_;simp only[Fv];omega)⟩
 ·have h':(Except.ok (⟨ad,6,outs,[]++[a],[],[],⟨[],zV⟩,⟨[],zV⟩,rt⟩,q):Except (Int×Int) (Jb×List Tk))= .ok (j,r):=h
  injection h' with h';injection h' with h2 h3;subst h2 h3;exact ⟨⟨rfl,rfl,z,z,Fu 10,.inr (.inr (.inl ⟨rfl,a,N,rfl,rfl⟩))⟩,D⟩
 ·obtain ⟨c,o,d,Z,hd,M,rfl,J⟩:=CK H (show i7 _ q=_ from h)
  exact ⟨⟨rfl,rfl,z,z,CM o M,.inr (.inr (.inr (.inr (.inr (.inr ⟨rfl,a,c,d,N,Z,hd,rfl,rfl,M⟩)))))⟩,D.trans J (by
   show (((1,i6 8),[32])::((1,a),[32])::((1,[98,121]),[32])::((1,c),[32])::((1,o),[32])::((1,d),[])::[]:List Pc).length≤_;simp only[Fv,List.length_nil];omega)⟩
 obtain ⟨s,o,b,hs,M,I,rfl,J⟩:=wT H (show ei _ q=_ from h);exact ⟨⟨rfl,rfl,.inr (.inl ⟨hs,rfl⟩),.inr I,wU o M,.inr (.inr (.inr (.inl ⟨.inr rfl,a,s,N,hs,rfl,rfl,rfl,M,I⟩)))⟩,D.trans J (by
  show (((1,i6 9),[32])::((1,a),[32])::((1,[119,104,101,114,101]),[32])::((1,s),[32])::((4,o),[32])::ii b []:List Pc).length≤_;simp only[Fv];omega)⟩
theorem EO {l r:List Tk} {x:Jb} (D:eL l) (hl:l.length≤1000) (h:kT l= .ok (x,r)):rB x∧fQ (wP x).length l r:=by
 unfold kT at h;obtain ⟨q1,g1,h⟩:=aj h;have I:=dJ g1;have D:=D.sub I;obtain ⟨⟨os,q2⟩,O,h⟩:=aj h;dsimp only at h O
 obtain ⟨w2,H⟩:=wR D (by have:=I.2.1;omega) O;have H:=H [32];have D:=D.sub H;have S:=I.trans H (Fm _);obtain ⟨⟨n,q3⟩,V,h⟩:=aj h;dsimp only at h V
 obtain ⟨U,M⟩:=CH D V;have D:=D.sub M;have S:=S.trans M (Fm _);obtain ⟨q4,g4,h⟩:=aj h;have N:=dJ g4;have D:=D.sub N;have S:=S.trans N (Fm _);obtain ⟨⟨j,q5⟩,g5,h⟩:=aj h;dsimp only at h g5
 obtain ⟨⟨Z,J,o3,o4,o5,o6⟩,s5⟩:=Ei D (by have:=S.2.1;omega) g5;have S:=S.trans s5 (Fm _);obtain ⟨q6,g6,h⟩:=aj h;have s6:=dJ g6;have S:=S.trans s6 (Fm _);injection h with h;injection h with h1 h2;subst h1 h2;refine ⟨⟨by rw[Z];exact w2,by rw[J];exact U.1,by rw[J];exact U.2,o3,o4,o5,o6⟩,S.1,?_,S.2.2⟩;have:=S.2.1;unfold wP;rw[Z,J];simp only[Fv,Fo,List.length_nil];omega
theorem sc {α:Type} {pc:α→List Pc} {W:α→Prop} {w:Bs} {D:List Tk→Except (Int×Int) (α×List Tk)} (ho:∀ l x r,eL l→l.length≤1000→i8 l→D l= .ok (x,r)→W x∧fQ (pc x).length l r):∀ (n:Nat) (l r:List Tk) (acc xs:List α),eL l→l.length≤1000→i8 l→acc.length≤16→cR w D n l acc= .ok (xs,r)→∃ I,xs=acc++I∧(∀ y∈I,W y)∧xs.length≤16∧fQ (I.flatMap pc).length l r
 | 0,l,r,acc,xs,_,_,_,U,h=>by
  injection h with h;injection h with O N;subst O N;exact ⟨[],by simp,(fun y J=>by cases J),U,fQ.refl _⟩
 | n+1,l,r,acc,xs,Z,hl,V,U,h=>by
  unfold cR at h;split at h
  ·split at h
   ·cases h
   rename_i ad;obtain ⟨⟨x,q⟩,g,h⟩:=aj h;dsimp only at h g
   obtain ⟨hw,M⟩:=ho l x q Z hl V g;obtain ⟨I,rfl,J,H,s2⟩:=sc ho n q r (acc++[x]) xs (Z.sub M) (by have:=M.2.1;omega) (M.2.2 V) (by simp;omega) h;refine ⟨x::I,by simp,?_,H,M.trans s2 (by rw[List.flatMap_cons,Fo];omega)⟩;intro y hy';rcases List.mem_cons.1 hy' with rfl|hy'
   ·exact hw
   exact J y hy'
  injection h with h;injection h with O N;subst O N;exact ⟨[],by simp,(fun y J=>by cases J),U,fQ.refl _⟩
theorem CN {l:List Tk} {f:Fl} (H:eL l) (J:l.length≤1000) (I:i8 l) (h:lL l= .ok f):wC f∧(Ef f).length+1≤l.length:=by
 unfold lL at h;obtain ⟨⟨g,r⟩,D,h⟩:=aj h;dsimp only at h
 split at h
 ·cases h
 injection h with h;subst h;rw[sK] at D;obtain ⟨⟨a,q1⟩,g1,D⟩:=aj D;obtain ⟨xs,e1,w1,l1,U⟩:=sc (pc:=Ee) (W:=E5) (fun l x r H J I h=>E8 H J I h) _ _ _ _ _ H J I (by simp) g1;have O:=H.sub U;have aA:q1.length≤1000:=by have:=U.2.1;omega
 have N:=U.2.2 I;unfold qr at D;obtain ⟨⟨b,q2⟩,g2,D⟩:=aj D;obtain ⟨ys,e2,w2,l2,V⟩:=sc (pc:=wP) (W:=rB) (fun l x r H J I h=>EO H J h) _ _ _ _ _ O aA N (by simp) g2;have ad:=O.sub V;have Z:q2.length≤1000:=by have:=V.2.1;omega
 have M:=V.2.2 N;unfold nW at D;obtain ⟨⟨c,q3⟩,g3,D⟩:=aj D;obtain ⟨zs,e3,w3,l3,s3⟩:=sc (pc:=Bk) (W:=DA) (fun l x r H J I h=>EK H h) _ _ _ _ _ ad Z M (by simp) g3;have av:=s3.2.2 M;unfold nV at D;injection D with D;injection D with h2 h3;subst h2 h3;rw[List.nil_append] at e1 e2 e3;subst e1 e2 e3;refine ⟨⟨l1,l2,l3,w1,w2,w3⟩,?_⟩;have:=U.2.1;have:=V.2.1;have:=s3.2.1;have:=av.pos;unfold Ef;simp only[Fo] at *;omega
theorem Ej (c:UInt8) (t:Bs) (i:Int) (D:(bH (c::t)).2≠0) (h:(bH (c::t)).1=1):(c::t).take (bH (c::t)).2≠[]∧jU (((c::t).take (bH (c::t)).2).headD 0)=true∧∀ d∈(c::t).take (bH (c::t)).2,sE d=true:=by
 rw[vT] at D h ⊢;by_cases I:jU c=true
 ·rw[if_pos I] at D h ⊢
  dsimp only at D h ⊢
  refine ⟨?_,?_,lR _ _⟩
  ·obtain ⟨m,H⟩:∃ m,gu sE (c::t)=m+1:=⟨gu sE (c::t)-1,by omega⟩
   rw[H];simp
  obtain ⟨m,H⟩:∃ m,gu sE (c::t)=m+1:=⟨gu sE (c::t)-1,by omega⟩
  rw[H];exact I
 rw[if_neg I] at h;split at h
 ·cases h
 split at h<;>cases h
theorem CO:∀ (f:Nat) (s:Bs) (i:Nat) (acc l:List Tk),(∀ t∈acc,t.kind=1→t.text≠[]∧jU (t.text.headD 0)=true∧∀ c∈t.text,sE c=true)→fp f s i acc= .ok l→∀ t∈l,t.kind=1→t.text≠[]∧jU (t.text.headD 0)=true∧∀ c∈t.text,sE c=true:=by
 have D:∀ (acc:List Tk) (i:Nat) (l:List Tk),(∀ t∈acc,t.kind=1→t.text≠[]∧jU (t.text.headD 0)=true∧∀ c∈t.text,sE c=true)→(Except.ok (acc++[⟨5,[],(i:Int)⟩]):Except (Int×Int) (List Tk))= .ok l→∀ t∈l,t.kind=1→t.text≠[]∧jU (t.text.headD 0)=true∧∀ c∈t.text,sE c=true:=by
  intro acc i l H h t J;injection h with h;subst h;rcases List.mem_append.1 J with J|J
  ·exact H t J
  rw[List.mem_singleton.1 J];intro h;cases h
 intro f
 induction f with
 | zero=>intro s i acc l H h;exact D acc i l H h
 | succ f ih =>
  intro s i acc l H h
  cases s with
  | nil=>exact D acc i l H h
  | cons c t =>
   rw[vU] at h;split at h
   ·exact ih _ _ _ _ H h
   split at h
   ·cases h
   split at h
   ·cases h
   rename_i N M O;refine ih _ _ _ l ?_ h;intro u I;rcases List.mem_append.1 I with I|I
   ·exact H u I
   rw[List.mem_singleton.1 I];exact Ej c t i M
theorem CP {s:Bs} {l:List Tk} (H:s.length≤1000000) (h:uJ s= .ok l):eL l:=fun t D=>⟨(rz H h).2.1 t D,CO _ _ _ _ _ (fun t D=>by cases D) h t D⟩
theorem pC {s:Bs} {f:Fl} (D:s.length≤1000000) (h:fi s= .ok f):wC f∧(Ef f).length≤400:=by
 unfold fi at h;obtain ⟨l,H,h⟩:=aj h;obtain ⟨J,_,N⟩:=rz D H;obtain ⟨I,M⟩:=CN (CP D H) (by omega) J h;exact ⟨I,by omega⟩
end
section
open Go.RowKit Go.BigFrame
attribute [local go_sem] ag ab ae af
theorem CQ {P:Program} {c:Code} {Q:Exit→Act→World→Prop} {t t':Array Value} {d:List Deferred} {w:World} (h:t=t') (k:c.wp P Q ⟨t',d⟩ w):c.wp P Q ⟨t,d⟩ w:=h ▸ k
theorem By {P:Program} {c:Code} {Q:Exit→Act→World→Prop} {a:Act} {w:World} (h:∀ D:Exit→Act→World→Prop,(∀ e a w,Q e a w→D e a w)→c.wp P D a w):c.wp P Q a w:=h Q (fun _ _ _ h=>h)
theorem pE (p q:Addr) (w:World) :
  CallsD Tryz.prog 41 #[FE (some p),FE (some q)] .returning w fun e h w'=>e=FF (.tuple #[])∧h= .returning∧w'=w:=by
 refine callsD_of_wpS Tryz.func41 rfl fun H cs D=>?_
 apply wpS_seq;apply wpS_region;simp[wpOpsS,go_sem,recoverD,D,Tryz.ntmps41,Exit.thenS];refine wpS_of_wp ?_;go_wp2;cases H
 simp_all [bodyPostS,results,Tryz.results41]
theorem iM (h I M:Nat) (U v1 O:Value) (D:List PanicEntry) (w:World) (H:ao w h 29 #[U,v1,O]) (J:ao w I 34 #[.nilIface]) (N:h≠I) :
  CallsD Tryz.prog 41 #[FE (some ⟨h,0,none⟩),FE (some ⟨I,0,none⟩)] (.panicking ({ v:= .iface 104 (.agg #[.iface 73 (FE (some ⟨M,0,none⟩))]),recovered:=false }::D)) w fun e u' w' =>
   e=FF (.tuple #[])∧u'= .panicking ({ v:= .iface 104 (.agg #[.iface 73 (FE (some ⟨M,0,none⟩))]),recovered:=true }::D)∧ao w' h 29 #[FD none 0 0,FD none 0 0,FD none 0 0]∧ao w' I 34 #[.iface 73 (FE (some ⟨M,0,none⟩))]∧aa [h,I] w w':=by
 refine callsD_of_wpS Tryz.func41 rfl fun c₀ cs Z=>?_
 apply wpS_seq;apply wpS_region;simp[wpOpsS,go_sem,recoverD,Z,Tryz.ntmps41,Exit.thenS];refine wpS_of_wp (By fun QQ V=>?_);have HQ:=Fk V;have ad:∀ (v:Value) (w:World),(Instr.typeAssert (.iface 104 v) 20 104 true).run Tryz.prog w= .ok (.tuple #[v,.bool true]) w:=fun v w=>by first|kernel_rfl|rfl
 clear V Z;refine CQ (t':= #[FE (some ⟨h,0,none⟩),FE (some ⟨I,0,none⟩),.iface 104 (.agg #[.iface 73 (FE (some ⟨M,0,none⟩))]),undef,undef,.iface 104 (.agg #[.iface 73 (FE (some ⟨M,0,none⟩))]),undef,undef,undef,undef,undef,undef,undef,undef,undef,undef,undef,undef,undef]) (by first|rfl|simp[Array.replicate,List.replicate]|trace_state) ?_;have f0:w.cell? ⟨h,0,none⟩=some U:=H.cell 0;have f1:w.cell? ⟨h,1,none⟩=some v1:=H.cell 1;have f2:w.cell? ⟨h,2,none⟩=some O:=H.cell 2;have z0:=H.frozen 0;have z1:=H.frozen 1;have z2:=H.frozen 2;have e0:w.cell? ⟨I,0,none⟩=some .nilIface:=J.cell 0;have ez:=J.frozen 0;have lf:=H.lt;have le:=J.lt;have HF:=Fk H;have HE:=Fk J;clear H J;go_wp2;go_region
 refine HQ.out _ _ _ ⟨rfl,_,rfl,_,results_none rfl _ _ _,rfl,rfl,?_,?_,?_⟩
 ·exact ((((ky (kv (lP HF.out))).keep ((Fz [I] _).setCell (.inl (by simp)) _) (by simpa using N)).keep ((Fz [] _).alloc _) (by simp)).keep ((Fz [] _).drew) (by simp))
 ·have h1:aa [h] w (((w.setCell ⟨h,0,none⟩ (FD none 0 0)).setCell ⟨h,1,none⟩ (FD none 0 0)).setCell ⟨h,2,none⟩ (FD none 0 0)):=(((Fz _ _).setCell (.inl (by simp)) _).setCell (.inl (by simp)) _).setCell (.inl (by simp)) _
  exact ((((HE.out.keep h1 (by simpa using N.symm)).set 0 _).congr rfl).keep ((Fz [] _).alloc _) (by simp)).keep ((Fz [] _).drew) (by simp)
 exact (((((((Fz _ _).setCell (.inl (by simp)) _).setCell (.inl (by simp)) _).setCell (.inl (by simp)) _).setCell (.inl (by simp)) _).alloc _).drew)
theorem jg.low {W:World} {base h:Nat} (D:base≤h):∀ cs x,jg W h cs x→jg W base cs x:=fun _ _ ⟨v,H,I⟩=>⟨v,H,cG I D⟩
theorem jh.low {W:World} {base h:Nat} (D:base≤h):∀ cs x,jh W h cs x→jh W base cs x:=fun _ _ ⟨J,N,M,I,H⟩=>⟨J,N,M,I,⟨cG H.o2 D,cG H.o3 D,cG H.o4 D⟩⟩
theorem cP.low {α:Type} {H:World→Nat→List Value→α→Prop} {e:TypeId} {size base D:Nat} {W:World} {v:Value} {l:List α} (N:base≤D) (I:∀ cs x,H W D cs x→H W base cs x) (h:cP H e size W D v l):cP H e size W base v l:=by
 obtain ⟨us,M,J,O⟩:=h;exact ⟨us,M,cG J N,fun j h h'=>I _ _ (O j h h')⟩
def jP (R:Except (Int×Int) Fl) (base:Nat) (e:Ending) (w':World):Prop:=match R with
 | .ok f=>∃ I H h,e=FF (.tuple #[.agg #[I,H,h],.nilIface])∧mF w' base I f.ins∧ji w' base H f.jobs∧jj w' base h f.outs
 | .error x=>∃ D,e=FF (.tuple #[.agg #[FD none 0 0,FD none 0 0,FD none 0 0],.iface 73 (FE (some ⟨D,0,none⟩))])∧ao w' D 75 #[FH FI x.1,FH FI x.2]
theorem Eo {y:World} {base:Nat} {v:Value} {l:List Tk} (h:y.ownsRow base 114 3 v l.length (ej l)) (H:i8 l) (hw:∀ t∈l,BK t):Ps (y.alloc (FG #[v] 111)) y.heap.size l:=by
 rcases h.2 with ⟨_,h0⟩|⟨g,cap,cur,rfl,hb,M,O,N,h3,h4⟩
 ·have:=H.pos;omega
 have U:g<y.heap.size:=(Array.getElem?_eq_some_iff.1 M).1;have J:=(Fz [] y).alloc (FG #[FD (some ⟨g,0,none⟩) l.length cap] 111);obtain ⟨A,c,e,I⟩:=aq h;injection e with V e2 e3;subst V e3;obtain ⟨g',D,_,I⟩:=I H.pos;injection D with D;injection D with D;subst D;exact ⟨g,0,cap,FA _ _ _,⟨dP.keep ⟨_,_,M⟩ J (by simp),U⟩,O,N,H,hw,fun j u Z=>by rw[Nat.zero_add];exact J.cell_of (I j u Z) (by simp)⟩
theorem dx {W:World} {g b k:Nat} {e:TypeId} {cs:Array Value} {u:Value} (h:ao W g e cs) (D:g≠b):ao (W.setCell ⟨b,k,none⟩ u) g e cs:=h.keep ((Fz [b] _).setCell (.inl (by simp)) _) (by simpa using D)
theorem se {W:World} {g:Nat} {e:TypeId} {a u:Value} (h:ao W g e #[a]):ao (W.setCell ⟨g,0,none⟩ u) g e #[u]:=(h.set 0 u).congr rfl
theorem pF {W:World} {g:Nat} {e:TypeId} {cs:Array Value} (h:ao W g e cs):ao W.drew g e cs:=h
theorem iI {P:Program} {D:Func} {h:Array Value} {R:Ending→World→Prop} {w:World} {v:Value} (I:(results D h).run P w= .ok v w) (H:R (FF v) w):Leaves P D h R [] .returning w:=⟨v,I,H⟩
theorem qV (s:Bs) (hs:s.length≤1000000) (w:World) (hE:jW w) :
  Calls Tryz.prog 17 #[FC (bs s)] w fun e w'=>jP (fi s) w.heap.size e w'∧aa [] w w':=by
 have dB:∀ (fn:Fn) (first cap:Array Value) (w:World),(Instr.makeFunc fn first cap).run Tryz.prog w= .ok (.func fn first cap) w:=fun _ _ _ _=>rfl
 obtain ⟨R,hR⟩:∃ R,fi s=R:=⟨_,rfl⟩
 rw[hR];unfold fi at hR;have HR:=Fk hR;have HE:=Fk hE;have cu:=Fk hs;clear hR hE hs;go_enter_defers Tryz.func17,Tryz.ntmps17
 go_upto_region 2 with (fail)
 obtain ⟨W1,bc⟩:∃ x,w.alloc (FG #[FD none 0 0,FD none 0 0,FD none 0 0] 29)=x:=⟨_,rfl⟩
 have z1:W1.heap.size=w.heap.size+1:=by rw[←bc];exact pT _ _
 obtain ⟨y0,bm⟩:∃ x,W1.alloc (FG #[.nilIface] 34)=x:=⟨_,rfl⟩
 have k1:aa [] w W1:=by rw[←bc];exact (Fz _ _).alloc _
 have k2:aa [] W1 y0:=by rw[←bm];exact (Fz _ _).alloc _
 have b1:ao W1 w.heap.size 29 #[FD none 0 0,FD none 0 0,FD none 0 0]:=by rw[←bc];exact FA _ _ _
 have b2:ao y0 (w.heap.size+1) 34 #[.nilIface]:=by rw[←bm,←z1];exact FA _ _ _
 have b1':=b1.keep k2 (by simp);rw[bc,bm];obtain ⟨V,ch⟩:∃ x,w.heap.size+1=x:=⟨_,rfl⟩
 rw[ch] at b2 ⊢;obtain ⟨H,cg⟩:∃ x,w.heap.size=x:=⟨_,rfl⟩
 have cx:=Fk cg;rw[cg] at b1' ch ⊢;have cq:=Fk b1';have b5:=Fk b2;have HK:=Fk (k1.trans k2);have U:Hid (H≠V):=Fk (by omega);have ad:Hid (w.heap.size≤H):=Fk (by have:=cx.out;omega);have a3:Hid (w.heap.size≤V):=Fk (by have:=cx.out;omega);have d3:¬H=V:=by omega
 have d1:¬V=H:=by omega
 have d0:Hid (H<V):=Fk (by omega);clear b1 b1' b2 k1 k2 z1 bc bm ch cg;have f0:y0.cell? ⟨V,0,none⟩=some .nilIface:=b5.out.cell 0;have hT:=vW s cu.out y0 (HE.out.quiet HK.out);rcases hL:uJ s with x|l
 ·have HX:Hid (R= .error x):=Fk (by rw[←HR.out,hL];rfl)
  rw[hL] at hT;have HT:=Fk hT;clear hT hL f0;go_wp2_with fail
  refine HT.out.mono ?_;rintro ev y1 ⟨⟨gi,rfl,hb⟩,O⟩;have J:=Fk (cq.out.keep O (by simp));have I:=Fk (b5.out.keep O (by simp));have be:=Fk (HK.out.trans O);have ce:=Fk hb;clear hb O HT;have f0:y1.cell? ⟨V,0,none⟩=some .nilIface:=I.out.cell 0;have ez:=I.out.frozen 0;have le:=I.out.lt;have r0:y1.cell? ⟨H,0,none⟩=some (FD none 0 0):=J.out.cell 0;have r1:y1.cell? ⟨H,1,none⟩=some (FD none 0 0):=J.out.cell 1;have r2:y1.cell? ⟨H,2,none⟩=some (FD none 0 0):=J.out.cell 2;have z0:=J.out.frozen 0;have z1:=J.out.frozen 1;have z2:=J.out.frozen 2;have lr:=J.out.lt;go_upto_region 4 with (fail)
  go_region
  go_wp2;refine leaves_cons (f:=41) (args:= #[FE (some ⟨H,0,none⟩),FE (some ⟨V,0,none⟩)]) (by simp) (by simp[go_sem]) ?_;refine (pE ⟨H,0,none⟩ ⟨V,0,none⟩ _).mono ?_;rintro e u' dt ⟨rfl,rfl,rfl⟩;have N:=pF (dx (k:=0) (u:= .iface 73 (FE (some ⟨gi,0,none⟩))) (ky (u:=FD none 0 0) (kv (u:=FD none 0 0) (lP (u:=FD none 0 0) (dx (k:=0) (u:= .iface 73 (FE (some ⟨gi,0,none⟩))) J.out U.out)))) U.out);have a2:=pF (se (u:= .iface 73 (FE (some ⟨gi,0,none⟩))) (dx (k:=2) (u:=FD none 0 0) (dx (k:=1) (u:=FD none 0 0) (dx (k:=0) (u:=FD none 0 0) (se (u:= .iface 73 (FE (some ⟨gi,0,none⟩))) I.out) U.out.symm) U.out.symm) U.out.symm));have q0:=N.cell 0;have q1:=N.cell 1;have q2:=N.cell 2;have q3:=a2.cell 0;refine iI (v:= .tuple #[.agg #[FD none 0 0,FD none 0 0,FD none 0 0],.iface 73 (FE (some ⟨gi,0,none⟩))]) (by simp[results,Tryz.results17,go_sem,q0,q1,q2,q3]) ?_;have g1:=ce.out.ty.ne J.out.ty (by decide);have g2:=ce.out.ty.ne I.out.ty (by decide);refine ⟨?_,((((((be.out.setCell (.inr a3.out) _).setCell (.inr ad.out) _).setCell (.inr ad.out) _).setCell (.inr ad.out) _).setCell (.inr a3.out) _).drew)⟩;rw[HX.out];exact ⟨gi,rfl,pF (dx (dx (dx (dx (dx ce.out g2) g1) g1) g1) g2)⟩
 rw[hL] at hT;obtain ⟨a5,c5,ds⟩:=rz cu.out hL;have cn:Hid (lL l=R):=Fk (by rw[←HR.out,hL];rfl);have HT:=Fk hT;have dq:=Fk a5;have cj:=Fk c5;have c8:Hid (l.length≤1000000):=Fk (by omega);have cD:=a5.pos;clear hT hL f0 HR a5 c5 ds;go_wp2_with fail
 refine HT.out.mono ?_;rintro ev y1 ⟨⟨A,c,rfl,b8⟩,O⟩;obtain ⟨b0,c7⟩:∃ g,A=some ⟨g,0,none⟩:=by
  obtain ⟨A',c',e,hx⟩:=aq b8;injection e with e1 e2 e3;subst e1;obtain ⟨g,h1,_⟩:=hx cD;exact ⟨g,h1⟩
 subst c7;have J:=Fk (cq.out.keep O (by simp));have I:=Fk (b5.out.keep O (by simp));have be:=Fk (HK.out.trans O);have c4:=Fk b8;clear b8 O HT;have f0:y1.cell? ⟨V,0,none⟩=some .nilIface:=I.out.cell 0;have ez:=I.out.frozen 0;have le:=I.out.lt;have bz:aa [V] y1 (y1.setCell ⟨V,0,none⟩ .nilIface):=(Fz _ _).setCell (.inl (by simp)) _;have ba:=Fk (J.out.keep bz (by simpa using U.out));have bb:=Fk (se (u:= .nilIface) I.out);have bk:=Fk (be.out.setCell (p:=⟨V,0,none⟩) (.inr a3.out) .nilIface);have a7:Hid ((y1.setCell ⟨V,0,none⟩ .nilIface).ownsRow y0.heap.size 114 3 (FD (some ⟨b0,0,none⟩) l.length c) l.length (ej l)):=Fk (cU c4.out bz (fun x hx=>by rw[List.mem_singleton.1 hx];exact ⟨_,I.out.ty,by decide⟩));clear bz;go_upto_region 5 with (fail)
 obtain ⟨y2,cm⟩:∃ x,y1.setCell ⟨V,0,none⟩ .nilIface=x:=⟨_,rfl⟩
 rw[cm] at ba bb bk a7 ⊢;clear cm f0 ez le J I be c4;go_upto_region 6 with (fail)
 have bj:=Eo a7.out dq.out cj.out;have a8:=(Fz [] y2).alloc (FG #[FD (some ⟨b0,0,none⟩) l.length c] 111);obtain ⟨y3,c6⟩:∃ x,y2.alloc (FG #[FD (some ⟨b0,0,none⟩) l.length c] 111)=x:=⟨_,rfl⟩
 rw[c6] at bj a8 ⊢;have b7:w.heap.size≤y2.heap.size:=bk.out.size;obtain ⟨b,hb⟩:∃ x,y2.heap.size=x:=⟨_,rfl⟩
 rw[hb] at bj b7 ⊢;have HP:=Fk bj;have a6:=Fk (ba.out.keep a8 (by simp));have a9:=Fk (bb.out.keep a8 (by simp));have bo:=Fk (bk.out.trans a8);have b3:=Fk b7;have dv:Hid (FB y3 w.heap.size):=Fk ⟨w,HE.out,bo.out,Fm _⟩;have cy:=HP.out.ty.ne a6.out.ty (by decide);have br:=HP.out.ty.ne a9.out.ty (by decide);have cr:Hid (H∉[b]):=Fk (by simpa using cy.symm);have c3:Hid (V∉[b]):=Fk (by simpa using br.symm);clear bj a8 c6 b7 hb ba bb bk a7 cy br;have hF:=Bw y3 dv.out b3.out HP.out c8.out;rcases a4:qj l with x|⟨f,r⟩
 ·have HX:Hid (R= .error x):=Fk (by rw[←cn.out];unfold lL;rw[a4];rfl)
  rw[a4] at hF;have HF:=Fk hF;clear hF a4;go_wp2_with fail
  refine HF.out.mono ?_;rintro ev y4 ⟨⟨gi,rfl,hb⟩,O⟩;have D:=Fk (a6.out.keep O cr.out);have aA:=Fk (a9.out.keep O c3.out);have bq:Hid (aa [] w y4):=Fk (bo.out.trans' O (fun x hx hl=>by have:=b3.out;rw[List.mem_singleton.1 hx] at hl;omega));have b6:=Fk hb;clear hb O;refine leaves_cons (f:=41) (args:= #[FE (some ⟨H,0,none⟩),FE (some ⟨V,0,none⟩)]) (by simp) (by simp[go_sem]) ?_;have g1:=b6.out.ty.ne D.out.ty (by decide);have g2:=b6.out.ty.ne aA.out.ty (by decide);refine (iM H V gi (FD none 0 0) (FD none 0 0) (FD none 0 0) [] y4 D.out aA.out U.out).mono ?_;rintro e u' w9 ⟨rfl,rfl,N,a2,O⟩;have q0:=N.cell 0;have q1:=N.cell 1;have q2:=N.cell 2;have q3:=a2.cell 0;refine iI (v:= .tuple #[.agg #[FD none 0 0,FD none 0 0,FD none 0 0],.iface 73 (FE (some ⟨gi,0,none⟩))]) (by simp[results,Tryz.results17,go_sem,q0,q1,q2,q3]) ?_;refine ⟨?_,(bq.out).trans' O (fun x hx hl=>by have:=a3.out;have:=ad.out;simp at hx;omega)⟩;rw[HX.out];exact ⟨gi,rfl,b6.out.keep O (by simp[g1,g2])⟩
 rw[a4] at hF;have cz:Hid ((if (aS r).kind≠5 then fK 3 r else .ok f)=R):=Fk (by rw[←cn.out];unfold lL;rw[a4];rfl);have HF:=Fk hF;clear hF a4;go_wp2_with fail
 refine HF.out.mono ?_;rintro ev y4 ⟨⟨v0,v1,v2,rfl,cd,bZ,b4,hp⟩,O⟩;obtain ⟨A0,c0,rfl⟩:∃ A c,v0=FD A f.ins.length c:=by obtain ⟨_,_,h,_⟩:=cd;obtain ⟨A,c,h,_⟩:=aq h;exact ⟨A,c,h⟩
 obtain ⟨A1,c1,rfl⟩:∃ A c,v1=FD A f.jobs.length c:=by obtain ⟨_,_,h,_⟩:=bZ;obtain ⟨A,c,h,_⟩:=aq h;exact ⟨A,c,h⟩
 obtain ⟨A2,c2,rfl⟩:∃ A c,v2=FD A f.outs.length c:=by obtain ⟨_,_,h,_⟩:=b4;obtain ⟨A,c,h,_⟩:=aq h;exact ⟨A,c,h⟩
 have D:=Fk (a6.out.keep O cr.out);have aA:=Fk (a9.out.keep O c3.out);have bq:Hid (aa [] w y4):=Fk (bo.out.trans' O (fun x hx hl=>by have:=b3.out;rw[List.mem_singleton.1 hx] at hl;omega));have c9:=Fk bo.out.size;have a1:aa [H] y4 (((y4.setCell ⟨H,0,none⟩ (FD A0 f.ins.length c0)).setCell ⟨H,1,none⟩ (FD A1 f.jobs.length c1)).setCell ⟨H,2,none⟩ (FD A2 f.outs.length c2)):=(((Fz _ _).setCell (.inl (by simp)) _).setCell (.inl (by simp)) _).setCell (.inl (by simp)) _;have av:dE [9,64,57,50,60,109] [H] y4 _:=⟨a1,fun z hz=>⟨29,by rw[List.mem_singleton.1 hz];exact D.out.ty,by decide⟩⟩;have cv:=Fk (cd.far av (by decide) (by decide));have ci:=Fk (bZ.far av (by decide) (by decide));have ct:=Fk (b4.far av (by decide));have b9:=Fk (hp.far a1 (fun z hz=>⟨29,by rw[List.mem_singleton.1 hz];exact D.out.ty,by decide,by decide⟩));have Z:=Fk (aA.out.keep a1 (by simpa using U.out.symm));have M:=Fk (ky (u:=FD A2 f.outs.length c2) (kv (u:=FD A1 f.jobs.length c1) (lP (u:=FD A0 f.ins.length c0) D.out)));have ca:Hid (aa [] w _):=Fk (((bq.out.setCell (p:=⟨H,0,none⟩) (.inr ad.out) (FD A0 f.ins.length c0)).setCell (p:=⟨H,1,none⟩) (.inr ad.out) (FD A1 f.jobs.length c1)).setCell (p:=⟨H,2,none⟩) (.inr ad.out) (FD A2 f.outs.length c2));have r0:y4.cell? ⟨H,0,none⟩=some (FD none 0 0):=D.out.cell 0;have r1:y4.cell? ⟨H,1,none⟩=some (FD none 0 0):=D.out.cell 1;have r2:y4.cell? ⟨H,2,none⟩=some (FD none 0 0):=D.out.cell 2;have z0:=D.out.frozen 0;have z1:=D.out.frozen 1;have z2:=D.out.frozen 2;have lr:=D.out.lt;clear cd bZ b4 hp O a1 av;go_upto_region 7 with (fail)
 obtain ⟨y5,co⟩:∃ x,((y4.setCell ⟨H,0,none⟩ (FD A0 f.ins.length c0)).setCell ⟨H,1,none⟩ (FD A1 f.jobs.length c1)).setCell ⟨H,2,none⟩ (FD A2 f.outs.length c2)=x:=⟨_,rfl⟩
 rw[co] at cv ci ct b9 Z M ca ⊢;clear co r0 r1 r2 z0 z1 z2 lr D aA bq;obtain ⟨g,o,c',c0',z0,lb,lg,-,hn,hc,dz,k0,k1,k2,-⟩:=b9.out.open';have d2:(0:Int)<(r.length:Int):=by omega
 by_cases h5:(aS r).kind=5
 ·have HX:Hid (R= .ok f):=Fk (by rw[←cz.out,if_neg (by rw[h5];decide)])
  rw[h5] at k0;have f0:y5.cell? ⟨V,0,none⟩=some .nilIface:=Z.out.cell 0;have ez:=Z.out.frozen 0;have le:=Z.out.lt;have r0:y5.cell? ⟨H,0,none⟩=some (FD A0 f.ins.length c0):=M.out.cell 0;have r1:y5.cell? ⟨H,1,none⟩=some (FD A1 f.jobs.length c1):=M.out.cell 1;have r2:y5.cell? ⟨H,2,none⟩=some (FD A2 f.outs.length c2):=M.out.cell 2;have z0':=M.out.frozen 0;have z1':=M.out.frozen 1;have z2':=M.out.frozen 2;have lr:=M.out.lt;clear h5;go_wp2;refine leaves_cons (f:=41) (args:= #[FE (some ⟨H,0,none⟩),FE (some ⟨V,0,none⟩)]) (by simp) (by simp[go_sem]) ?_;refine (pE ⟨H,0,none⟩ ⟨V,0,none⟩ _).mono ?_;rintro e u' dt ⟨rfl,rfl,rfl⟩;have a1:aa [H,V] y5 ((((y5.setCell ⟨H,0,none⟩ (FD A0 f.ins.length c0)).setCell ⟨H,1,none⟩ (FD A1 f.jobs.length c1)).setCell ⟨H,2,none⟩ (FD A2 f.outs.length c2)).setCell ⟨V,0,none⟩ .nilIface):=((((Fz _ _).setCell (.inl (by simp)) _).setCell (.inl (by simp)) _).setCell (.inl (by simp)) _).setCell (.inl (by simp)) _;have av:dE [9,64,57,50,60,109] [H,V] y5 _:=⟨a1,fun z hz=>by
   rcases List.mem_cons.1 hz with h|h
   ·exact ⟨29,by rw[h];exact M.out.ty,by decide⟩
   exact ⟨34,by rw[List.mem_singleton.1 h];exact Z.out.ty,by decide⟩⟩
  have N:=dx (b:=V) (k:=0) (u:= .nilIface) (ky (u:=(FD A2 f.outs.length c2)) (kv (u:=(FD A1 f.jobs.length c1)) (lP (u:=(FD A0 f.ins.length c0)) M.out))) U.out;have a2:=se (u:= .nilIface) (dx (b:=H) (k:=2) (u:=(FD A2 f.outs.length c2)) (dx (b:=H) (k:=1) (u:=(FD A1 f.jobs.length c1)) (dx (b:=H) (k:=0) (u:=(FD A0 f.ins.length c0)) Z.out U.out.symm) U.out.symm) U.out.symm);have q0:=N.cell 0;have q1:=N.cell 1;have q2:=N.cell 2;have q3:=a2.cell 0;refine iI (v:= .tuple #[.agg #[FD A0 f.ins.length c0,FD A1 f.jobs.length c1,FD A2 f.outs.length c2],.nilIface]) (by simp[results,Tryz.results17,go_sem,q0,q1,q2,q3]) ?_;refine ⟨?_,ca.out.trans' a1 (fun x hx hl=>by have:=a3.out;have:=ad.out;simp at hx;omega)⟩;rw[HX.out];have a0:w.heap.size≤y3.heap.size:=c9.out;exact ⟨_,_,_,rfl,cP.low a0 (jg.low a0) (cv.out.far av (by decide) (by decide)),cP.low a0 (jh.low a0) (ci.out.far av (by decide) (by decide)),cP.low a0 (fun _ _ h=>h) (ct.out.far av (by decide))⟩
 have e5:((aS r).kind != 5)=true:=by rw[bne_iff_ne];exact h5
 have HX:Hid (R= .error (3,(aS r).at_)):=Fk (by rw[←cz.out,if_pos h5];rfl);clear h5;go_wp2_with fail
 refine (bu 3 y5 b9.out).mono ?_;rintro ev y6 ⟨⟨gi,rfl,hb⟩,O⟩;have bv:=Fk (M.out.keep O (by simp));have bt:=Fk (Z.out.keep O (by simp));have dr:=Fk (ca.out.trans O);have bX:=Fk hb;clear hb O;refine leaves_cons (f:=41) (args:= #[FE (some ⟨H,0,none⟩),FE (some ⟨V,0,none⟩)]) (by simp) (by simp[go_sem]) ?_;have g1:=bX.out.ty.ne bv.out.ty (by decide);have g2:=bX.out.ty.ne bt.out.ty (by decide);refine (iM H V gi (FD A0 f.ins.length c0) (FD A1 f.jobs.length c1) (FD A2 f.outs.length c2) [] y6 bv.out bt.out U.out).mono ?_;rintro e u' w9 ⟨rfl,rfl,N,a2,O⟩;have q0:=N.cell 0;have q1:=N.cell 1;have q2:=N.cell 2;have q3:=a2.cell 0;refine iI (v:= .tuple #[.agg #[FD none 0 0,FD none 0 0,FD none 0 0],.iface 73 (FE (some ⟨gi,0,none⟩))]) (by simp[results,Tryz.results17,go_sem,q0,q1,q2,q3]) ?_;refine ⟨?_,(dr.out).trans' O (fun x hx hl=>by have:=a3.out;have:=ad.out;simp at hx;omega)⟩;rw[HX.out];exact ⟨gi,rfl,bX.out.keep O (by simp[g1,g2])⟩
end
section
open Go.RowKit Go.BigFrame
def EP:Except (Int×Int) Fl→Fl×Int×Int
 | .ok f=>(f,0,-1)
 | .error x=>(⟨[],[],[]⟩,x.1,x.2)
structure ij (W:World) (base:Nat) (v0 v1 v2:Value) (f:Fl):Prop where
 i0:mF W base v0 f.ins
 i1:ji W base v1 f.jobs
 i2:jj W base v2 f.outs
theorem dE.nil (S:List TypeId) {W W':World} (h:aa [] W W'):dE S [] W W':=⟨h,fun x D=>by cases D⟩
theorem ij.keep {W W':World} {base:Nat} {J I H:Value} {f:Fl} (h:ij W base J I H f) (D:aa [] W W'):ij W' base J I H f :=
 ⟨h.i0.far (dE.nil qq D) (by decide) (by decide),h.i1.far (dE.nil qq D) (by decide) (by decide),h.i2.far (dE.nil qq D) (by decide)⟩
theorem ij.forms {W:World} {base:Nat} {N O M:Value} {f:Fl} (h:ij W base N O M f):∃ H J A1 I D c2,N=FD H f.ins.length J∧O=FD A1 f.jobs.length I∧M=FD D f.outs.length c2:=by
 obtain ⟨⟨_,_,h0,_⟩,⟨_,_,Z,_⟩,⟨_,_,V,_⟩⟩:=h;obtain ⟨H,J,U,_⟩:=aq h0;obtain ⟨A1,I,e1,_⟩:=aq Z;obtain ⟨D,c2,e2,_⟩:=aq V;exact ⟨H,J,A1,I,D,c2,U,e1,e2⟩
theorem ij.nil (W:World) (base:Nat):ij W base (FD none 0 0) (FD none 0 0) (FD none 0 0) ⟨[],[],[]⟩:=⟨cP.nil,cP.nil,cP.nil⟩
def vX (W:World) (D:Value) (R:Except (Int×Int) Fl):Prop:=match R with
 | .ok _=>D= .nilIface
 | .error x=>∃ h,D= .iface 73 (FE (some ⟨h,0,none⟩))∧ao W h 75 #[FH FI x.1,FH FI x.2]
theorem vX.keep {W W':World} {D:Value} {R:Except (Int×Int) Fl} (h:vX W D R) (I:aa [] W W'):vX W' D R:=by
 cases R with
 | ok f=>exact h
 | error x=>obtain ⟨J,H,M⟩:=h;exact ⟨J,H,M.keep I (by simp)⟩
theorem vX.form {W:World} {H:Value} {R:Except (Int×Int) Fl} (h:vX W H R):H= .nilIface∨∃ D,H= .iface 73 (FE (some ⟨D,0,none⟩)):=by
 cases R with
 | ok f=>exact .inl h
 | error x=>obtain ⟨D,rfl,_⟩:=h;exact .inr ⟨D,rfl⟩
theorem qa {R:Except (Int×Int) Fl} {base:Nat} {e:Ending} {w':World} (h:jP R base e w') :
  ∃ J V N A1 O M D Z c2 U,e=FF (.tuple #[.agg #[FD J V N,FD A1 O M,FD D Z c2],U])∧ij w' base (FD J V N) (FD A1 O M) (FD D Z c2) (EP R).1∧vX w' U R:=by
 cases R with
 | ok f =>
  obtain ⟨v0,v1,v2,rfl,h0,I,H⟩:=h;have hf:ij w' base v0 v1 v2 f:=⟨h0,I,H⟩;obtain ⟨J,N,A1,M,D,c2,rfl,rfl,rfl⟩:=hf.forms;exact ⟨_,_,_,_,_,_,_,_,_,_,rfl,hf,rfl⟩
 | error x =>
  obtain ⟨gi,I,H⟩:=h;exact ⟨_,_,_,_,_,_,_,_,_,_,I,ij.nil _ _,gi,rfl,H⟩
theorem rB.nins {j:Jb} (h:rB j):j.ins.length≤2:=by
 rcases h.body with ⟨_,a,b,c,d,_,_,_,_,e,_⟩|⟨_,a,b,_,_,e,_⟩|⟨_,a,_,e,_⟩|⟨_,a,s,_,_,e,_⟩|⟨_,a,c,_,_,e,_⟩|⟨_,a,_,e,_⟩|⟨_,a,c,d,_,_,_,e,_⟩<;>rw[e]<;>simp
theorem rB.ncols {j:Jb} (h:rB j):j.cols.length≤1000:=by
 rcases h.body with ⟨_,a,b,c,d,_,_,_,_,_,e⟩|⟨_,a,b,_,_,_,e⟩|⟨_,a,_,_,e⟩|⟨_,a,s,_,_,_,e,_⟩|⟨_,a,c,_,_,_,e,_⟩|⟨_,a,_,_,e⟩|⟨_,a,c,d,_,_,_,_,e,_⟩
 ·rw[e];simp
 ·rw[e];simp
 ·rw[e];simp
 ·rw[e];simp
 ·rw[e];simp
 ·exact e.2.1
 rw[e];simp
theorem rB.insW {j:Jb} (h:rB j):∀ n∈j.ins,n.length≤1000:=by
 have J:∀ n∈j.ins,bI n:=by
  rcases h.body with ⟨_,a,b,c,d,D,I,_,_,e,_⟩|⟨_,a,b,D,I,e,_⟩|⟨_,a,D,e,_⟩|⟨_,a,s,D,_,e,_⟩|⟨_,a,c,D,_,e,_⟩|⟨_,a,D,e,_⟩|⟨_,a,c,d,D,_,_,e,_⟩<;>rw[e]<;>intro n H
  ·simp only[List.mem_cons,List.not_mem_nil,or_false] at H
   rcases H with rfl|rfl
   ·exact D
   exact I
  ·simp only[List.mem_cons,List.not_mem_nil,or_false] at H
   rcases H with rfl|rfl
   ·exact D
   exact I
  all_goals
   simp only[List.mem_cons,List.not_mem_nil,or_false] at H;rw[H];exact D
 exact fun n H=>Ft (J n H).len (by decide)
theorem kb:∀ (l:List Jb),(∀ x∈l,x.outs.length≤1000)→(l.flatMap (·.outs)).length≤l.length*1000
 | [],_=>by simp
 | x::l,h=>by
  have I:=h x (by simp);have H:=kb l fun y D=>h y (by simp[D])
  rw[List.flatMap_cons,Fo,Fv];omega
theorem wC.names {f:Fl} (h:wC f):∀ n∈aW f,bI n:=by
 intro n D;rcases List.mem_append.1 D with D|D
 ·obtain ⟨x,H,rfl⟩:=List.mem_map.1 D
  exact (h.ins x H).name
 obtain ⟨x,H,D⟩:=List.mem_flatMap.1 D;exact (h.jobs x H).outs.2.2 n D
theorem wC.short {f:Fl} (h:wC f):rF f where
 outs:=Ft h.nouts (by decide)
 all:=by
  have N:=kb f.jobs fun x D=>(h.jobs x D).outs.2.1
  have M:=h.nins;have J:=h.njobs;unfold aW;rw[Fo,List.length_map];omega
 names:=fun n H=>Ft (h.names n H).len (by decide)
 ins:=fun j I n H=>(h.jobs j I).insW n H
 told:=fun x D=>⟨Ft (h.outs x D).name.len (by decide),Ft (h.outs x D).src.len (by decide)⟩
theorem wC.colNames {f:Fl} (h:wC f):∀ x∈f.ins,∀ c∈x.cols,c.name.length≤1000000000:=fun x D c H=>Ft ((h.ins x D).cols c H).1.len (by decide)
theorem CS {W:World} {base:Nat} {N O I:Value} {f:Fl} (Z:mF W base N f.ins) (q1:ji W base O f.jobs) (q2:jj W base I f.outs) (H:wC f):lT W N O I f where
 i0:=by
  have h:f.ins.length≤4294967296:=Ft H.nins (by decide);refine iO.of Z jg.len h fun cs x D=>?_
  rintro ⟨v,e,ho⟩;obtain ⟨A,c,h1,h2,h3⟩:=fx ho;exact ⟨v,e,Ft (H.ins x D).len (by decide),A,c,h1,h2,h3⟩
 i1:=by
  have h:f.jobs.length≤4294967296:=Ft H.njobs (by decide);refine iO.of q1 jh.len h fun cs x D=>?_
  rintro ⟨I,v3,v4,e,J⟩;have M:=H.jobs x D;obtain ⟨A2,c2,a1,a2,a3⟩:=fx J.o2;obtain ⟨A3,U,b1,b2,b3⟩:=fx J.o3;obtain ⟨V,c4,d1,d2,d3⟩:=fx J.o4;exact ⟨I,v3,v4,e,⟨Ft M.outs.2.1 (by decide),A2,c2,a1,a2,a3⟩,⟨Ft M.nins (by decide),A3,U,b1,b2,b3⟩,⟨Ft M.ncols (by decide),V,c4,d1,d2,d3⟩⟩
 i2:=by
  have h:f.outs.length≤4294967296:=Ft H.nouts (by decide);exact iO.of q2 xM.len h fun cs x _ D=>D
theorem ij.flIn {W:World} {base:Nat} {I H D:Value} {f:Fl} (h:ij W base I H D f) (J:wC f):lT W I H D f:=CS h.i0 h.i1 h.i2 J
end
section
open Go.RowKit Go.BigFrame
attribute [local go_sem] ag ab ae af
theorem uj:(Tryz.prog.info? 50).map (fun i=>(i.zero,i.size,i.bytes))=some (some (.agg #[FH FI 0,FH FI 0,FD none 0 0,FD none 0 0,FD none 0 0,FC ⟨#[]⟩,FC ⟨#[]⟩,FH FI 0,FH FI 0,FC ⟨#[]⟩,FC ⟨#[]⟩,FH FI 0,FH FI 0,FC ⟨#[]⟩,FH FI 0]),15,208):=by kernel_rfl
def dT (W:World) (us:List (List Value)) (l:List Jb):Prop:=us.length=l.length∧∀ j (h:j<us.length) (h':j<l.length),lS W us[j] l[j]
theorem lS.len {W:World} {cs:List Value} {x:Jb} (h:lS W cs x):cs.length=15:=by obtain ⟨_,_,_,e,_⟩:=h;rw[e];rfl
theorem dT.keep {W W':World} {us:List (List Value)} {l:List Jb} (h:dT W us l) (H:aa [] W W'):dT W' us l:=⟨h.1,fun j D I=>(h.2 j D I).keep H⟩
theorem dT.lens {W:World} {us:List (List Value)} {l:List Jb} (h:dT W us l):∀ u∈us,u.length=15:=fun u H=>by
 obtain ⟨j,D,rfl⟩:=List.getElem_of_mem H;exact (h.2 j D (by have:=h.1;omega)).len
theorem fR {us:List (List Value)} (h:∀ u∈us,u.length=15):us.flatten.length=us.length*15:=by
 induction us with
 | nil=>rfl
 | cons u us ih =>
  rw[List.flatten_cons,Fo,h u (by simp),ih fun v D=>h v (List.mem_cons_of_mem _ D),Fv];omega
theorem dT.one {W:World} {us:List (List Value)} {l:List Jb} (h:dT W us l):∀ u∈us.flatten,u.oneCell'=true:=fun u D=>by
 obtain ⟨r,M,D⟩:=List.mem_flatten.1 D;obtain ⟨j,N,rfl⟩:=List.getElem_of_mem M;obtain ⟨O,V,U,e,H,I,J⟩:=h.2 j N (by have:=h.1;omega);obtain ⟨_,_,_,rfl,_⟩:=H;obtain ⟨_,_,_,rfl,_⟩:=I;obtain ⟨_,_,_,rfl,_⟩:=J;rw[e] at D;simp only[bY,List.mem_cons,List.not_mem_nil,or_false] at D;rcases D with rfl|rfl|rfl|rfl|rfl|rfl|rfl|rfl|rfl|rfl|rfl|rfl|rfl|rfl|rfl<;>rfl
theorem dT.append {W:World} {us H:List (List Value)} {l m:List Jb} (h:dT W us l) (k:dT W H m):dT W (us++H) (l++m):=by
 refine ⟨by rw[Fo,Fo,h.1,k.1],fun j J M=>?_⟩;by_cases D:j<us.length
 ·have hj':j<l.length:=by rw[←h.1];exact D
  rw[List.getElem_append_left D,List.getElem_append_left hj'];exact h.2 j D hj'
 rw[Fo] at J M;have I:j-us.length=j-l.length:=by rw[h.1]
 rw[List.getElem_append_right (by omega),List.getElem_append_right (by rw[←h.1];omega)];have:=k.2 (j-us.length) (by omega) (by rw[I];have:=h.1;omega);simpa[I] using this
theorem dT.take {W:World} {us:List (List Value)} {l:List Jb} (h:dT W us l) (n:Nat):dT W (us.take n) (l.take n) :=
 ⟨by rw[Fw,Fw,h.1],fun j D H=>by
  rw[List.getElem_take,List.getElem_take];exact h.2 j _ _⟩
theorem dT.drop {W:World} {us:List (List Value)} {l:List Jb} (h:dT W us l) (n:Nat):dT W (us.drop n) (l.drop n) :=
 ⟨by rw[List.length_drop,List.length_drop,h.1],fun j D H=>by
  rw[List.getElem_drop,List.getElem_drop];exact h.2 _ _ _⟩
theorem iO.rows {W:World} {v:Value} {l:List Jb} (h:iO lS 15 W v l):∃ A c us,v=FD A l.length c∧l.length≤c∧l.length≤4294967296∧dT W us l∧Rd W [] 15 A l.length us.flatten:=by
 obtain ⟨hn,A,c,rfl,hc,Z⟩:=h;have hx:∀ j,∃ cs:List Value,∀ (h:j<l.length),cs.length=15∧lS W cs l[j]∧∃ g,A=some ⟨g,0,none⟩∧g<W.heap.size∧∀ k u,cs[k]? = some u→W.cell? ⟨g,j*15+k,none⟩=some u:=fun j=>by
  by_cases I:j<l.length
  ·obtain ⟨g,cs,e,U,hl,hE,J⟩:=Z j I
   exact ⟨cs,fun _=>⟨hl,hE,g,e,U,J⟩⟩
  exact ⟨[],fun h=>absurd h I⟩
 obtain ⟨F,N⟩:=Classical.axiomOfChoice hx;have M:∀ j (h:j<((List.range l.length).map F).length),((List.range l.length).map F)[j]=F j:=fun j h=>by simp
 have D:((List.range l.length).map F).length=l.length:=by simp
 have H:∀ u∈(List.range l.length).map F,u.length=15:=fun u O=>by
  obtain ⟨j,I,rfl⟩:=List.mem_map.1 O;exact (N j (List.mem_range.1 I)).1
 refine ⟨A,c,(List.range l.length).map F,rfl,hc,hn,⟨D,fun j h1 h2=>by rw[M j h1];exact (N j h2).2.1⟩,by rw[fR H,D],fun h0=>?_⟩;obtain ⟨g,e,U,_⟩:=(N 0 h0).2.2;refine ⟨_,e,by simp,U,fun i u O=>?_⟩;have hi:i<((List.range l.length).map F).flatten.length:=(List.getElem?_eq_some_iff.1 O).1;rw[fR H,D] at hi;have I:i / 15<l.length:=by omega
 have hd:i=i / 15*15+i % 15:=by omega
 obtain ⟨g',e',_,V⟩:=(N (i / 15) I).2.2;rw[e] at e';cases e'
 rw[cI,Nat.zero_add,hd];refine V (i % 15) u ?_;rw[←M (i / 15) (by rw[D];exact I),←np H (i / 15) (by rw[D];exact I) (i % 15) (by omega),←hd];exact O
theorem dT.lsIn {W:World} {base:Nat} {v:Value} {us:List (List Value)} {l:List Jb} (h:dT W us l) (J:W.ownsRow base 50 15 v l.length us.flatten) (Z:l.length≤4294967296):iO lS 15 W v l:=by
 obtain ⟨A,c,rfl,V,_⟩:=fx J;obtain ⟨A',c',e,hx⟩:=aq J;injection e with e1 e2 e3;subst e1 e3;refine ⟨Z,_,_,rfl,V,fun j N=>?_⟩;obtain ⟨g,rfl,U,D⟩:=hx (by omega);have H:j<us.length:=by rw[h.1];exact N
 have I:=h.2 j H N;refine ⟨g,us[j],rfl,U,I.len,I,fun k u M=>D _ _ ?_⟩;have O:k<15:=by
  have:=(List.getElem?_eq_some_iff.1 M).1;rwa [I.len] at this
 rw[np h.lens j H k O];exact M
theorem zt {W:World} {A:Option Addr} {us:List (List Value)} {n m:Nat} (M:∀ u∈us,u.length=15) (h:Rd W [] 15 A n us.flatten) (V:us.length=n) (U:m≤n):Rd W [] 15 A m (us.take m).flatten:=by
 have hu':∀ u∈us.take m,u.length=15:=fun u h=>M u (List.mem_of_mem_take h)
 refine ⟨by rw[fR hu',Fw];congr 1;omega,fun Z=>?_⟩;obtain ⟨N,e,H,J,I⟩:=h.2 (by omega);refine ⟨N,e,H,J,fun j u D=>I j u ?_⟩;have O:us.flatten=(us.take m).flatten++(us.drop m).flatten:=by rw[←List.flatten_append,List.take_append_drop]
 rw[O,List.getElem?_append_left (List.getElem?_eq_some_iff.1 D).1];exact D
theorem zu {W:World} {b o:Nat} {A:Option Addr} {us:List (List Value)} {n m:Nat} (I:∀ u∈us,u.length=15) (h:Rd W [] 15 (some ⟨b,o,none⟩) n us.flatten) (hn:us.length=n) (Z:m≤n) (M:m<n→A=some ⟨b,o+m*15,none⟩):Rd W [] 15 A (n-m) (us.drop m).flatten:=by
 have hu':∀ u∈us.drop m,u.length=15:=fun u h=>I u (List.mem_of_mem_drop h)
 have H:∀ u∈us.take m,u.length=15:=fun u h=>I u (List.mem_of_mem_take h)
 refine ⟨by rw[fR hu',List.length_drop];congr 1;omega,fun h0=>?_⟩;obtain ⟨ad,e,J,O,N⟩:=h.2 (by omega);cases e
 refine ⟨_,M (by omega),J,O,fun j u V=>?_⟩;have U:us.flatten=(us.take m).flatten++(us.drop m).flatten:=by rw[←List.flatten_append,List.take_append_drop]
 have D:(us.take m).flatten.length=m*15:=by rw[fR H,Fw];congr 1;omega
 have:=N (m*15+j) u (by rw[U,List.getElem?_append_right (by omega),D,Nat.add_sub_cancel_left];exact V);rw[cI] at this ⊢;rw[Nat.add_assoc];exact this
theorem wi (n:Nat) (h1:1≤n) (h2:n≤4294967296) (ys:List Value) (N:∀ u∈ys,u.oneCell'=true) (A:Option Addr) (c:Nat) (w:World) (hA:Rd w [] 15 A n ys) :
  Calls Tryz.prog 11 #[FD A n c] w fun e w'=>(∃ v,e=FF v∧w'.ownsRow w.heap.size 50 15 v n ys)∧aa [] w w':=by
 obtain ⟨iv,O,H,I,D⟩:=info_parts uj;obtain ⟨b,o,rfl,_,hb,_⟩:=hA.open' (by omega) (by omega);have h:aa [] w (w.alloc (FG #[] 50)):=(Fz _ _).alloc _;have hz:=fD (w:=w) (e:=50) (cur:= #[]) (size:=15) (G:=0) rfl (by decide);obtain ⟨v',w',J,M,U⟩:=cX (P:=Tryz.prog) (w.alloc (FG #[] 50)) w.heap.size 26 26 50 iv _ 15 208 Tryz.underlying26 O H I D rfl (by decide) hz (hA.keep h) c N (by unfold maxLen;omega) (by omega) h.size;rw[Nat.zero_add,List.nil_append] at M;have V:=Fk J;have HO:=Fk M;have HK:=Fk (h.grown U (fun g Z=> .inr (by injection Z with Z;rw[←Z];exact Fm _)));have ad:=fun W=>Lib.run_eql_slice_nil (P:=Tryz.prog) W 26 50 (some ⟨b,o,none⟩) n c 0 0 Tryz.underlying26
 clear h hz J M U hA O H I D N;go_enter Tryz.func11,Tryz.ntmps11
 go_wp2_with (at_builtin;refine Lib.wpList_append_run _ rfl _ _ _ _ rfl _ _ rfl rfl _ _ V.out ?_)
 go_ret;exact ⟨⟨_,rfl,HO.out⟩,HK.out⟩
end
end Go.Proofs.YtecpeogejjibaaaGreatDoor
