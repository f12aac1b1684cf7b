/- Tokens and parsers in memory. The parser's must and name. The parser's names. The parser's names, walked. The parser's one: one of some marks. -/
import Derived.Test.YtpagiajlefejcaaGreatDoorProg
import Derived.Test.YtpagiajlefejcaaGreatDoorPfiM1
import Derived.Lib.IndexLaws
import Derived.Lib.ItoaLen
import Derived.LaidEql
import Derived.Stop.Asserts
import Derived.RowKitTokens
import Derived.Deep.CutBlock
import Derived.Lib.IndexBytes
set_option linter.unusedSimpArgs false
set_option linter.unusedVariables false
set_option maxRecDepth 100000
set_option maxHeartbeats 16000000
namespace Go.Proofs.YtpagiajlefejcaaGreatDoor
open Go.Lib renaming hid → zx
open Go.Proofs.Tryz renaming prog → zy
open _root_.Nat renaming le_refl → zz, le_trans → zA, zero_le → zE
open Go.World renaming block_lt_of_cell? → zB, news_of_block → zJ
open _root_.List renaming mem_singleton → zD, length_append → zF, length_cons → zG, getElem?_eq_getElem → zI, length_tail → zL, getD_eq_getElem?_getD → zM
open aa renaming refl → zN
open ap renaming new → zO
open Go.Value renaming string → zQ, slice → zR, pointer → zS, int → zW
open Go.Ending renaming returned → zT
open Go.Obj renaming cells → zU
open Go.IntKind renaming i64 → zX
section
open Go.RowKit Go.BigFrame
def nL (t:Tk):List Value:=[zW zX t.kind,zQ (bs t.text),zW zX t.at_]
def bY (l:List Tk):List Value:=l.flatMap nL
def fP (l:List Tk):Prop:=∃ h t,l=h++[t]∧t.kind=5
theorem fP.pos {l:List Tk} (h:fP l):0<l.length:=by
 obtain ⟨A,t,rfl,_⟩:=h;simp
theorem fP.tail {l:List Tk} (h:fP l) (D:(ax l).kind≠5):fP l.tail:=by
 obtain ⟨A,t,rfl,B⟩:=h
 cases A with
 | nil=>exact absurd B D
 | cons a A=>exact ⟨A,t,rfl,B⟩
theorem de {s:Bs} {l:List Tk} (h:aG s l=true):(ax l).kind≠5:=by
 unfold aG at h;intro e;rw[e] at h;simp at h
def cD (W:World) (g:Nat) (e:TypeId):Prop:=∃ cs h,W.heap[g]? = some (zU cs e h)
theorem cD.keep {W A:World} {g:Nat} {e:TypeId} {L:List Nat} (h:cD W g e) (D:aa L W A) (I:g∉L):cD A g e:=by
 obtain ⟨cs,B,h⟩:=h;exact ⟨cs,B,(D.block g (Array.getElem?_eq_some_iff.1 h).1 I).trans h⟩
theorem cD.ne {W:World} {g B:Nat} {e e':TypeId} (h:cD W g e) (h':cD W B e') (A:e≠e'):g≠B:=by
 rintro rfl;obtain ⟨cs,J,h⟩:=h;obtain ⟨cs',I,h'⟩:=h';rw[h] at h';injection h' with h';injection h' with _ D;exact A D
theorem ap.ty {W:World} {g:Nat} {e:TypeId} {cs:Array Value} (h:ap W g e cs):cD W g e:=⟨cs,_,h⟩
def uS (t:Tk):Prop:=t.text.length≤1000000∧(t.kind=2→∀ c∈t.text,dk c=true)∧(t.kind=3→2≤t.text.length)
def Ps (W:World) (b:Nat) (l:List Tk):Prop :=
 ∃ g o c,ap W b 190 #[zR (some ⟨g,o,none⟩) l.length c]∧(cD W g 193∧g<b)∧l.length≤c∧c≤9223372036854775807∧fP l∧(∀ t∈l,uS t) ∧
  ∀ j u,(bY l)[j]? = some u→W.cell? ⟨g,o+j,none⟩=some u
theorem Ps.endT {W:World} {b:Nat} {l:List Tk} (h:Ps W b l):fP l:=by obtain ⟨_,_,_,_,_,_,_,h,_⟩:=h;exact h
theorem Ps.ty {W:World} {b:Nat} {l:List Tk} (h:Ps W b l):cD W b 190:=by obtain ⟨_,_,_,h,_⟩:=h;exact h.ty
theorem Ps.lt {W:World} {b:Nat} {l:List Tk} (h:Ps W b l):b<W.heap.size:=by obtain ⟨_,_,_,h,_⟩:=h;exact h.lt
theorem Ps.far {W U:World} {b:Nat} {l:List Tk} {L:List Nat} (h:Ps W b l) (B:aa L W U) (M:∀ x∈L,∃ e,cD W x e∧e≠190∧e≠193):Ps U b l:=by
 obtain ⟨g,o,c,J,A,h3,Z,h5,h6,h7⟩:=h;have n1:b∉L:=fun D=>by
  obtain ⟨e,I,e1,e2⟩:=M b D;exact I.ne J.ty e1 rfl
 have O:g∉L:=fun D=>by
  obtain ⟨e,I,e1,e2⟩:=M g D;exact I.ne A.1 e2 rfl
 exact ⟨g,o,c,J.keep B n1,⟨A.1.keep B O,A.2⟩,h3,Z,h5,h6,fun j u hu=>B.cell_of (h7 j u hu) O⟩
theorem Ps.keep {W A:World} {b:Nat} {l:List Tk} (h:Ps W b l) (B:aa [] W A):Ps A b l:=h.far B (fun x D=>by cases D)
theorem Ps.open' {W:World} {b:Nat} {l:List Tk} (h:Ps W b l):∃ g o c,W.cell? ⟨b,0,none⟩=some (zR (some ⟨g,o,none⟩) l.length c)∧W.frozen? ⟨b,0,none⟩=false∧b<W.heap.size∧g<W.heap.size∧g≠b∧0<l.length∧l.length≤c∧c≤9223372036854775807 ∧
  W.cell? ⟨g,o,none⟩=some (zW zX (ax l).kind)∧W.cell? ⟨g,o+1,none⟩=some (zQ (bs (ax l).text))∧W.cell? ⟨g,o+2,none⟩=some (zW zX (ax l).at_)∧uS (ax l):=by
 obtain ⟨g,o,c,A,J,U,M,O,Z,B⟩:=h;have D:=O.pos
 cases l with
 | nil=>simp at D
 | cons t r =>
  have I:=B 0 (zW zX t.kind) rfl;exact ⟨g,o,c,A.cell 0,A.frozen 0,A.lt,zB _ _ I,Nat.ne_of_lt J.2,D,U,M,I,B 1 (zQ (bs t.text)) rfl,B 2 (zW zX t.at_) rfl,Z t (List.mem_cons_self ..)⟩
theorem Ps.step {W:World} {b g o c:Nat} {l:List Tk} (h:Ps W b l) (hc:W.cell? ⟨b,0,none⟩=some (zR (some ⟨g,o,none⟩) l.length c)) (hk:(ax l).kind≠5) {n:Nat} {a:Addr} {d:Nat} (hn:n=l.length-1) (ha:a=⟨g,o+3,none⟩) (hd:d=c-1):Ps (W.setCell ⟨b,0,none⟩ (zR (some a) n d)) b l.tail∧aa [b] W (W.setCell ⟨b,0,none⟩ (zR (some a) n d)):=by
 subst ha hn hd;obtain ⟨I,B,M,O,J,h3,h4,h5,h6,h7⟩:=h;have e:(Value.slice (some ⟨I,B,none⟩) l.length M)=zR (some ⟨g,o,none⟩) l.length c:=Option.some.inj ((O.cell 0).symm.trans hc);injection e with e1 e2 e3;injection e1 with e1;injection e1 with e1 e4;subst e1 e4 e3;have Z:=h5.tail hk;have D:I≠b:=Nat.ne_of_lt J.2;have A:aa [b] W (W.setCell ⟨b,0,none⟩ (zR (some ⟨I,B+3,none⟩) (l.length-1) (M-1))):=aa.setCell (zN _ _) (.inl (by simp)) _;refine ⟨⟨I,B+3,M-1,?_,⟨J.1.keep A (by simpa using D),J.2⟩,by rw[zL];omega,by omega,Z,fun t hm=>h6 t (List.mem_of_mem_tail hm),fun j u U=>?_⟩,A⟩
 ·exact (O.set 0 _).congr (by simp[zL])
 cases l with
 | nil=>cases U
 | cons t r =>
  have:=h7 (j+3) u (by simpa[bY,nL] using U);rw[show B+3+j=B+(j+3) by omega];exact A.cell_of this (by simpa using D)
def bV (x:Int×Int) (e:Ending) (w':World):Prop:=∃ h,e= .panicked [{ v:= .iface 183 (.agg #[.iface 136 (zS (some ⟨h,0,none⟩))]),recovered:=false }]∧ap w' h 137 #[zW zX x.1,zW zX x.2]
attribute [local go_sem] ag ab ae af
theorem iX (s:Bs) {l:List Tk} {b:Nat} (w:World) (h:Ps w b l) :
  Calls zy 153 #[zS (some ⟨b,0,none⟩),zQ (bs s)] w fun e w'=>e=zT (.bool (aG s l))∧w=w':=by
 obtain ⟨g,o,c,c0,-,lb,U,-,hn,hc,J,Z,O,k2,-⟩:=h.open';have M:(0:Int)<(l.length:Int):=by omega
 obtain ⟨B,D⟩:∃ B,aG s l=B:=⟨_,rfl⟩
 have A:=zx D;rw[D];unfold aG at A;clear h D;cases I:(ax l).kind != 5
 all_goals
  rw[I] at A;go_enter Tryz.func153,Tryz.ntmps153
  go_wp2;go_ret;exact ⟨by rw[←A.out];rfl,rfl⟩
theorem ey (s:Bs) {l:List Tk} {b:Nat} (w:World) (h:Ps w b l) :
  Calls zy 203 #[zS (some ⟨b,0,none⟩),zQ (bs s)] w fun e w'=>e=zT (.bool (aG s l))∧Ps w' b (if aG s l then l.tail else l)∧aa [b] w w':=by
 have D:=zx (iX s w h);obtain ⟨g,o,c,M,z0,lb,lg,-,hn,hc,O,k0,k1,k2,-⟩:=h.open';have U:(0:Int)<(l.length:Int):=by omega
 cases B:aG s l with
 | false =>
  rw[B] at D;have H:=zx h;clear h B;go_enter Tryz.func203,Tryz.ntmps203
  go_wp2_with fail
  refine D.out.mono ?_;rintro J I ⟨rfl,rfl⟩;go_wp2;go_ret;exact ⟨rfl,H.out,zN _ _⟩
 | true =>
  have A:=de B;have h2:1<l.length:=by have:=(h.endT.tail A).pos;rw[zL] at this;omega
  have Z:=zx (fun n a d=> @Ps.step w b g o c l h M A n a d);have h3:(1:Int)≤(l.length:Int):=by omega
  have h4:(1:Int)<(c:Int):=by omega
  rw[B] at D;clear h B A;go_enter Tryz.func203,Tryz.ntmps203
  go_wp2_with fail
  refine D.out.mono ?_;rintro J I ⟨rfl,rfl⟩;go_wp2;go_ret;exact ⟨rfl,Z.out _ _ _ (by omega) rfl (by omega)⟩
theorem bD (x:Int) {l:List Tk} {b:Nat} (w:World) (h:Ps w b l) :
  Calls zy 106 #[zS (some ⟨b,0,none⟩),zW zX x] w fun e w'=>bV (x,(ax l).at_) e w'∧aa [] w w':=by
 obtain ⟨g,o,c,c0,U,M,I,-,O,hc,A,J,D,Z,-⟩:=h.open';have B:(0:Int)<(l.length:Int):=by omega
 clear h;go_enter Tryz.func106,Tryz.ntmps106
 go_wp2;exact ⟨rfl,⟨_,rfl,zO _ _ _⟩,(zN _ _).alloc _⟩
end
section
open Go.RowKit Go.BigFrame
attribute [local go_sem] ag ab ae af
theorem kK {s:Bs} {l r:List Tk} (h:aq s l= .ok r):aG s l=true∧r=l.tail:=by
 unfold aq at h;split at h
 ·rename_i A
  exact ⟨A,(Except.ok.inj h).symm⟩
 cases h
theorem rD {s:Bs} {l:List Tk} {x:Int×Int} (h:aq s l= .error x):aG s l=false∧x=(3,(ax l).at_):=by
 unfold aq at h;split at h
 ·cases h
 rename_i A;exact ⟨by simpa using A,(Except.error.inj h).symm⟩
theorem aX {s:Bs} {l r:List Tk} {b:Nat} (B:aq s l= .ok r) (w:World) (h:Ps w b l) :
  Calls zy 156 #[zS (some ⟨b,0,none⟩),zQ (bs s)] w fun e w'=>e=zT (.tuple #[])∧Ps w' b r∧aa [b] w w':=by
 obtain ⟨D,rfl⟩:=kK B;have A:=ey s w h;rw[D,if_pos rfl] at A;have M:=zx A;clear h B D A;go_enter Tryz.func156,Tryz.ntmps156
 go_wp2_with fail
 refine M.out.mono ?_;rintro O U ⟨rfl,I,J⟩;go_wp2;go_end0
 exact ⟨rfl,I,J⟩
theorem cE {s:Bs} {l:List Tk} {b:Nat} {x:Int×Int} (J:aq s l= .error x) (w:World) (h:Ps w b l) :
  Calls zy 156 #[zS (some ⟨b,0,none⟩),zQ (bs s)] w fun e w'=>bV x e w'∧aa [b] w w':=by
 obtain ⟨D,rfl⟩:=rD J;have B:=ey s w h;rw[D,if_neg (by simp)] at B;have HT:=zx B;clear h J D B;go_enter Tryz.func156,Tryz.ntmps156
 go_wp2_with fail
 refine HT.out.mono ?_;rintro U M ⟨rfl,I,hk⟩;have HP:=zx I;clear I;go_wp2_with fail
 refine (bD 3 M HP.out).mono ?_;rintro U w2 ⟨⟨Z,rfl,O⟩,A⟩;exact ⟨rfl,⟨Z,rfl,O⟩,hk.trans A.of_nil⟩
theorem gN {l r:List Tk} {s:Bs} (h:aj l= .ok (s,r)):(ax l).kind=1∧(ax l).text.length≤10∧s=(ax l).text∧r=l.tail:=by
 unfold aj at h;split at h
 ·cases h
 rename_i B;split at h
 ·cases h
 rename_i I;injection h with h;injection h with D A;exact ⟨by simpa using B,by omega,D.symm,A.symm⟩
theorem rE {l:List Tk} {x:Int×Int} (h:aj l= .error x):((ax l).kind≠1∧x=(3,(ax l).at_))∨((ax l).kind=1∧10<(ax l).text.length∧x=(4,(ax l).at_)):=by
 unfold aj at h;split at h
 ·rename_i A
  exact .inl ⟨A,(Except.error.inj h).symm⟩
 rename_i A;split at h
 ·rename_i B
  exact .inr ⟨by simpa using A,B,(Except.error.inj h).symm⟩
 cases h
theorem Ps.more {W:World} {b:Nat} {l:List Tk} (h:Ps W b l) (A:(ax l).kind≠5):1<l.length:=by
 have:=(h.endT.tail A).pos;rw[zL] at this;omega
theorem bv {s:Bs} {l r:List Tk} {b:Nat} (I:aj l= .ok (s,r)) (w:World) (h:Ps w b l) :
  Calls zy 157 #[zS (some ⟨b,0,none⟩)] w fun e w'=>e=zT (zQ (bs s))∧Ps w' b r∧aa [b] w w':=by
 obtain ⟨D,h2,rfl,rfl⟩:=gN I;have A:(ax l).kind≠5:=by rw[D];decide
 have h3:=h.more A;have HP:=zx h;obtain ⟨g,o,c,M,z0,lb,lg,-,hn,hc,U,J,k1,k2,-⟩:=h.open';rw[D] at J;have Z:(0:Int)<(l.length:Int):=by omega
 have O:(1:Int)≤(l.length:Int):=by omega
 have h4:(1:Int)<(c:Int):=by omega
 have h5:¬(10:Int)<((ax l).text.length:Int):=by omega
 have HT:=zx (fun n a d=> @Ps.step w b g o c l h M A n a d);clear h I D A;go_enter Tryz.func157,Tryz.ntmps157
 go_wp2;go_ret;have B:=HT.out (l.length-1) ⟨g,o+3,none⟩ (c-1) rfl rfl rfl;exact ⟨rfl,B.1.keep ((zN _ _).alloc _),B.2.alloc _⟩
theorem bU {l:List Tk} {b:Nat} {x:Int×Int} (I:aj l= .error x) (w:World) (h:Ps w b l) :
  Calls zy 157 #[zS (some ⟨b,0,none⟩)] w fun e w'=>bV x e w'∧aa [b] w w':=by
 have M:=zx h;obtain ⟨g,o,c,c0,z0,lb,lg,-,hn,hc,ad,Z,k1,k2,hl⟩:=h.open';have aA:(0:Int)<(l.length:Int):=by omega
 rcases rE I with ⟨B,rfl⟩|⟨B,O,rfl⟩
 ·have h1':((ax l).kind != 1)=true:=by rw[bne_iff_ne];exact B
  clear h I B;go_enter Tryz.func157,Tryz.ntmps157
  go_wp2_with fail
  refine (bD 3 _ (M.out.keep ((zN _ _).alloc _))).mono ?_;rintro U w2 ⟨⟨J,rfl,D⟩,A⟩;exact ⟨rfl,⟨J,rfl,D⟩,(((zN _ _).alloc _).trans A).of_nil⟩
 rw[B] at Z;have h2':(10:Int)<((ax l).text.length:Int):=by omega
 clear h I B O;go_enter Tryz.func157,Tryz.ntmps157
 go_wp2_with fail
 refine (bD 4 _ (M.out.keep ((zN _ _).alloc _))).mono ?_;rintro U w2 ⟨⟨J,rfl,D⟩,A⟩;exact ⟨rfl,⟨J,rfl,D⟩,(((zN _ _).alloc _).trans A).of_nil⟩
theorem eF:(Tryz.prog.info? 9).map (fun i=>(i.zero,i.size,i.bytes))=some (some (zQ ⟨#[]⟩),1,16):=by kernel_rfl
def fw (b:Nat) (W:World):Nat:=match W.cell? ⟨b,0,none⟩ with
 | some (zR _ n _)=>n
 | _=>0
theorem Ps.left {W:World} {b:Nat} {l:List Tk} (h:Ps W b l):fw b W=l.length:=by
 obtain ⟨g,o,c,A,_⟩:=h;unfold fw;rw[A.cell 0];rfl
theorem fF {W M:World} {A b n size:Nat} {e:TypeId} {v:Value} {xs:List Value} {l:List Tk} (h:W.ownsRow A e size v n xs) (hp:Ps W b l) (U:aa [b] W M) (he:e≠190):M.ownsRow A e size v n xs:=by
 obtain ⟨g,o,c,I,_⟩:=hp;refine bh h U (fun J D hm=>?_);have hm':J=b:=by simpa using hm
 subst hm';rcases h.2 with ⟨rfl,_⟩|⟨Z,ad,aA,rfl,_,B,_⟩
 ·cases D
 have:Z=J:=by simpa[Value.ownBlock] using D
 subst this;unfold ap at I;rw[I] at B;injection B with B;injection B with _ O;exact he O.symm
theorem Ps.grown {W I:World} {b:Nat} {l:List Tk} {A:Option Nat} {e:TypeId} (h:Ps W b l) (B:W.grownBy I A) (M:∀ x,A=some x→cD W x e) (O:e≠190) (J:e≠193):Ps I b l :=
 h.far (L:=A.toList) (aa.grown (zN _ W) B (fun g B=> .inl (by rw[B];simp))) (fun x D=>⟨e,M x (by
  cases A with
  | none=>cases D
  | some y=>simp at D;rw[D]),O,J⟩)
theorem av {W:World} {A n size:Nat} {e:TypeId} {v:Value} {xs:List Value} (h:W.ownsRow A e size v n xs):∀ x,v.ownBlock=some x→cD W x e:=fun x B=>by
 rcases h.2 with ⟨rfl,_⟩|⟨I,M,D,rfl,_,J,_⟩
 ·cases B
 have:I=x:=by simpa[Value.ownBlock] using B
 subst this;exact ⟨_,_,J⟩
theorem bg {W:World} {B A n size:Nat} {e:TypeId} {v:Value} {xs:List Value} (h:W.ownsRow A e size v n xs) (U:B≤A):W.ownsRow B e size v n xs:=by
 refine ⟨h.1,?_⟩;rcases h.2 with J|⟨g,I,D,M,O,r⟩
 ·exact .inl J
 exact .inr ⟨g,I,D,M,zA U O,r⟩
def tp (R:Except (Int×Int) (List Bs×List Tk)) (b h:Nat) (e:Ending) (w':World):Prop:=match R with
 | .ok (ns,r)=>∃ v,e=zT v∧w'.ownsRow h 9 1 v ns.length (strs ns)∧Ps w' b r
 | .error x=>bV x e w'
theorem jw {l:List Tk} {b:Nat} (w:World) (h:Ps w b l) (a3:l.length≤1000000) :
  Calls zy 205 #[zS (some ⟨b,0,none⟩)] w fun e w'=>tp (bR l) b w.heap.size e w'∧aa [b] w w':=by
 obtain ⟨i0,hi,bn,b0,bB⟩:=info_parts eF;have HL:=zx a3;obtain ⟨R,hR⟩:∃ R,bR l=R:=⟨_,rfl⟩
 rw[hR];unfold bR at hR;rcases I:aj l with x|⟨s,r⟩
 ·rw[I] at hR
  have HR:Hid (R= .error x):=zx hR.symm;have H:=zx (bU I w h);clear hR I h a3;go_enter Tryz.func205,Tryz.ntmps205
  go_wp2_with fail
  refine H.out.mono ?_;rintro ev w2 ⟨⟨gi,rfl,hb⟩,M⟩;exact ⟨rfl,by rw[HR.out];exact ⟨gi,rfl,hb⟩,M⟩
 rw[I] at hR;have hR':bz r.length r [s]=R:=hR;have bb:r.length<l.length:=by
  obtain ⟨_,_,_,e⟩:=gN I;have:=h.endT.pos;rw[e,zL];omega
 have a8:=zx bb;have HR:=zx hR';have H:=zx (bv I w h);clear hR hR' I h a3 bb;go_enter Tryz.func205,Tryz.ntmps205
 go_wp2_with fail
 refine H.out.mono ?_;rintro ev w2 ⟨rfl,bd,M⟩;have a6:=zx (bd.keep ((zN _ _).alloc (zU #[zQ (bs s)] 9)));have bj:=zx (M.alloc (zU #[zQ (bs s)] 9));have a9:Hid ((w2.alloc (zU #[zQ (bs s)] 9)).ownsRow w.heap.size 9 1 (zR (some ⟨w2.heap.size,0,none⟩) 1 1) [s].length (strs [s])):=zx (gg (zO w2 9 #[zQ (bs s)]) M.size rfl (by decide));clear bd M;go_wp2_with fail
 go_loopw [3] (fun v wr=>∃ (A:List Bs) (q:List Tk) (n:Nat),Hid (bz n q A=R)∧q.length≤n∧A.length+q.length≤l.length∧Hid (Ps wr b q)∧Hid (wr.ownsRow w.heap.size 9 1 v A.length (strs A))∧Hid (aa [b] w wr)) (fun _ wr=>fw b wr)
 case atStart=>exact ⟨[s],r,r.length,HR,zz _,by have:=a8.out;simp;omega,a6,a9,bj⟩
 clear HR a8 a6 a9 bj;obtain ⟨A,q,n,HR,b5,b1,HP,HO,HK⟩:=hrel;have b6:=HP.out.endT.pos;have HM:=zx HP.out.left;have HT:=ey [44] wr HP.out
 cases hs:aG [44] q with
 | false =>
  rw[hs] at HT;have aA:=zx HT;have Z:Hid (R= .ok (A,q)):=zx (by
   rw[←HR.out];obtain ⟨m,rfl⟩:∃ m,n=m+1:=⟨n-1,by omega⟩
   unfold bz;rw[hs];rfl)
  clear HT hs;go_wp2_with fail
  refine aA.out.mono ?_;rintro ev w3 ⟨rfl,ad,J⟩;have a0:=zx (fF HO.out HP.out J (by decide));go_wp2;go_ret;exact ⟨by rw[Z.out];exact ⟨_,rfl,a0.out,ad⟩,HK.out.trans J⟩
 | true =>
  rw[hs,if_pos rfl] at HT;have aA:=zx HT;have b4:=HP.out.more (de hs);have HS:=zx hs;clear HT hs;go_wp2_with fail
  refine aA.out.mono ?_;rintro ev w3 ⟨rfl,ad,J⟩;have a0:=zx (fF HO.out HP.out J (by decide));have O:=zx ad;have a2:=zx (HK.out.trans J);clear ad J aA;rcases I:aj q.tail with x|⟨s',r'⟩
  ·have Z:Hid (R= .error x):=zx (by
    rw[←HR.out];obtain ⟨m,rfl⟩:∃ m,n=m+1:=⟨n-1,by omega⟩
    unfold bz;rw[if_pos HS.out,I];rfl)
   have H:=zx (bU I w3 O.out);clear I;go_wp2_with fail
   refine H.out.mono ?_;rintro ev w4 ⟨⟨gi,rfl,hb⟩,U⟩;exact ⟨rfl,by rw[Z.out];exact ⟨gi,rfl,hb⟩,a2.out.trans U⟩
  have hr':r'.length+2≤q.length:=by
   obtain ⟨_,_,_,e⟩:=gN I;have:=O.out.endT.pos;rw[e,zL,zL];rw[zL] at this;omega
  have Z:Hid (bz (n-1) r' (A++[s'])=R):=zx (by
   rw[←HR.out];obtain ⟨m,rfl⟩:∃ m,n=m+1:=⟨n-1,by omega⟩
   conv=>rhs;unfold bz
   rw[if_pos HS.out,I];rfl)
  have H:=zx (bv I w3 O.out);have a7:=zx (show A.length+1≤maxLen∧(A.length+1)*16≤140737488355328 by have:=HL.out;simp only[maxLen];omega);clear I;go_wp2_with fail
  refine H.out.mono ?_;rintro ev w4 ⟨rfl,a5,U⟩;have a1:=zx (fF a0.out O.out U (by decide));have bo:=zx (a5.keep ((zN _ _).alloc (zU #[zQ (bs s')] 9)));have bk:=zx (a2.out.trans U);have bA:=zx (show w.heap.size≤w4.heap.size+1 from Nat.le_succ_of_le bk.out.size);clear a5 U H a0 O a2;go_wp2_with (at_builtin;refine wpList_append_lies _ rfl _ _ 55 rfl _ 9 i0 _ 1 16 Tryz.underlying55 hi bn b0 bB rfl (by decide) _ A.length (strs A) rfl (a1.out.alloc _) ⟨w4.heap.size,0,none⟩ 1 1 [zQ (bs s')] rfl rfl (zJ (heap_alloc_new _ _)) (by simp[Value.oneCell']) (by decide) a7.out.1 a7.out.2 (by simp;exact bA.out) _ rfl ?_;intro gw b3 w8 D B ba bl)
  have bq:=zx ((bk.out.alloc _).grown B (fun g hg=> .inr (a1.out.lt g hg).1));have a4:=zx (bo.out.grown B (fun x hx=>(av a1.out x hx).keep ((zN [] _).alloc _) (by simp)) (by decide) (by decide));rw[←eP] at D;have bm:Hid (w8.ownsRow w.heap.size 9 1 _ (A++[s']).length (strs (A++[s']))):=zx (by rw[zF];exact D);clear D B ba bl;go_wp2;go_roundw
  case rel=>exact ⟨A++[s'],r',n-1,Z,by omega,by simp;omega,a4,bm,bq⟩
  case measure=>rw[a4.out.left,HM.out];omega
theorem kL {l:List Tk}:∀ {ms:List Bs} {k:Nat} (h:k<ms.length),(∀ j (B:j<k),aG (ms[j]'(by omega)) l=false)→aG ms[k] l=true→dm l ms=some k
 | [],_,h,_,_=>absurd h (by simp)
 | m::ms,0,_,_,h=>by unfold dm;exact if_pos h
 | m::ms,k+1,h,A,D=>by
  unfold dm;have I:=A 0 (by omega);rw[if_neg (by simpa using I),kL (ms:=ms) (k:=k) (by simpa using h) (fun j B=>A (j+1) (by omega)) (by simpa using D)];rfl
theorem kM {l:List Tk}:∀ {ms:List Bs},(∀ j (h:j<ms.length),aG (ms[j]'h) l=false)→dm l ms=none
 | [],_=>rfl
 | m::ms,A=>by
  unfold dm;have B:=A 0 (by simp);rw[if_neg (by simpa using B),kM (ms:=ms) (fun j h=>A (j+1) (by simpa using h))];rfl
def iY (l:List Tk) (ms:List Bs):Int:=match dm l ms with
 | some k=>(k:Int)
 | none=> -1
theorem oD {l:List Tk} {b:Nat} (ms:List Bs) (A:Option Addr) (c:Nat) (w:World) (h:Ps w b l) (hR:Rd w [] 1 A ms.length (strs ms)) (O:ms.length≤4294967296) :
  Calls zy 162 #[zR A ms.length c,.func (.func 153) #[zS (some ⟨b,0,none⟩)] #[]] w fun e w'=>e=zT (zW zX (iY l ms))∧w=w':=by
 have HR:=zx hR;have HP:=zx h;clear hR h;go_enter Tryz.func162,Tryz.ntmps162
 go_wp2;go_loop [8] (fun i=>∃ n:Nat,n≤ms.length∧i=zW zX n∧Hid (∀ j (D:j<n) (O:j<ms.length),aG ms[j] l=false)) (fun i=>ms.length-(intOf i).toNat)
 case atStart=>exact ⟨0,zE _,rfl,fun j D=>absurd D (by omega)⟩
 obtain ⟨n,hn,rfl,I⟩:=hrel;by_cases M:n<ms.length
 ·obtain ⟨g,o,rfl,_,hg,hc⟩:=HR.out.open' (by omega) (by omega)
  have d1:=hc n _ (b9 ms n M);have Z:=iX ms[n] w HP.out;generalize U:ms[n]=x at *;have HX:=zx U;have HH':=zx Z;clear Z hc U
  cases J:aG x l with
  | true =>
   have B:iY l ms=(n:Int):=by
    unfold iY;rw[kL M (fun j D=>I j D (by omega)) (by rw[HX.out];exact J)]
   rw[J] at HH';have HQ:=zx B;clear B J;go_wp2_with fail
   refine HH'.out.mono ?_;rintro e W2 ⟨rfl,rfl⟩;go_wp2;go_ret;exact ⟨by rw[HQ.out];rfl,rfl⟩
  | false =>
   have hno':Hid (∀ j (D:j<n+1) (O:j<ms.length),aG ms[j] l=false):=fun j D O=>by
    by_cases h:j<n
    ·exact I j h O
    obtain rfl:j=n:=by omega
    rw[HX.out];exact J
   rw[J] at HH';clear J;go_wp2_with fail
   refine HH'.out.mono ?_;rintro e W2 ⟨rfl,rfl⟩;go_wp2;go_round
   case rel=>exact ⟨n+1,by omega,by go_num,hno'⟩
   case measure=>simp[intOf];omega
 have B:Hid (iY l ms= -1):=by
  unfold iY;rw[kM (fun j D=>I j (by omega) D)];rfl
 go_wp2;go_ret;exact ⟨by rw[B.out];rfl,rfl⟩
theorem mO {l:List Tk}:∀ {ms:List Bs} {k:Nat},dm l ms=some k→∃ h:k<ms.length,aG ms[k] l=true
 | [],_,h=>by cases h
 | m::ms,k,h=>by
  unfold dm at h;split at h
  ·rename_i D
   injection h with h;subst h;exact ⟨by simp,D⟩
  obtain ⟨j,A,rfl⟩:=Option.map_eq_some_iff.1 h;obtain ⟨I,B⟩:=mO A;exact ⟨by simpa using I,by simpa using B⟩
theorem iZ {ms:List Bs} {l r:List Tk} {s:Bs} (h:bC ms l= .ok (s,r)):∃ k,dm l ms=some k∧∃ M:k<ms.length,s=ms[k]∧aG ms[k] l=true∧r=l.tail:=by
 unfold bC at h
 cases A:dm l ms with
 | none=>rw[A] at h;cases h
 | some k =>
  rw[A] at h;obtain ⟨B,D⟩:=mO A;injection h with h;injection h with J I;refine ⟨k,rfl,B,?_,D,I.symm⟩;rw[←J,zM,zI B];rfl
theorem ky {ms:List Bs} {l r:List Tk} {s:Bs} {b:Nat} (hm:bC ms l= .ok (s,r)) (A:Option Addr) (c:Nat) (w:World) (h:Ps w b l) (O:Rd w [b] 1 A ms.length (strs ms)) (hl:ms.length≤4294967296) :
  Calls zy 204 #[zS (some ⟨b,0,none⟩),zR A ms.length c] w fun e w'=>e=zT (zQ (bs s))∧Ps w' b r∧aa [b] w w':=by
 obtain ⟨k,Z,I,rfl,hs,rfl⟩:=iZ hm;have U:=oD ms A c w h (O.move (by simp)) hl;have e:iY l ms=(k:Int):=by unfold iY;rw[Z]
 rw[e] at U;have HM:=zx (aX (s:=ms[k]) (r:=l.tail) (by unfold aq;rw[if_pos hs]) w h);obtain ⟨g,o,rfl,D,hg,hc⟩:=O.open' (by omega) (by omega);have d1:=hc k _ (b9 ms k I);have J:=zx U;have ad:(k:Int)<(ms.length:Int):=by omega
 have M:g≠b:=by simpa using D
 generalize ms[k]=x at *;clear hm Z hs U e hc O h D;have aA:∀ (fn:Fn) (first B:Array Value) (w:World),(Instr.makeFunc fn first B).run zy w= .ok (.func fn first B) w:=fun _ _ _ _=>rfl
 go_enter Tryz.func204,Tryz.ntmps204
 go_wp2_with fail
 refine J.out.mono ?_;rintro ev w1 ⟨rfl,rfl⟩;go_wp2_with fail
 refine HM.out.mono ?_;rintro ev w2 ⟨rfl,hp,I⟩;have d2:=I.cell_of d1 (by simpa using M);have a0:=zB _ _ d2;go_wp2;go_ret;exact ⟨rfl,hp,I⟩
theorem tq {ms:List Bs} {l:List Tk} {x:Int×Int} (h:bC ms l= .error x):dm l ms=none∧x=(3,(ax l).at_):=by
 unfold bC at h
 cases A:dm l ms with
 | none =>
  rw[A] at h;exact ⟨rfl,(Except.error.inj h).symm⟩
 | some k=>rw[A] at h;cases h
theorem nM {ms:List Bs} {l:List Tk} {b:Nat} {x:Int×Int} (U:bC ms l= .error x) (A:Option Addr) (c:Nat) (w:World) (h:Ps w b l) (Z:Rd w [b] 1 A ms.length (strs ms)) (hl:ms.length≤4294967296) :
  Calls zy 204 #[zS (some ⟨b,0,none⟩),zR A ms.length c] w fun e w'=>bV x e w'∧aa [b] w w':=by
 obtain ⟨M,rfl⟩:=tq U;have J:=oD ms A c w h (Z.move (by simp)) hl;have e:iY l ms= -1:=by unfold iY;rw[M]
 rw[e] at J;have HF:=zx (bD 3 w h);have D:=zx J;clear U M J e Z h;have ad:∀ (O:Fn) (first B:Array Value) (w:World),(Instr.makeFunc O first B).run zy w= .ok (.func O first B) w:=fun _ _ _ _=>rfl
 go_enter Tryz.func204,Tryz.ntmps204
 go_wp2_with fail
 refine D.out.mono ?_;rintro ev w1 ⟨rfl,rfl⟩;go_wp2_with fail
 refine HF.out.mono ?_;rintro ev w2 ⟨⟨gi,rfl,hb⟩,I⟩;exact ⟨rfl,⟨gi,rfl,hb⟩,I.of_nil⟩
end
section
theorem kU (p:UInt8→Bool):∀ (s:Bs),eu p s≤s.length
 | []=>zz _
 | c::s=>by
  unfold eu;split
  ·simpa using kU p s
  exact zE _
theorem jz (p:UInt8→Bool):∀ (s:Bs),∀ c∈s.take (eu p s),p c=true
 | [],c,h=>by simp[eu] at h
 | d::s,c,h=>by
  unfold eu at h;by_cases hd:p d
  ·rw[if_pos hd,List.take_succ_cons] at h
   rcases List.mem_cons.1 h with rfl|h
   ·exact hd
   exact jz p s c h
  rw[if_neg hd] at h;simp at h
theorem nT {s m:Bs} (h:Lib.hasPrefix s m=true):m.length≤s.length:=by
 unfold Lib.hasPrefix at h;exact (List.isPrefixOf_iff_prefix.1 h).length_le
theorem oJ (s:Bs):∀ ms:List Bs,bE s ms≤s.length
 | []=>zE _
 | m::ms=>by
  unfold bE;split
  ·rename_i h;exact nT h
  exact oJ s ms
theorem kV (c:UInt8) (t:Bs):(aR (c::t)).2≤(c::t).length:=by
 unfold aR;split
 ·exact kU _ _
 split
 ·exact kU _ _
 split
 ·show (if Lib.indexByte t 39<0 then 0 else (Lib.indexByte t 39).toNat+2)≤(c::t).length
  split
  ·exact zE _
  rename_i h;have A:=(Lib.indexByte_some (l:=t) (c:=39) (o:=(Lib.indexByte t 39).toNat) (by omega)).1;have:=(List.getElem?_eq_some_iff.1 A).1;simp only[zG];omega
 exact oJ _ _
theorem xt (c:UInt8) (t:Bs) (i:Int) (D:(c::t).length≤1000000) (B:(aR (c::t)).2≠0):uS ⟨(aR (c::t)).1,(c::t).take (aR (c::t)).2,i⟩:=by
 have A:=kV c t;refine ⟨?_,?_,?_⟩
 ·show (List.take _ _).length≤_
  rw[List.length_take];omega
 ·intro h d hd
  revert h hd
  dsimp only
  unfold aR;split
  ·intro h;cases h
  split
  ·intro _ hd;exact jz _ _ d hd
  split
  ·intro h;cases h
  intro h;cases h
 intro h;show 2≤(List.take _ _).length;rw[List.length_take];revert h B A
 dsimp only
 unfold aR;split
 ·intro _ _ h;cases h
 split
 ·intro _ _ h;cases h
 split
 ·dsimp only
  split
  ·intro h;exact absurd rfl h
  intro _ _ _;omega
 intro _ _ h;cases h
theorem tv:∀ (f:Nat) (s:Bs) (i:Nat) (A l:List Tk),s.length≤1000000→A.length≤400→(∀ t∈A,uS t)→cQ f s i A= .ok l→fP l∧(∀ t∈l,uS t)∧l.length≤401:=by
 have B:∀ (A:List Tk) (i:Nat) (l:List Tk),A.length≤400→(∀ t∈A,uS t)→(Except.ok (A++[⟨5,[],(i:Int)⟩]):Except (Int×Int) (List Tk))= .ok l→fP l∧(∀ t∈l,uS t)∧l.length≤401:=by
  intro A i l J D h;injection h with h;subst h;refine ⟨⟨A,_,rfl,rfl⟩,?_,by simp;omega⟩;intro t I;rcases List.mem_append.1 I with I|I
  ·exact D t I
  rw[zD.1 I];exact ⟨by simp,(fun h=>by cases h),(fun h=>by cases h)⟩
 intro f
 induction f with
 | zero=>intro s i A l _ J D h;exact B A i l J D h
 | succ f ih =>
  intro s i A l O J D h
  cases s with
  | nil=>exact B A i l J D h
  | cons c t =>
   unfold cQ at h;split at h
   ·exact ih t (i+1) A l (by simp at O;omega) J D h
   split at h
   ·cases h
   split at h
   ·cases h
   rename_i Z U h3;refine ih _ _ _ l ?_ ?_ ?_ h
   ·rw[List.length_drop];omega
   ·rw[zF];simp;omega
   intro u M;rcases List.mem_append.1 M with M|M
   ·exact D u M
   rw[zD.1 M];exact xt c t i O U
theorem i7 {s:Bs} {l:List Tk} (B:s.length≤1000000) (h:kn s= .ok l):fP l∧(∀ t∈l,uS t)∧l.length≤401 :=
 tv _ _ _ _ _ B (by simp) (fun t A=>by cases A) h
structure bP (s:Bs):Prop where
 ne:s≠[]
 len:s.length≤10
 head:dW (s.headD 0)=true
 all:∀ c∈s,iF c=true
def nU (l:List Bs):Prop:=l≠[]∧l.length≤1000∧∀ s∈l,bP s
def oK (a:Ar):Prop:=(bP a.col∧a.val=zV)∨(a.col=[]∧mf a.val=true)
def rJ (a:Ar):Prop:=a=⟨[],zV⟩∨oK a
def wI (j:Jb):Prop :=
 (j.code=7∧∃ a b c d,bP a∧bP b∧bP c∧bP d∧j.ins=[a,b]∧j.cols=[c,d])
 ∨ (j.code=5∧∃ a b,bP a∧bP b∧j.ins=[a,b]∧j.cols=[])
 ∨ (j.code=6∧∃ a,bP a∧j.ins=[a]∧j.cols=[])
 ∨ ((j.code=1∨j.code=9)∧∃ a s,bP a∧bP s∧j.ins=[a]∧j.cols=[]∧j.left=⟨s,zV⟩∧j.op∈fN∧oK j.right)
 ∨ (j.code=2∧∃ a c,bP a∧bP c∧j.ins=[a]∧j.cols=[c]∧oK j.left∧j.op∈[[43],[45],[42]]∧oK j.right)
 ∨ ((j.code=3∨j.code=4)∧∃ a,bP a∧j.ins=[a]∧nU j.cols)
 ∨ (j.code=8∧∃ a c d,bP a∧bP c∧bP d∧j.ins=[a]∧j.cols=[c,d]∧j.op∈[[115,117,109],[109,97,120]])
structure nV (j:Jb):Prop where
 outs:nU j.outs
 lo:0≤j.retry
 hi:j.retry≤5
 left:rJ j.left
 right:rJ j.right
 op:j.op.length≤10
 body:wI j
structure yY (x:In):Prop where
 name:bP x.name
 ne:x.cols≠[]
 len:x.cols.length≤1000
 cols:∀ c∈x.cols,bP c.name∧(c.kind=1∨c.kind=2)
structure xu (x:Pb):Prop where
 name:bP x.name
 src:bP x.src
structure pS (f:Fl):Prop where
 nins:f.ins.length≤16
 njobs:f.jobs.length≤16
 nouts:f.outs.length≤16
 ins:∀ x∈f.ins,yY x
 jobs:∀ x∈f.jobs,nV x
 outs:∀ x∈f.outs,xu x
theorem uX {v:Vl} (h:mf v=true) : -1000000000≤v.num∧v.num≤1000000000∧v.word.length≤16:=by
 unfold mf at h;split at h
 ·simp at h
  refine ⟨by omega,by omega,?_⟩;rw[h.1.1];simp
 split at h
 ·simp at h
  exact ⟨by omega,by omega,by omega⟩
 cases h
theorem World.heap_size_alloc' (w:World) (o:Obj):(w.alloc o).heap.size=w.heap.size+1:=Array.size_push _
open Go.RowKit Go.Extern.Stop Go.Stop Go.Extern
abbrev jB (t:Nat):Value:=zS (some ⟨14,t,none⟩)
theorem jX (t:Addr) (w:World):(ReflectliteValue.unpack (.iface 237 (zS (some t)))).run zy w
  = .ok (.agg #[zS (some ⟨14,237,none⟩),zS (some ⟨w.heap.size,0,none⟩),.int .u64 150]) (w.alloc (zU #[zS (some t)] 237)):=by kernel_rfl
theorem oV (a:Addr) (w:World):(ReflectliteValue.methodAny (ReflectliteValue.valueError "reflectlite.Value.Type" 0) (fun t _ _ _=>ReflectliteType.toType t) #[.agg #[zS (some ⟨14,237,none⟩),zS (some a),.int .u64 150]]).run zy w
  = .ok (.iface 307 (.agg #[zS (some ⟨14,237,none⟩)])) w:=by kernel_rfl
theorem iC (h:Value) (w:World):(Go.method 471 307 (.agg #[h]) "Kind").run zy w= .ok (283,h) w:=by kernel_rfl
theorem oW (w:World):((ReflectliteType.abiMethod fun t=>(fun a:Nat=>Value.int IntKind.u8 (a:Int)) <$> Rtype.kind t) #[zS (some ⟨14,237,none⟩)]).run zy w= .ok (.int .u8 22) w:=by kernel_rfl
theorem oX (w:World):((ReflectliteType.abiMethod fun t=>(fun a:Nat=>Value.int IntKind.u8 (a:Int)) <$> Rtype.kind t) #[zS (some ⟨14,34,none⟩)]).run zy w= .ok (.int .u8 2) w:=by kernel_rfl
theorem zo (z:Sem Value) (f:TypeId→Addr→Nat→Nat→Sem Value) (v:Value) :
  ReflectliteValue.method z f #[v]=(do match ← ReflectliteValue.parts v with|none=>z|some (t,a,fl)=>f t a fl (fl % 32)):=rfl
theorem ng (a:Addr) (w:World):(ReflectliteValue.parts (.agg #[zS (some ⟨14,237,none⟩),zS (some a),.int .u64 150])).run zy w= .ok (some (237,a,150)) w:=by kernel_rfl
theorem nh (a p:Addr) (W:World) (h:W.cell? a=some (zS (some p))) :
  (ReflectliteValue.method (ReflectliteValue.valueError "reflectlite.Value.IsNil" 0) ReflectliteValue.isNil #[.agg #[zS (some ⟨14,237,none⟩),zS (some a),.int .u64 150]]).run zy W= .ok (.bool false) W:=by
 rw[zo];simp only[Sem.run_bind,ng,Result.andThen];simp[ReflectliteValue.isNil,loadVar,isAgg,underlying,Tryz.underlying237,h,Result.andThen]
theorem iD (h:Value) (w:World):(Go.method 471 307 (.agg #[h]) "Elem").run zy w= .ok (299,.agg #[h]) w:=by kernel_rfl
theorem eJ (h:Value) (w:World):(Go.method 471 307 (.agg #[h]) "Implements").run zy w= .ok (300,.agg #[h]) w:=by kernel_rfl
theorem ee (h:Value) (w:World):(Go.method 471 307 (.agg #[h]) "AssignableTo").run zy w= .ok (297,.agg #[h]) w:=by kernel_rfl
theorem oY (w:World):(ReflectliteType.method ReflectliteType.elem #[.agg #[zS (some ⟨14,237,none⟩)]]).run zy w= .ok (.iface 307 (.agg #[zS (some ⟨14,34,none⟩)])) w:=by kernel_rfl
theorem gW (w:World):(ReflectliteType.relation "Implements" ReflectliteType.implements_ #[.agg #[zS (some ⟨14,34,none⟩)],.iface 307 (.agg #[zS (some ⟨14,38,none⟩)])]).run zy w= .ok (.bool true) w:=by kernel_rfl
theorem ly (v:Value) (w:World):(ReflectliteType.typeOf #[.iface 34 v]).run zy w= .ok (.iface 307 (.agg #[zS (some ⟨14,34,none⟩)])) w:=by kernel_rfl
theorem gX (w:World):(ReflectliteType.relation "AssignableTo" ReflectliteType.assignableTo #[.agg #[zS (some ⟨14,34,none⟩)],.iface 307 (.agg #[zS (some ⟨14,34,none⟩)])]).run zy w= .ok (.bool true) w:=by kernel_rfl
theorem jY (e:Int) (w:World):(ReflectliteValue.unpack (.iface 34 (zW zX e))).run zy w
  = .ok (.agg #[zS (some ⟨14,34,none⟩),zS (some ⟨w.heap.size,0,none⟩),.int .u64 130]) (w.alloc (zU #[zW zX e] 34)):=by kernel_rfl
theorem qg (w:World):(Rtype.elem? 237).run zy w= .ok (some 34) w:=by kernel_rfl
theorem xH (p:Addr) (w:World):(ReflectliteValue.mk 34 p ReflectliteValue.flagAddr).run zy w= .ok (.agg #[zS (some ⟨14,34,none⟩),zS (some p),.int .u64 386]) w:=by kernel_rfl
theorem nj (a p:Addr) (W:World) (h:W.cell? a=some (zS (some p))) :
  (ReflectliteValue.method (ReflectliteValue.valueError "reflectlite.Value.Elem" 0) ReflectliteValue.elem #[.agg #[zS (some ⟨14,237,none⟩),zS (some a),.int .u64 150]]).run zy W
   = .ok (.agg #[zS (some ⟨14,34,none⟩),zS (some p),.int .u64 386]) W:=by
 rw[zo];simp only[Sem.run_bind,ng,Result.andThen];simp[ReflectliteValue.elem,loadVar,isAgg,underlying,Tryz.underlying237,h,Result.andThen,qg,xH]
theorem zv (v x:Value):ReflectliteValue.set #[v,x]=(do
  let (some (dst,a,fl),some (src,b,_)):=(← ReflectliteValue.parts v,←ReflectliteValue.parts x)
   | unsupported (.noEntry "extern/(internal/reflectlite.Value).Set.zeroValue")
  if fl / ReflectliteValue.flagAddr % 2==0 then unsupported (.noEntry "extern/(internal/reflectlite.Value).Set.unaddressable")
  let h ← loadVar src b
  if ← Rtype.directlyAssignable dst src then storeVar dst a h
  else if ← Rtype.implements dst src then
   if (← Rtype.kind src)==20 then
    match h with
    | .nilIface=>unsupported (.noEntry "extern/reflectlite: a nil value of one interface type handed on as a value of another")
    | _=>storeVar dst a h
   else storeVar dst a (.iface src h)
  else panicString ("reflectlite.Set: value of type " ++ (← Rtype.spelt src) ++ " is not assignable to type " ++ (← Rtype.spelt dst))
  pure (.tuple #[])):=rfl
theorem qh (a:Addr) (w:World):(ReflectliteValue.parts (.agg #[zS (some ⟨14,34,none⟩),zS (some a),.int .u64 386])).run zy w= .ok (some (34,a,386)) w:=by kernel_rfl
theorem rY (a:Addr) (w:World):(ReflectliteValue.parts (.agg #[zS (some ⟨14,34,none⟩),zS (some a),.int .u64 130])).run zy w= .ok (some (34,a,130)) w:=by kernel_rfl
theorem qi (w:World):(Rtype.directlyAssignable 34 34).run zy w= .ok true w:=by kernel_rfl
theorem ra (h b:Addr) (e:Int) (A:Value) (W:World) (I:W.cell? b=some (zW zX e)) (D:W.cell? h=some A) (B:W.frozen? h=false) :
  (ReflectliteValue.set #[.agg #[zS (some ⟨14,34,none⟩),zS (some h),.int .u64 386],.agg #[zS (some ⟨14,34,none⟩),zS (some b),.int .u64 130]]).run zy W
   = .ok (.tuple #[]) (W.setCell h (zW zX e)):=by
 rw[zv];simp only[Sem.run_bind,qh,rY,Result.andThen];simp[ReflectliteValue.flagAddr,loadVar,isAgg,underlying,Tryz.underlying34,I,Result.andThen,qi,storeVar,Value.cells,storeCells,Addr.add];rw[run_store zy W h _ _ (by rfl)];simp[D,B]
def gY (w:World):Prop:=w.cell? ⟨4,0,none⟩=some (.iface 307 (.agg #[zS (some ⟨14,38,none⟩)]))
theorem gY.keep {L:List Nat} {w w':World} (h:gY w) (A:aa L w w') (B:4∉L):gY w':=A.cell_of (p:=⟨4,0,none⟩) h B
theorem xI (e:Int) (t:Addr) (h:Value) (w:World) (J:w.cell? ⟨4,0,none⟩=some (.iface 307 (.agg #[zS (some ⟨14,38,none⟩)]))) (B:w.cell? t=some h) (I:w.frozen? t=false) :
  Calls zy 160 #[.iface 34 (zW zX e),.iface 237 (zS (some t))] w fun U w'=>U=zT (.bool true)∧((((w.alloc (zU #[zS (some t)] 237)).alloc (zU #[jB 237,zS (some ⟨w.heap.size,0,none⟩),.int .u64 150] 263)).alloc (zU #[jB 237,zS (some ⟨w.heap.size,0,none⟩),.int .u64 150] 263)).alloc (zU #[zW zX e] 34)).setCell t (zW zX e)=w':=by
 have h6:= @run_callFunc_extern zy 186 _ (fun args=>ReflectliteValue.unpack (args.getD 0 (.tuple #[]))) Tryz.func186 (by kernel_rfl) (by kernel_rfl) (by kernel_rfl) (by kernel_rfl);have h7:= @run_callFunc_extern zy 207 _ (ReflectliteValue.methodAny (ReflectliteValue.valueError "reflectlite.Value.Type" 0) (fun t _ _ _=>ReflectliteType.toType t)) Tryz.func207 (by kernel_rfl) (by kernel_rfl) (by kernel_rfl) (by kernel_rfl);have h8:= @run_callFunc_extern zy 208 _ (ReflectliteValue.method (ReflectliteValue.valueError "reflectlite.Value.IsNil" 0) ReflectliteValue.isNil) Tryz.func208 (by kernel_rfl) (by kernel_rfl) (by kernel_rfl) (by kernel_rfl);have aA:= @run_callFunc_extern zy 283 _ (ReflectliteType.abiMethod fun t=>do pure (.int .u8 (← Rtype.kind t))) Tryz.func283 (by kernel_rfl) (by kernel_rfl) (by kernel_rfl) (by kernel_rfl);have a3:= @run_callFunc_extern zy 299 _ (ReflectliteType.method ReflectliteType.elem) Tryz.func299 (by kernel_rfl) (by kernel_rfl) (by kernel_rfl) (by kernel_rfl);have a6:= @run_callFunc_extern zy 300 _ (ReflectliteType.relation "Implements" ReflectliteType.implements_) Tryz.func300 (by kernel_rfl) (by kernel_rfl) (by kernel_rfl) (by kernel_rfl);have Z:= @run_callFunc_extern zy 245 _ ReflectliteType.typeOf Tryz.func245 (by kernel_rfl) (by kernel_rfl) (by kernel_rfl) (by kernel_rfl);have M:= @run_callFunc_extern zy 297 _ (ReflectliteType.relation "AssignableTo" ReflectliteType.assignableTo) Tryz.func297 (by kernel_rfl) (by kernel_rfl) (by kernel_rfl) (by kernel_rfl);have a1:= @run_callFunc_extern zy 246 _ (ReflectliteValue.method (ReflectliteValue.valueError "reflectlite.Value.Elem" 0) ReflectliteValue.elem) Tryz.func246 (by kernel_rfl) (by kernel_rfl) (by kernel_rfl) (by kernel_rfl);have ad:= @run_callFunc_extern zy 247 _ ReflectliteValue.set Tryz.func247 (by kernel_rfl) (by kernel_rfl) (by kernel_rfl) (by kernel_rfl);have tO:=ly;have mA:=ee;have a7:=gX;have a0:=jY;have f6:=jX;have f7:=oV;have mK:=iC;have mE:=iD;have mI:=eJ;have a5:=oW;have zq:=oX
 have a4:=oY;have O:=gW;have n8:=nh ⟨w.heap.size,0,none⟩ t ((w.alloc (zU #[zS (some t)] 237)).alloc (zU #[jB 237,zS (some ⟨w.heap.size,0,none⟩),.int .u64 150] 263)) (by simp);have D:4<w.heap.size:=zB w ⟨4,0,none⟩ J;have a2:((w.alloc (zU #[zS (some t)] 237)).alloc (zU #[jB 237,zS (some ⟨w.heap.size,0,none⟩),.int .u64 150] 263)).cell? ⟨4,0,none⟩=some (.iface 307 (.agg #[zS (some ⟨14,38,none⟩)])):=by
  rw[World.cell?_alloc_lt _ _ ⟨4,0,none⟩ (show 4<_ by rw[World.heap_size_alloc'];omega),World.cell?_alloc_lt _ _ ⟨4,0,none⟩ D];exact J
 have A:t.block<w.heap.size:=zB w t B;have el:=nj ⟨w.heap.size,0,none⟩ t (((w.alloc (zU #[zS (some t)] 237)).alloc (zU #[jB 237,zS (some ⟨w.heap.size,0,none⟩),.int .u64 150] 263)).alloc (zU #[jB 237,zS (some ⟨w.heap.size,0,none⟩),.int .u64 150] 263)) (by rw[World.cell?_alloc_lt _ _ ⟨w.heap.size,0,none⟩ (by simp;omega)];simp);have st:=ra t ⟨w.heap.size+1+1+1,0,none⟩ e h ((((w.alloc (zU #[zS (some t)] 237)).alloc (zU #[jB 237,zS (some ⟨w.heap.size,0,none⟩),.int .u64 150] 263)).alloc (zU #[jB 237,zS (some ⟨w.heap.size,0,none⟩),.int .u64 150] 263)).alloc (zU #[zW zX e] 34))
  (by rw[World.cell?_alloc_at _ _ _ _ (by simp)];rfl)
  (by rw[World.cell?_alloc_lt _ _ t (by simp;omega),World.cell?_alloc_lt _ _ t (by simp;omega),World.cell?_alloc_lt _ _ t (by simp;omega),World.cell?_alloc_lt _ _ t A];exact B)
  (by rw[World.frozen?_alloc_old _ _ t (by simp;omega),World.frozen?_alloc_old _ _ t (by simp;omega),World.frozen?_alloc_old _ _ t (by simp;omega),World.frozen?_alloc_old _ _ t (Nat.ne_of_lt A)];exact I)
 go_enter Tryz.func160,Tryz.ntmps160
 go_wp2;refine wp_loop_rounds 1 ?_;rw[rounds_succ];go_wp2;go_ret;exact ⟨rfl,rfl⟩
end
section
open Go.RowKit Go.Extern.Stop Go.Stop Go.Extern
theorem qj (v:Value) (w:World):(ReflectliteType.typeOf #[.iface 136 v]).run zy w= .ok (.iface 307 (.agg #[zS (some ⟨14,136,none⟩)])) w:=by kernel_rfl
theorem lz (w:World):(ReflectliteType.relation "AssignableTo" ReflectliteType.assignableTo #[.agg #[zS (some ⟨14,136,none⟩)],.iface 307 (.agg #[zS (some ⟨14,34,none⟩)])]).run zy w= .ok (.bool false) w:=by kernel_rfl
theorem xJ (v:Value) (w:World):(Instr.typeAssert (.iface 136 v) 38 318 true).run zy w= .ok (.tuple #[.nilIface,.bool false]) w:=run_typeAssert_lacksB Tryz.underlying318 (by kernel_rfl) (by kernel_rfl) v _ w
theorem xK (v:Value) (w:World):(Instr.typeAssert (.iface 136 v) 38 215 true).run zy w= .ok (.tuple #[.iface 136 v,.bool true]) w:=run_typeAssert_hasB Tryz.underlying215 (by kernel_rfl) v _ w
theorem oZ (a:Addr) (w:World):(Go.method 471 136 (zS (some a)) "Unwrap").run zy w= .ok (289,zS (some a)) w:=by kernel_rfl
theorem xL (a:Addr) (w:World):(Instr.typeAssert (.iface 136 (zS (some a))) 38 136 true).run zy w= .ok (.tuple #[zS (some a),.bool true]) w:=by kernel_rfl
theorem rZ (g:Nat) (e:Int) (w:World) (h:w.cell? ⟨g,0,none⟩=some (zW zX e)):Calls zy 289 #[zS (some ⟨g,0,none⟩)] w fun A w'=>A=zT (.iface 34 (zW zX e))∧w=w':=by
 have B:=zB _ _ h;go_enter Tryz.func289,Tryz.ntmps289
 go_wp2;go_ret;exact ⟨rfl,rfl⟩
theorem yz (g:Nat) (e:Int) (t:Addr) (h:Value) (w:World) (U:w.cell? ⟨4,0,none⟩=some (.iface 307 (.agg #[zS (some ⟨14,38,none⟩)]))) (D:w.cell? ⟨g,0,none⟩=some (zW zX e)) (I:w.cell? t=some h) (M:w.frozen? t=false) :
  Calls zy 160 #[.iface 136 (zS (some ⟨g,0,none⟩)),.iface 237 (zS (some t))] w fun Z w'=>Z=zT (.bool true)∧((((w.alloc (zU #[zS (some t)] 237)).alloc (zU #[jB 237,zS (some ⟨w.heap.size,0,none⟩),.int .u64 150] 263)).alloc (zU #[jB 237,zS (some ⟨w.heap.size,0,none⟩),.int .u64 150] 263)).alloc (zU #[zW zX e] 34)).setCell t (zW zX e)=w':=by
 have h6:= @run_callFunc_extern zy 186 _ (fun args=>ReflectliteValue.unpack (args.getD 0 (.tuple #[]))) Tryz.func186 (by kernel_rfl) (by kernel_rfl) (by kernel_rfl) (by kernel_rfl);have h7:= @run_callFunc_extern zy 207 _ (ReflectliteValue.methodAny (ReflectliteValue.valueError "reflectlite.Value.Type" 0) (fun t _ _ _=>ReflectliteType.toType t)) Tryz.func207 (by kernel_rfl) (by kernel_rfl) (by kernel_rfl) (by kernel_rfl);have h8:= @run_callFunc_extern zy 208 _ (ReflectliteValue.method (ReflectliteValue.valueError "reflectlite.Value.IsNil" 0) ReflectliteValue.isNil) Tryz.func208 (by kernel_rfl) (by kernel_rfl) (by kernel_rfl) (by kernel_rfl);have a3:= @run_callFunc_extern zy 283 _ (ReflectliteType.abiMethod fun t=>do pure (.int .u8 (← Rtype.kind t))) Tryz.func283 (by kernel_rfl) (by kernel_rfl) (by kernel_rfl) (by kernel_rfl);have a7:= @run_callFunc_extern zy 299 _ (ReflectliteType.method ReflectliteType.elem) Tryz.func299 (by kernel_rfl) (by kernel_rfl) (by kernel_rfl) (by kernel_rfl);have ba:= @run_callFunc_extern zy 300 _ (ReflectliteType.relation "Implements" ReflectliteType.implements_) Tryz.func300 (by kernel_rfl) (by kernel_rfl) (by kernel_rfl) (by kernel_rfl);have a1:= @run_callFunc_extern zy 245 _ ReflectliteType.typeOf Tryz.func245 (by kernel_rfl) (by kernel_rfl) (by kernel_rfl) (by kernel_rfl);have ad:= @run_callFunc_extern zy 297 _ (ReflectliteType.relation "AssignableTo" ReflectliteType.assignableTo) Tryz.func297 (by kernel_rfl) (by kernel_rfl) (by kernel_rfl) (by kernel_rfl);have a5:= @run_callFunc_extern zy 246 _ (ReflectliteValue.method (ReflectliteValue.valueError "reflectlite.Value.Elem" 0) ReflectliteValue.elem) Tryz.func246 (by kernel_rfl) (by kernel_rfl) (by kernel_rfl) (by kernel_rfl);have a2:= @run_callFunc_extern zy 247 _ ReflectliteValue.set Tryz.func247 (by kernel_rfl) (by kernel_rfl) (by kernel_rfl) (by kernel_rfl);have tO:=ly;have mA:=ee;have bb:=gX;have a4:=jY;have f6:=jX;have f7:=oV;have mK:=iC;have mE:=iD;have mI:=eJ;have a9:=oW;have zq:=oX
 have a8:=oY;have a0:=gW;have n8:=nh ⟨w.heap.size,0,none⟩ t ((w.alloc (zU #[zS (some t)] 237)).alloc (zU #[jB 237,zS (some ⟨w.heap.size,0,none⟩),.int .u64 150] 263)) (by simp);have J:4<w.heap.size:=zB w ⟨4,0,none⟩ U;have a6:((w.alloc (zU #[zS (some t)] 237)).alloc (zU #[jB 237,zS (some ⟨w.heap.size,0,none⟩),.int .u64 150] 263)).cell? ⟨4,0,none⟩=some (.iface 307 (.agg #[zS (some ⟨14,38,none⟩)])):=by
  rw[World.cell?_alloc_lt _ _ ⟨4,0,none⟩ (show 4<_ by rw[World.heap_size_alloc'];omega),World.cell?_alloc_lt _ _ ⟨4,0,none⟩ J];exact U
 have A:t.block<w.heap.size:=zB w t I;have el:=nj ⟨w.heap.size,0,none⟩ t (((w.alloc (zU #[zS (some t)] 237)).alloc (zU #[jB 237,zS (some ⟨w.heap.size,0,none⟩),.int .u64 150] 263)).alloc (zU #[jB 237,zS (some ⟨w.heap.size,0,none⟩),.int .u64 150] 263)) (by rw[World.cell?_alloc_lt _ _ ⟨w.heap.size,0,none⟩ (by simp;omega)];simp);have st:=ra t ⟨w.heap.size+1+1+1,0,none⟩ e h ((((w.alloc (zU #[zS (some t)] 237)).alloc (zU #[jB 237,zS (some ⟨w.heap.size,0,none⟩),.int .u64 150] 263)).alloc (zU #[jB 237,zS (some ⟨w.heap.size,0,none⟩),.int .u64 150] 263)).alloc (zU #[zW zX e] 34))
  (by rw[World.cell?_alloc_at _ _ _ _ (by simp)];rfl)
  (by rw[World.cell?_alloc_lt _ _ t (by simp;omega),World.cell?_alloc_lt _ _ t (by simp;omega),World.cell?_alloc_lt _ _ t (by simp;omega),World.cell?_alloc_lt _ _ t A];exact I)
  (by rw[World.frozen?_alloc_old _ _ t (by simp;omega),World.frozen?_alloc_old _ _ t (by simp;omega),World.frozen?_alloc_old _ _ t (by simp;omega),World.frozen?_alloc_old _ _ t (Nat.ne_of_lt A)];exact M)
 have tA:=qj;have aA:=lz;have sA:=xJ;have uA:=xK;have mU:=oZ ⟨g,0,none⟩;have O:g<w.heap.size:=zB w ⟨g,0,none⟩ D;have B:(((w.alloc (zU #[zS (some t)] 237)).alloc (zU #[jB 237,zS (some ⟨w.heap.size,0,none⟩),.int .u64 150] 263)).alloc (zU #[jB 237,zS (some ⟨w.heap.size,0,none⟩),.int .u64 150] 263)).cell? ⟨g,0,none⟩=some (zW zX e):=by
  rw[World.cell?_alloc_lt _ _ ⟨g,0,none⟩ (show g<_ by rw[World.heap_size_alloc',World.heap_size_alloc'];omega),World.cell?_alloc_lt _ _ ⟨g,0,none⟩ (show g<_ by rw[World.heap_size_alloc'];omega),World.cell?_alloc_lt _ _ ⟨g,0,none⟩ O];exact D
 go_enter Tryz.func160,Tryz.ntmps160
 go_wp2;refine wp_loop_rounds 2 ?_;rw[rounds_succ];go_wp2_with fail
 refine (rZ g e _ B).mono ?_;rintro Z W2 ⟨rfl,rfl⟩;go_wp2;rw[rounds_succ];go_wp2;go_ret;exact ⟨rfl,rfl⟩
end
section
open Go.RowKit Go.BigFrame
theorem tF (w:World):Calls zy 108 #[.nilIface] w fun h w'=>h=zT (zW zX 0)∧aa [] w w':=by
 go_enter Tryz.func108,Tryz.ntmps108
 go_wp2;go_ret;exact ⟨rfl,zN _ _⟩
theorem vd (g:Nat) (e p:Int) (w:World) (h:gY w) (D:ap w g 137 #[zW zX e,zW zX p]) :
  Calls zy 108 #[.iface 136 (zS (some ⟨g,0,none⟩))] w fun B w'=>B=zT (zW zX e)∧aa [] w w':=by
 have A:w.cell? ⟨g,0,none⟩=some (zW zX e):=D.cell 0;have hE':∀ o,(w.alloc o).cell? ⟨4,0,none⟩=some (.iface 307 (.agg #[zS (some ⟨14,38,none⟩)])):=fun o=>(World.cell?_alloc_lt w o ⟨4,0,none⟩ (zB w ⟨4,0,none⟩ h)).trans h
 have hC':∀ o,(w.alloc o).cell? ⟨g,0,none⟩=some (zW zX e):=fun o=>(World.cell?_alloc_lt w o ⟨g,0,none⟩ (zB w ⟨g,0,none⟩ A)).trans A
 have I:=zx hE';have J:=zx hC';clear h hE' D A hC';go_enter Tryz.func108,Tryz.ntmps108
 go_wp2_with (go_at_call 160;refine (yz g e _ (zW zX 0) _ (I.out _) (J.out _) (by simp) (by simp)).mono ?_;rintro B w' ⟨rfl,rfl⟩)
 go_ret;refine ⟨by simp,?_⟩;repeat first|exact zN _ _|refine aa.alloc ?_ _|refine aa.setCell ?_ (.inr (zz _)) _
theorem qk (e:Int) (w:World) (h:gY w) :
  Calls zy 108 #[.iface 34 (zW zX e)] w fun A w'=>A=zT (zW zX e)∧aa [] w w':=by
 have hE':∀ o,(w.alloc o).cell? ⟨4,0,none⟩=some (.iface 307 (.agg #[zS (some ⟨14,38,none⟩)])):=fun o=>(World.cell?_alloc_lt w o ⟨4,0,none⟩ (zB w ⟨4,0,none⟩ h)).trans h
 have B:=zx hE';clear h hE';go_enter Tryz.func108,Tryz.ntmps108
 go_wp2_with (go_at_call 160;refine (xI _ _ (zW zX 0) _ (B.out _) (by simp) (by simp)).mono ?_;rintro A w' ⟨rfl,rfl⟩)
 go_ret;refine ⟨by simp,?_⟩;repeat first|exact zN _ _|refine aa.alloc ?_ _|refine aa.setCell ?_ (.inr (zz _)) _
end
section
abbrev Kt:=Int×Bs
abbrev Pc:=Kt×Bs
def kt (t:Tk):Kt:=(t.kind,t.text)
theorem iM (c:UInt8) (t:Bs):aR (c::t)=if dW c then (1,eu iF (c::t)) else if dk c then (2,eu dk (c::t)) else if c=39 then (3,if Lib.indexByte t 39<0 then 0 else (Lib.indexByte t 39).toNat+2) else (4,bE (c::t) an):=rfl
theorem iN (f:Nat) (c:UInt8) (t:Bs) (i:Nat) (h:List Tk):cQ (f+1) (c::t) i h=if c=32∨c=10 then cQ f t (i+1) h
  else if (aR (c::t)).2=0 then .error (3,(i:Int))
  else if h.length=400 then .error (4,(i:Int))
  else cQ f ((c::t).drop (aR (c::t)).2) (i+(aR (c::t)).2) (h++[⟨(aR (c::t)).1,(c::t).take (aR (c::t)).2,(i:Int)⟩]):=rfl
def pf (v:Vl) (e:Bs):List Pc :=
 if v.kind=1 then (if v.num<0 then [((4,[45]),[]),((2,Lib.itoa (-v.num)),e)] else [((2,Lib.itoa v.num),e)])
 else [((3,39::(v.word++[39])),e)]
def fW (a:Ar) (e:Bs):List Pc:=if a.col=[] then pf a.val e else [((1,a.col),e)]
def eN:List Bs→Bs→List Pc
 | [],_=>[]
 | [a],e=>[((1,a),e)]
 | a::b::l,e=>((1,a),[])::((4,[44]),[32])::eN (b::l) e
def lG:List Cl→List Pc
 | []=>[]
 | [c]=>[((1,c.name),[32]),((1,qR c.kind.toNat),[])]
 | c::d::l=>((1,c.name),[32])::((1,qR c.kind.toNat),[])::((4,[44]),[32])::lG (d::l)
def xQ (x:In):List Pc:=((1,[105,110]),[32])::((1,x.name),[])::((4,[58]),[32])::(lG x.cols++[((4,[59]),[10])])
def tU (x:Pb):List Pc:=[((1,[111,117,116]),[32]),((1,x.name),[32]),((4,[61]),[32]),((1,x.src),[]),((4,[59]),[10])]
def tV (j:Jb):List Pc :=
 if j.code=7 then [((1,gI 7),[32]),((1,j.ins.getD 0 []),[]),((4,[46]),[]),((1,j.cols.getD 0 []),[]),((4,[44]),[32]),((1,j.ins.getD 1 []),[]),((4,[46]),[]),((1,j.cols.getD 1 []),[])]
 else if j.code=5 then [((1,gI 5),[32]),((1,j.ins.getD 0 []),[]),((4,[44]),[32]),((1,j.ins.getD 1 []),[])]
 else if j.code=6 then [((1,gI 6),[32]),((1,j.ins.getD 0 []),[])]
 else if j.code=2 then ((1,gI 2),[32])::((1,j.ins.getD 0 []),[])::((4,[58]),[32])::((1,j.cols.getD 0 []),[32])::((4,[61]),[32])::(fW j.left [32]++((4,j.op),[32])::fW j.right [])
 else ((1,gI j.code.toNat),[32])::((1,j.ins.getD 0 []),[32]) ::
  (if j.code=1∨j.code=9 then ((1,[119,104,101,114,101]),[32])::((1,j.left.col),[32])::((4,j.op),[32])::fW j.right []
  else if j.code=8 then [((1,[98,121]),[32]),((1,j.cols.getD 0 []),[32]),((1,j.op),[32]),((1,j.cols.getD 1 []),[])]
  else ((1,[98,121]),[32])::eN j.cols [])
def oj (n:Int):List Pc:=if 0<n then [((1,[114,101,116,114,121]),[32]),((2,Lib.itoa n),[32])] else []
def ri (j:Jb):List Pc:=((1,[106,111,98]),[32])::(eN j.outs [32]++(oj j.retry++((4,[61]),[32])::(tV j++[((4,[59]),[10])])))
def xR (f:Fl):List Pc:=f.ins.flatMap xQ++f.jobs.flatMap ri++f.outs.flatMap tU
def sy (d:Nat) (S:Bs) (ms:List Bs):Bool:=ms.any fun m=>decide (m.length=d)&&Lib.hasPrefix S m
def dz (d:Nat) (S:Bs) (ms:List Bs):Nat:=if sy d S ms then d else 0
theorem nz {d:Nat} {S:Bs} {ms:List Bs} {r:Nat} (h:r<ms.length):sy d S (ms.take (r+1))=(sy d S (ms.take r)||(decide (ms[r].length=d)&&Lib.hasPrefix S ms[r])):=by
 unfold sy;rw[List.take_succ_eq_append_getElem h,List.any_append];simp
theorem up {d:Nat} {S:Bs} {ms:List Bs} {r:Nat} (A:r<ms.length) (B:ms[r].length=d) (h:Lib.hasPrefix S ms[r]=true):dz d S (ms.take (r+1))=d:=by
 unfold dz;rw[nz A,h,decide_eq_true B];simp
theorem vK {d:Nat} {S:Bs} {ms:List Bs} {r:Nat} (B:r<ms.length) (h:ms[r].length=d→Lib.hasPrefix S ms[r]=false):dz d S (ms.take (r+1))=dz d S (ms.take r):=by
 unfold dz;rw[nz B];by_cases A:ms[r].length=d
 ·rw[h A]
  simp
 rw[decide_eq_false A];simp
theorem vL (d:Nat) (S:Bs) (ms:List Bs):dz d S ms≤d:=by
 unfold dz;split<;>omega
theorem jM (d:Nat) (S:Bs) (rest:List Bs):∀ ms:List Bs,(∀ m∈ms,m.length=d)→bE S (ms++rest)=if ms.any (Lib.hasPrefix S) then d else bE S rest
 | [],_=>rfl
 | m::ms,h=>by
  have ih:=jM d S rest ms (fun x A=>h x (List.mem_cons_of_mem _ A));show (if Lib.hasPrefix S m then m.length else bE S (ms++rest))=_;rw[List.any_cons,ih]
  cases Lib.hasPrefix S m with
  | true =>
   rw[Bool.true_or,if_pos rfl,if_pos rfl];exact h m (List.mem_cons_self ..)
  | false =>
   rw[Bool.false_or];exact if_neg (by decide)
theorem j7 (d:Nat) (S:Bs) (ms:List Bs):sy d S ms=(ms.filter fun m=>decide (m.length=d)).any (Lib.hasPrefix S):=by
 unfold sy;rw[List.any_filter]
theorem vM (d:Nat) (S:Bs) (ms:List Bs):dz d S ms=0∨dz d S ms=d:=by
 unfold dz;split
 ·exact .inr rfl
 exact .inl rfl
theorem uq (S:Bs):bE S an=if dz 2 S an≠0 then 2 else dz 1 S an:=by
 unfold dz;have e2:(an.filter fun m=>decide (m.length=2))=an.take 3:=by decide
 have e1:(an.filter fun m=>decide (m.length=1))=an.drop 3:=by decide
 rw[j7,j7,e2,e1];have h:=jM 2 S (an.drop 3) (an.take 3) (by decide);have A:=jM 1 S [] (an.drop 3) (by decide);rw[List.append_nil] at A;rw[List.take_append_drop] at h;rw[h,A];cases (an.take 3).any (Lib.hasPrefix S)<;>simp[bE]
theorem ur {c:UInt8} {t:Bs} (h:dW c=true):aR (c::t)=(1,eu iF (c::t)):=by
 unfold aR;exact if_pos h
theorem ut {c:UInt8} {t:Bs} (h:dW c=false) (A:dk c=true):aR (c::t)=(2,eu dk (c::t)):=by
 unfold aR;exact (if_neg (by simp[h])).trans (if_pos A)
theorem uv {c:UInt8} {t:Bs} (h:dW c=false) (A:dk c=false) (B:c=39):aR (c::t)=(3,if Lib.indexByte t 39<0 then 0 else (Lib.indexByte t 39).toNat+2):=by
 unfold aR;exact (if_neg (by simp[h])).trans ((if_neg (by simp[A])).trans (if_pos B))
theorem sB {c:UInt8} {t:Bs} (h:dW c=false) (A:dk c=false) (B:c≠39):aR (c::t)=(4,bE (c::t) an):=by
 unfold aR;exact (if_neg (by simp[h])).trans ((if_neg (by simp[A])).trans (if_neg B))
theorem pw (t:Bs):Lib.index t [39]=Lib.indexByte t 39:=Lib.index_one t 39
end
section
open Go.RowKit Go.BigFrame
theorem sE (w:World):Calls zy 72 #[.nilIface] w fun h w'=>h=zT (.tuple #[zW zX 0,zW zX (-1)])∧aa [] w w':=by
 have B:=zx (tF w);go_enter Tryz.func72,Tryz.ntmps72
 go_wp2_with fail
 refine B.out.mono ?_;rintro h D ⟨rfl,A⟩;go_wp2;refine wp_loop_rounds 1 ?_;rw[rounds_succ];go_wp2;go_ret2;exact ⟨rfl,A⟩
theorem uw (g:Nat) (e p:Int) (w:World) (B:gY w) (h:ap w g 137 #[zW zX e,zW zX p]) :
  Calls zy 72 #[.iface 136 (zS (some ⟨g,0,none⟩))] w fun D w'=>D=zT (.tuple #[zW zX e,zW zX p])∧aa [] w w':=by
 have M:=zx (vd g e p w B h);have O:=xL ⟨g,0,none⟩;have J:=zx h;clear B h;go_enter Tryz.func72,Tryz.ntmps72
 go_wp2_with fail
 refine M.out.mono ?_;rintro D I ⟨rfl,A⟩;have h:=J.out.keep A (by simp);have Z:I.cell? ⟨g,1,none⟩=some (zW zX p):=h.cell 1;have U:=h.lt;have K1:=zx A;clear h A;go_wp2;refine wp_loop_rounds 1 ?_;rw[rounds_succ];go_upto_region 5 with (fail)
 go_region_law (fail)
 all_goals
  go_wp2;go_ret2;exact ⟨rfl,K1.out.trans (zN [] I).drew⟩
theorem ux (w:World):Calls zy 27 #[.nilIface,.agg #[zW zX 0,zW zX (-1)]] w fun B w'=>B=zT (.bool true)∧aa [] w w':=by
 have D:aa [] w (w.alloc (zU #[zW zX 0,zW zX (-1)] 47)):=(zN _ _).alloc _;have I:=zO w 47 #[zW zX 0,zW zX (-1)];have O:=zx (sE (w.alloc (zU #[zW zX 0,zW zX (-1)] 47)));have J:=zx D;have M:=zx I;clear D I;go_enter Tryz.func27,Tryz.ntmps27
 go_wp2_with fail
 refine O.out.mono ?_;rintro B w2 ⟨rfl,A⟩;have h:=M.out.keep A (by simp);have U:w2.cell? ⟨w.heap.size,0,none⟩=some (zW zX 0):=h.cell 0;have c1:w2.cell? ⟨w.heap.size,1,none⟩=some (zW zX (-1)):=h.cell 1;have Z:=h.lt;have K2:=zx (J.out.trans A);clear h A;go_wp2;go_ret;exact ⟨rfl,K2.out⟩
theorem uy (g:Nat) (e p:Int) (w:World) (J:gY w) (D:ap w g 137 #[zW zX e,zW zX p]):Calls zy 27 #[.iface 136 (zS (some ⟨g,0,none⟩)),.agg #[zW zX e,zW zX p]] w fun I w'=>I=zT (.bool true)∧aa [] w w':=by
 have A:aa [] w (w.alloc (zU #[zW zX e,zW zX p] 47)):=(zN _ _).alloc _;have M:=zO w 47 #[zW zX e,zW zX p];have Z:=zx (uw g e p (w.alloc (zU #[zW zX e,zW zX p] 47)) (J.keep A (by simp)) (D.keep A (by simp)));have O:=zx A;have U:=zx M;have e1:(e==e)=true:=beq_self_eq_true e;have e2:(p==p)=true:=beq_self_eq_true p;clear A M D J;go_enter Tryz.func27,Tryz.ntmps27
 go_wp2_with fail
 refine Z.out.mono ?_;rintro I w2 ⟨rfl,B⟩;have h:=U.out.keep B (by simp);have c0:w2.cell? ⟨w.heap.size,0,none⟩=some (zW zX e):=h.cell 0;have c1:w2.cell? ⟨w.heap.size,1,none⟩=some (zW zX p):=h.cell 1;have lb:=h.lt;have K2:=zx (O.out.trans B);clear h B;go_wp2;go_ret;exact ⟨rfl,K2.out⟩
end
section
open Go.RowKit
theorem Hd.et:Tryz.prog.globalNamed "errors.errorType" = some 4:=by kernel_rfl
theorem Hd.rt:(Tryz.prog.cutTypes.find? (·.1 == "internal/reflectlite.rtype")).map (·.2)=some 307:=by kernel_rfl
theorem Hd.oneRow:((List.range 371).filter fun t=>Tryz.prog.rowNamed t [101,114,114,111,114])=[38]:=by kernel_rfl
theorem Hd.size:Tryz.prog.types.size=371:=by kernel_rfl
theorem s9 {A:List (String×DataW Unit)} (D:("errors.errorType",Rows.laid_errors_errorType)∈A) {W:World} (h:handlesMet zy A W):gY W:=by
 obtain ⟨B,u,Z,e1,e2,J,O,I⟩:=h _ D;have U:B=[101,114,114,111,114]:=(Option.some.inj e1).symm;subst U;obtain rfl:=Option.some.inj (Hd.rt.symm.trans e2);have D:Z∈(List.range 371).filter fun t=>Tryz.prog.rowNamed t [101,114,114,111,114]:=List.mem_filter.2 ⟨List.mem_range.2 (by rw[←Hd.size];exact J),O⟩
 rw[Hd.oneRow] at D;obtain rfl:=zD.1 D;have M:typeHandle zy 38= .pointer (some ⟨14,38,none⟩):=by kernel_rfl
 rw[M] at I;show W.cell? _=_;simpa using World.var?_cell Hd.et I 0
def wD (w0:World):World :=
 { w0 with heap:=w0.heap.modify 4 fun
   | .cells _ t h=> .cells #[.iface 307 (.agg #[.pointer (some ⟨14,38,none⟩)])] t h
   | o=>o }
end
end Go.Proofs.YtpagiajlefejcaaGreatDoor
