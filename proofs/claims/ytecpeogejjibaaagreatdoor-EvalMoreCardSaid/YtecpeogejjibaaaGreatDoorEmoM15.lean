/- ops.sorted. ops.made: Filter and Split. ops.Do at Filter and Split, whole. A flow's own tokens are read as that flow: plain. Jobs, and whole flows, of their own tokens: plain. What a flow that was read is like: every part of the parser: plain. -/
import Derived.Test.YtecpeogejjibaaaGreatDoorEmoM12
import Derived.Test.YtecpeogejjibaaaGreatDoorEmoM13
import Derived.Test.YtecpeogejjibaaaGreatDoorEmoM8
import Derived.Test.YtecpeogejjibaaaGreatDoorEmoM11
set_option linter.unusedSimpArgs false
set_option linter.unusedVariables false
set_option maxRecDepth 100000
set_option maxHeartbeats 16000000
namespace Go.Proofs.YtecpeogejjibaaaGreatDoor
open Go.Lib renaming hid → Fx
open _root_.Nat renaming le_refl → Fy, le_trans → FD, zero_le → FF
open _root_.List renaming length_append → Fz, getElem?_eq_getElem → FA, getElem_mem → FE, length_cons → FG, length_take → FH, getD_eq_getElem?_getD → FJ
open Go.World renaming block_lt_of_cell? → FC, news_of_block → FI
open aa renaming refl → FK
open ao renaming new → FL
open Go.Value renaming string → FM, slice → FN, pointer → FO, int → FR
open Go.Ending renaming returned → FP
open Go.Obj renaming cells → FQ
open Go.IntKind renaming i64 → FS
section
open Go.RowKit Go.BigFrame
attribute [local go_sem] ag ab ae af
theorem vE {α β:Type} (f:α→β) (le:β→β→Bool):∀ (A B:List α),(mg (fun a b=>le (f a) (f b)) A B).map f=mg le (A.map f) (B.map f)
 | [],B=>by rw[fL,List.map_nil,fL]
 | a::A,[]=>by rw[fK,List.map_nil,fK]
 | a::A,b::B=>by
  rw[jF,List.map_cons,List.map_cons,jF];split
  ·rw[List.map_cons,vE f le A (b::B),List.map_cons]
  rw[List.map_cons,vE f le (a::A) B,List.map_cons]
termination_by A B=>A.length+B.length
theorem Cr {α β:Type} (f:α→β) (le:β→β→Bool) (l:List α):(eh (fun a b=>le (f a) (f b)) l).map f=eh le (l.map f):=by
 refine gL (p:=fun l=>(eh (fun a b=>le (f a) (f b)) l).map f=eh le (l.map f)) rfl (fun l y ih=>?_) l;rw[gJ,vE,ih,List.map_append,List.map_cons,List.map_nil,gJ]
theorem Dg {w:World}:∀ (us:List Value) (D:List (List Vl)),us.length=D.length→(∀ i (h:i<us.length) (h':i<D.length),fJ w [] us[i] D[i])→∃ l:List SR,l.map SR.v=us∧l.map SR.row=D∧∀ x∈l,x.n=x.row.length∧x.row.length≤x.c∧Rd w [] 3 x.A x.row.length (al x.row)
 | [],[],_,_=>⟨[],rfl,rfl,fun x I=>by cases I⟩
 | [],_::_,h,_=>by cases h
 | _::_,[],h,_=>by cases h
 | u::us,r::D,h,J=>by
  obtain ⟨l,U,O,Z⟩:=Dg us D (by simpa using h) fun i a b=>J (i+1) (by simpa using a) (by simpa using b)
  obtain ⟨A,c,e,N,M⟩:=J 0 (by simp) (by simp);refine ⟨⟨A,r.length,c,r⟩::l,by rw[List.map_cons,U];congr 1;exact e.symm,by rw[List.map_cons,O],fun x I=>?_⟩;rcases List.mem_cons.1 I with rfl|I
  ·exact ⟨rfl,N,M⟩
  exact Z x I
theorem Cs (l:List SR):∀ u∈l.map SR.v,u.oneCell'=true:=fun u h=>by
 obtain ⟨x,_,rfl⟩:=List.mem_map.1 h;rfl
theorem vF (n:Nat) (h2:n≤4294967296) (ys:List Value) (a2:∀ u∈ys,u.oneCell'=true) (A:Option Addr) (c:Nat) (w:World) (U:Rd w [] 1 A n ys) :
  Calls Tryz.prog 140 #[FN A n c] w fun e w'=>(∃ v,e=FP v∧w'.ownsRow w.heap.size 89 1 v n ys)∧aa [] w w':=by
 cases A with
 | none =>
  have h0:n=0:=Nat.eq_zero_of_not_pos fun h=>by obtain ⟨_,e,_⟩:=U.2 h;cases e
  subst h0;have a1:ys=[]:=List.eq_nil_of_length_eq_zero (by rw[U.1]);subst a1;have a0:=fun W=>Lib.run_eql_slice_nil (P:=Tryz.prog) W 52 89 none 0 c 0 0 Tryz.underlying52
  clear U;go_enter Tryz.func140,Tryz.ntmps140
  go_wp2;go_ret;exact ⟨⟨_,rfl,World.ownsRow_nil _ _ _ _⟩,FK _ _⟩
 | some ad =>
  obtain ⟨b,o,sp⟩:=ad;obtain ⟨iv,Z,M,I,N⟩:=info_parts jw;have D:aa [] w (w.alloc (FQ #[] 89)):=(FK _ _).alloc _;have hz:=gU (w:=w) (e:=89) (cur:= #[]) (size:=1) (G:=0) rfl (by decide);obtain ⟨v',w',J,O,aA⟩:=dw (P:=Tryz.prog) (w.alloc (FQ #[] 89)) w.heap.size 52 52 89 iv _ 1 24 Tryz.underlying52 Z M I N rfl (by decide) hz (U.keep D) c a2 (by unfold maxLen;omega) (by omega) D.size;rw[Nat.zero_add,List.nil_append] at O;have av:=Fx J;have HO:=Fx O;have HK:=Fx (D.grown aA (fun g hg=> .inr (by injection hg with hg;rw[←hg];exact Fy _)));have a0:=fun W=>Lib.run_eql_slice_nil (P:=Tryz.prog) W 52 89 (some ⟨b,o,sp⟩) n c 0 0 Tryz.underlying52
  clear D hz J O aA U Z M I N;go_enter Tryz.func140,Tryz.ntmps140
  go_wp2_with (at_builtin;refine Lib.wpList_append_run _ rfl _ _ _ _ rfl _ _ rfl rfl _ _ av.out ?_)
  go_ret;exact ⟨⟨_,rfl,HO.out⟩,HK.out⟩
theorem pU (v:Value) (f:Value) (w:World):Calls Tryz.prog 185 #[v,FR FS 0,FR FS 0,f] w fun e w'=>e=FP (.tuple #[])∧aa [] w w':=by
 go_enter Tryz.func185,Tryz.ntmps185
 go_wp2_with fail
 refine wp_loop_rounds 1 ?_;rw[rounds_succ];go_wp2;go_end0
 exact ⟨rfl,FK _ _⟩
theorem oY (A:Option Addr) (c:Nat) (f:Value) (w:World):Calls Tryz.prog 141 #[FN A 0 c,f] w fun e w'=>e=FP (.tuple #[])∧aa [] w w':=by
 have J:Hid (Calls Tryz.prog 169 #[FN A 0 c,FR FS 0,f] w fun e w'=>e=FP (.tuple #[])∧aa [] w w'):=Fx (by
  have I:=Fx (pU (FN A 0 c) f w);go_enter Tryz.func169,Tryz.ntmps169
  go_wp2_with fail
  refine wp_loop_rounds 1 ?_;rw[rounds_succ];go_wp2_with ((with_reducible refine I.out.mono ?_);rintro e D ⟨rfl,h⟩)
  refine wp_loop_rounds 1 ?_;rw[rounds_succ];go_wp2;go_end0
  exact ⟨rfl,h⟩)
 go_enter Tryz.func141,Tryz.ntmps141
 go_wp2_with ((with_reducible refine J.out.mono ?_);rintro e D ⟨rfl,h⟩)
 go_end0
 exact ⟨rfl,h⟩
theorem tK {y w:World} {G:Nat} {rest:List Value} {l:List SR} {m cap:Nat} (h:aH y G rest l w) (hl:∀ x∈l,AQ y G m x) (J:l.length≤cap):cF w (FN (some ⟨G,0,none⟩) l.length cap) (l.map SR.row):=by
 refine ⟨_,cap,by rw[List.length_map],by rw[List.length_map];exact J,l.map SR.v,by rw[List.length_map,List.length_map],⟨by simp,fun _=>⟨_,rfl,by simp,h.b.lt,fun j u D=>?_⟩⟩,fun i U h2=>?_⟩
 ·rw[cJ,Nat.zero_add,h.b.cell j]
  unfold bg;rw[List.getElem?_toArray,List.getElem?_append_left (List.getElem?_eq_some_iff.1 D).1];exact D
 rw[List.getElem_map,List.getElem_map];have Z:i<l.length:=by simpa using U
 obtain ⟨O,N,_,M⟩:=hl l[i] (FE Z);refine ⟨_,_,by unfold SR.v;rw[O],N,(M.keep h.k).move fun x I=>by cases I⟩
theorem pa (j:Jb) (t:Tb) (Ao:Option Addr) (co:Nat) (Ai:Option Addr) (ni ci:Nat) (Ac:Option Addr) (cc:Nat) (A B:Option Addr) (c d:Nat) (w:World) (hT:aZ w t A B c d) (bX:Rd w [] 1 Ac j.cols.length (strs j.cols)) (cg:j.cols.length≤4294967296)
  (b3:∀ n∈j.cols,∃ k,an t.cols n=some k) (br:∀ r∈t.rows,r.length=t.cols.length) (hn:t.rows.length≤1000000) (no:Nat) :
  Calls Tryz.prog 100 #[.agg #[FR FS j.at_,FR FS j.code,FN Ao no co,FN Ai ni ci,FN Ac j.cols.length cc,FM (bs j.op),FM (bs j.left.col),FR FS j.left.val.kind,FR FS j.left.val.num,FM (bs j.left.val.word),FM (bs j.right.col),FR FS j.right.val.kind,FR FS j.right.val.num,FM (bs j.right.val.word),FR FS j.retry],jP A t.cols.length c B t.rows.length d] w fun e w'=>(∃ v,e=FP v∧cF w' v (cN t j.cols))∧aa [] w w':=by
 obtain ⟨us,b1,be,b5⟩:=hT.rows;obtain ⟨l,bZ,av,a5⟩:=Dg us t.rows b1 b5;have bo:l.length=t.rows.length:=by rw[←av,List.length_map]
 rw[←bZ] at be;have bm:cN t j.cols=(eh (fun a b=>Dn (j.cols.map (eg t.cols)) (SR.row a) (SR.row b)) l).map SR.row:=by
  rw[Cr,av];rfl
 rw[bm];have HCL:=Fx (fun W (q:aa [] w W)=>vF t.rows.length (by omega) (l.map SR.v) (Cs l) B d W (be.keep q));have HA:=Fx hT.cols;have bl:=Fx bX;have bq:=Fx (fun x (I:x∈l)=>(⟨(a5 x I).1,(a5 x I).2.1,br _ (by rw[←av];exact List.mem_map_of_mem I),(a5 x I).2.2⟩:x.n=x.row.length∧x.row.length≤x.c∧x.row.length=t.cols.length∧Rd w [] 3 x.A x.row.length (al x.row)));have bk:=Fx b3;have b9:=Fx hT.ln;have aA:=Fx bo;obtain ⟨J,code,outs,js,cols,op,⟨lc,lk,ln,lw⟩,⟨rc,rk,rn,O⟩,D⟩:=j;have a6:Hid (aa [] w ((w.alloc (FQ #[FR FS J,FR FS code,FN Ao no co,FN Ai ni ci,FN Ac cols.length cc,FM (bs op),FM (bs lc),FR FS lk,FR FS ln,FM (bs lw),FM (bs rc),FR FS rk,FR FS rn,FM (bs O),FR FS D] 50)).alloc (FQ #[FN A t.cols.length c,FN B t.rows.length d] 54))):=Fx (((FK _ _).alloc _).alloc _);have ad:=Fx (ao.alloc (FL w 50 #[FR FS J,FR FS code,FN Ao no co,FN Ai ni ci,FN Ac cols.length cc,FM (bs op),FM (bs lc),FR FS lk,FR FS ln,FM (bs lw),FM (bs rc),FR FS rk,FR FS rn,FM (bs O),FR FS D]) (FQ #[FN A t.cols.length c,FN B t.rows.length d] 54));have M:=Fx (FL (w.alloc (FQ #[FR FS J,FR FS code,FN Ao no co,FN Ai ni ci,FN Ac cols.length cc,FM (bs op),FM (bs lc),FR FS lk,FR FS ln,FM (bs lw),FM (bs rc),FR FS rk,FR FS rn,FM (bs O),FR FS D] 50)) 54 #[FN A t.cols.length c,FN B t.rows.length d]);rw[ap] at M;clear hT bX b3 br b1 be b5 bZ av a5 bo bm;show Calls _ _ #[.agg #[FR FS J,FR FS code,FN Ao no co,FN Ai ni ci,FN Ac cols.length cc,FM (bs op),FM (bs lc),FR FS lk,FR FS ln,FM (bs lw),FM (bs rc),FR FS rk,FR FS rn,FM (bs O),FR FS D],.agg #[FN A t.cols.length c,FN B t.rows.length d]] w _;go_enter Tryz.func100,Tryz.ntmps100
 go_wp2_with fail
 obtain ⟨w2,b7⟩:∃ w2,((w.alloc (FQ #[FR FS J,FR FS code,FN Ao no co,FN Ai ni ci,FN Ac cols.length cc,FM (bs op),FM (bs lc),FR FS lk,FR FS ln,FM (bs lw),FM (bs rc),FR FS rk,FR FS rn,FM (bs O),FR FS D] 50)).alloc (FQ #[FN A t.cols.length c,FN B t.rows.length d] 54))=w2:=⟨_,rfl⟩
 rw[b7] at a6 ad M ⊢;obtain ⟨bx,bc⟩:∃ bx,w.heap.size=bx:=⟨_,rfl⟩
 have ch:Hid (bx+1<w2.heap.size):=Fx (bc ▸ M.out.lt);rw[bc] at ad M ⊢;clear b7 bc;refine (HCL.out w2 a6.out).mono ?_;rintro e N ⟨⟨v,rfl,Z⟩,U⟩;have ba:=Fx (a6.out.trans U);have a8:=Fx (ad.out.keep U (by simp));have a9:=Fx (M.out.keep U (by simp));rcases Z.2 with ⟨rfl,h0⟩|⟨G,cap,cur,rfl,hG,hh,a7,b4,ca,bj⟩
 ·have cd:l=[]:=List.eq_nil_of_length_eq_zero (by rw[aA.out];exact h0)
  have cj:=Fx (oY none 0 (.func (.func 142) #[] #[FO (some ⟨bx,0,none⟩),FO (some ⟨bx+1,0,none⟩)]) N);clear U Z HCL h0;subst cd;go_wp2_with ((with_reducible refine cj.out.mono ?_);rintro e w5 ⟨rfl,h5⟩)
  go_ret;exact ⟨⟨_,rfl,none,0,rfl,FF _,[],rfl,Rd.nil,fun i h=>by cases h⟩,ba.out.trans h5⟩
 have b8:N.heap.size>G:=(Array.getElem?_eq_some_iff.1 hh).1;have b0:ao N G 89 (bg l (cur.toList.drop t.rows.length)):=by
  have e:cur=bg l (cur.toList.drop t.rows.length):=by
   unfold bg;rw[Nat.mul_one] at bj;rw[←bj,List.take_append_drop,Array.toArray_toList]
  rw[←e];exact hh
 have b6:=ch.out;have bz:aH N G (cur.toList.drop t.rows.length) l N:=⟨FK _ _,b0⟩;have bv:w.heap.size≤G:=FD a6.out.size hG;have a0:∀ {size n:Nat} {A:Option Addr} {xs:List Value},Rd w [] size A n xs→Rd N [G] size A n xs:=fun h=>h.apart ba.out fun x I=>by rw[List.mem_singleton.1 I];exact bv
 have bb:∀ x∈l,AQ N G t.cols.length x:=fun x I=>by
  obtain ⟨a1,a2,a3,a4⟩:=bq.out x I;exact ⟨a1,a2,a3,a0 a4⟩
 have hO:iX (bS fun x z:SR=>mX (cols.map (eg t.cols)) x.row z.row):=⟨fun a b=>(q8 _).total a.row b.row,fun a b c=>(q8 _).trans a.row b.row c.row⟩;have hC:tG N G 142 #[FO (some ⟨bx,0,none⟩),FO (some ⟨bx+1,0,none⟩)] (fun x z=>mX (cols.map (eg t.cols)) x.row z.row) (AQ N G t.cols.length) :=
  ⟨enters_of Tryz.func142 (by kernel_rfl) rfl,hO,fun x z I hz W hW =>
   tJ N G (⟨J,code,outs,js,cols,op,⟨lc,lk,ln,lw⟩,⟨rc,rk,rn,O⟩,D⟩:Jb) t bx (bx+1) A c (FN B t.rows.length d) Ac cc _ a8.out rfl (by omega) a9.out (by omega) (a0 bl.out) (a0 HA.out) b9.out cg bk.out x z I hz W hW⟩
 have ce:=Fx (oW N G (cur.toList.drop t.rows.length) t.rows.length cap hn 142 _ _ _ hC l bb aA.out N bz);have HF:Hid (∀ w5,aH N G (cur.toList.drop t.rows.length) (eh (bS fun x z:SR=>mX (cols.map (eg t.cols)) x.row z.row) l) w5→cF w5 (FN (some ⟨G,0,none⟩) t.rows.length cap) ((eh (fun a b=>Dn (cols.map (eg t.cols)) (SR.row a) (SR.row b)) l).map SR.row)∧aa [] w w5):=Fx (fun w5 h5=>by
  have h6:=tK (cap:=cap) h5 (fun x I=>bb x ((gK _).mem_iff.1 I)) (by rw[bJ,aA.out];exact a7);rw[bJ,aA.out] at h6;refine ⟨h6,(ba.out.of_nil (L:=[G])).trans h5.k |>.weaken fun x I cm=>?_⟩;rw[List.mem_singleton] at I;omega)
 clear U Z HCL hh a7 b4 ca bj b8 b0 b6 bz bv a0 bb hO hC bq bk HA bl a8 a9 ad M;go_wp2_with ((with_reducible refine ce.out.mono ?_);rintro e w5 ⟨rfl,h5⟩;have H5:=Fx h5;clear h5)
 go_ret;exact ⟨⟨_,rfl,(HF.out _ H5.out).1⟩,(HF.out _ H5.out).2⟩
end
section
open Go.RowKit Go.BigFrame
attribute [local go_sem] ag ab ae af
attribute [local go_sem] KW.cell
theorem di {p:List Vl→Bool} {D:List (List Vl)} {n:Nat} (h:n<D.length):(D.take (n+1)).filter p=if p D[n]=true then (D.take n).filter p++[D[n]] else (D.take n).filter p:=by
 rw[List.take_succ_eq_append_getElem h,List.filter_append];cases I:p D[n]<;>simp[I]
theorem lF {u v:Value} (h:∀ g,u.ownBlock=some g→v.ownBlock≠some g):u.ownBlock=none∨u.ownBlock≠v.ownBlock:=by
 cases D:u.ownBlock with
 | none=>exact .inl rfl
 | some g=>exact .inr fun e=>h g D e.symm
theorem dM {u v:Value} (h:∀ g,u.ownBlock=some g→v.ownBlock≠some g):∀ g,v.ownBlock=some g→u.ownBlock≠some g:=fun g I D=>h g D I
theorem gg {w W:World} {base gw n cap H:Nat} {v v':Value} {O:List (List Vl)} (h:∀ g,v.ownBlock=some g→v'.ownBlock≠some g) (D:v.ownBlock=some gw∨gw=H) (N:fW w W base v' O) (Z:W.heap.size≤H):∀ g,(Value.slice (some ⟨gw,0,none⟩) n cap).ownBlock=some g→v'.ownBlock≠some g:=fun g I=>by
 have e:gw=g:=by simpa[Value.ownBlock] using I
 subst e;rcases D with U|rfl
 ·exact h _ U
 intro M;obtain ⟨us,_,J,_⟩:=N;have:=(J.lt _ M).2;omega
theorem qL (A:Option Addr) (m d n:Nat) (h:n≤d) (W:World):(Instr.slice 136 (FN A m d) none (some (FR FS (n:Int))) none).run Tryz.prog W= .ok (FN A n d) W:=by
 have J:=Tryz.underlying136;have I:(0:Int)≤(n:Int):=by omega
 have D:(n:Int)≤(d:Int):=by omega
 cases A with
 | none=>go_simp
 | some a=>go_simp
theorem tT {w:World} {u v:Value} {l m:List (List Vl)} (I:cF w u l) (J:cF w v m) (n:Nat) (Z:n≤2) (t:TypeId):fp (w.alloc (FQ #[u,v] t)) (some ⟨w.heap.size,0,none⟩) ([l,m].take n):=by
 have D:aa [] w (w.alloc (FQ #[u,v] t)):=(FK _ _).alloc _;refine wE (us:=[u,v].take n) (by simp) (FL _ _ _).lt (fun j x h=>?_) (fun i M U=>?_)
 ·rw[(FL w t #[u,v]).cell j]
  rw[List.getElem?_take] at h;split at h
  ·rename_i O
   match j,h with
   | 0,h=>simpa using h
   | 1,h=>simpa using h
   | j+2,h=>simp at h
  cases h
 have N:i<2:=by simp at M;omega
 match i,N with
 | 0,_=>simpa using I.keep D
 | 1,_=>simpa using J.keep D
theorem Eh (t:Tb) (no:Nat) (cg:no≤2) (OA:Option Addr) (od:Nat) (b o:Nat) (nt ct:Nat) (A B:Option Addr) (c d:Nat) (eB:1≤nt) (Z D lk ln rk rn:Int) (outs js cols:List Bs) (op lc lw rc J:Bs) (Ao:Option Addr) (co:Nat) (Ai:Option Addr) (ni ci:Nat) (Ac:Option Addr) (cc:Nat) (w:World)
  (dz:w.cell? ⟨b,o,none⟩=some (FN A t.cols.length c)) (er:w.cell? ⟨b,o+1,none⟩=some (FN B t.rows.length d)) (hT:aZ w t A B c d)
  (c4:∀ r∈t.rows,fQ ⟨lc,⟨lk,ln,lw⟩⟩ t.cols r) (cx:∀ r∈t.rows,fQ ⟨rc,⟨rk,rn,J⟩⟩ t.cols r) :
  Calls Tryz.prog 64 #[.agg #[FR FS Z,FR FS 1,FN Ao outs.length co,FN Ai ni ci,FN Ac cols.length cc,FM (bs op),FM (bs lc),FR FS lk,FR FS ln,FM (bs lw),FM (bs rc),FR FS rk,FR FS rn,FM (bs J),FR FS D],FN (some ⟨b,o,none⟩) nt ct,FN OA no od] w fun e w'=>dC (.ok ([t.rows.filter (da (⟨Z,1,outs,js,cols,op,⟨lc,lk,ln,lw⟩,⟨rc,rk,rn,J⟩,D⟩:Jb) t),t.rows.filter fun r=> !da (⟨Z,1,outs,js,cols,op,⟨lc,lk,ln,lw⟩,⟨rc,rk,rn,J⟩,D⟩:Jb) t r].take no)) e w'∧aa [] w w':=by
 obtain ⟨ir,c7,bv,bX,bz⟩:=info_parts jw;have hP:Hid (∀ r,da (⟨Z,1,outs,js,cols,op,⟨lc,lk,ln,lw⟩,⟨rc,rk,rn,J⟩,D⟩:Jb) t r=nK (bB ⟨lc,⟨lk,ln,lw⟩⟩ t.cols r) op (bB ⟨rc,⟨rk,rn,J⟩⟩ t.cols r)):=Fx fun r=>rfl
 obtain ⟨U,c3⟩:∃ p,da (⟨Z,1,outs,js,cols,op,⟨lc,lk,ln,lw⟩,⟨rc,rk,rn,J⟩,D⟩:Jb) t=p:=⟨_,rfl⟩
 rw[c3] at hP ⊢;obtain ⟨aA,cj⟩:∃ p:List Vl→Bool,(fun r=> !U r)=p:=⟨_,rfl⟩
 rw[cj];have d6:Hid (∀ r,aA r= !U r):=Fx fun r=>by rw[←cj]
 clear c3 cj;have ez:(0:Int)<(nt:Int):=by omega
 have HT:=Fx hT;have el:=hT.lm;have d1:=Fx c4;have d0:=Fx cx;have eb:b<w.heap.size:=FC _ _ dz;have c8:Hid (aa [] w ((w.alloc (FQ #[FR FS Z,FR FS 1,FN Ao outs.length co,FN Ai ni ci,FN Ac cols.length cc,FM (bs op),FM (bs lc),FR FS lk,FR FS ln,FM (bs lw),FM (bs rc),FR FS rk,FR FS rn,FM (bs J),FR FS D] 50)).alloc (FQ #[FN A t.cols.length c,FN B t.rows.length d] 54))):=Fx (((FK _ _).alloc _).alloc _);have b5:=Fx (ao.alloc (FL w 50 #[FR FS Z,FR FS 1,FN Ao outs.length co,FN Ai ni ci,FN Ac cols.length cc,FM (bs op),FM (bs lc),FR FS lk,FR FS ln,FM (bs lw),FM (bs rc),FR FS rk,FR FS rn,FM (bs J),FR FS D]) (FQ #[FN A t.cols.length c,FN B t.rows.length d] 54));have bo:=Fx (FL (w.alloc (FQ #[FR FS Z,FR FS 1,FN Ao outs.length co,FN Ai ni ci,FN Ac cols.length cc,FM (bs op),FM (bs lc),FR FS lk,FR FS ln,FM (bs lw),FM (bs rc),FR FS rk,FR FS rn,FM (bs J),FR FS D] 50)) 54 #[FN A t.cols.length c,FN B t.rows.length d]);rw[ap] at bo;clear hT c4 cx;go_enter Tryz.func64,Tryz.ntmps64
 go_wp2;obtain ⟨w2,ds⟩:∃ w2,((w.alloc (FQ #[FR FS Z,FR FS 1,FN Ao outs.length co,FN Ai ni ci,FN Ac cols.length cc,FM (bs op),FM (bs lc),FR FS lk,FR FS ln,FM (bs lw),FM (bs rc),FR FS rk,FR FS rn,FM (bs J),FR FS D] 50)).alloc (FQ #[FN A t.cols.length c,FN B t.rows.length d] 54))=w2:=⟨_,rfl⟩
 rw[ds] at c8 b5 bo ⊢;obtain ⟨bx,c5⟩:∃ bx,w.heap.size=bx:=⟨_,rfl⟩
 rw[c5] at b5 bo ⊢;clear ds c5;go_loopw [9,10,30] (fun u1 u2 i wx=>∃ (m:Nat) (vy vn:Value),vy=u1∧vn=u2∧m≤t.rows.length∧i=FR FS m∧Hid (fW w wx w2.heap.size vy ((t.rows.take m).filter U))∧Hid (fW w wx w2.heap.size vn ((t.rows.take m).filter aA))∧(∀ g,vy.ownBlock=some g→vn.ownBlock≠some g)∧aa [] w2 wx) (fun _ _ i _=>t.rows.length-(intOf i).toNat)
 case atStart=>exact ⟨0,_,_,rfl,rfl,FF _,rfl,fW.nil _ _ _,fW.nil _ _ _,(fun g (h:(Value.slice none 0 0).ownBlock=some g)=>by simp[Value.ownBlock] at h),FK _ _⟩
 obtain ⟨m,vy,vn,rfl,rfl,hm,rfl,a2,a3,a0,hk⟩:=hrel;have bj:=dM a0;have HK:=Fx hk;have av:=Fx (c8.out.trans hk);clear hk;by_cases a4:m<t.rows.length
 ·obtain ⟨us,d5,c9,dq⟩:=HT.out.rows
  have dr:m<us.length:=by omega
  have b9:=dq m dr a4;obtain ⟨b7,o7,dv,_,e1,cz⟩:=c9.open' (by omega) (by have:=HT.out.lm;omega);have d7:=cz (m*1) us[m] (by rw[Nat.mul_one];exact FA dr);rw[Nat.mul_one] at d7;have bk:t.rows[m]∈t.rows:=FE a4;obtain ⟨r,hr⟩:∃ r,t.rows[m]=r:=⟨_,rfl⟩
  rw[hr] at b9 bk;have cu:=Fx b9;obtain ⟨Ar,cr,hu,eA,c0⟩:=b9;rw[hu] at cu d7;have d8:=av.out.cell_of d7 (by simp);subst dv;have cd:Hid (∀ W,aa [] wr W→Calls Tryz.prog 98 #[.agg #[FM (bs lc),FR FS lk,FR FS ln,FM (bs lw)],FN A t.cols.length c,FN Ar r.length cr] W fun e w'=>e=FP (fV (bB ⟨lc,⟨lk,ln,lw⟩⟩ t.cols r))∧aa [] W w'):=Fx fun W q=>eR ⟨lc,⟨lk,ln,lw⟩⟩ t.cols r A Ar c cr W (HT.out.cols.keep (av.out.trans q)) HT.out.ln (c0.keep (av.out.trans q)) (d1.out r bk)
  have b4:Hid (∀ W,aa [] wr W→Calls Tryz.prog 98 #[.agg #[FM (bs rc),FR FS rk,FR FS rn,FM (bs J)],FN A t.cols.length c,FN Ar r.length cr] W fun e w'=>e=FP (fV (bB ⟨rc,⟨rk,rn,J⟩⟩ t.cols r))∧aa [] W w'):=Fx fun W q=>eR ⟨rc,⟨rk,rn,J⟩⟩ t.cols r A Ar c cr W (HT.out.cols.keep (av.out.trans q)) HT.out.ln (c0.keep (av.out.trans q)) (d0.out r bk)
  have ch:=hP.out r;obtain ⟨X,hX⟩:∃ X,bB ⟨lc,⟨lk,ln,lw⟩⟩ t.cols r=X:=⟨_,rfl⟩
  obtain ⟨Y,hY⟩:∃ Y,bB ⟨rc,⟨rk,rn,J⟩⟩ t.cols r=Y:=⟨_,rfl⟩
  rw[hX,hY] at ch;rw[hX] at cd;rw[hY] at b4;have b8:=Fx (fun W=>qK X op Y W);rw[←ch] at b8;have bq:=d6.out r;clear hX hY ch hu d5 c9 dq cz d7;obtain ⟨xk,xn,xw⟩:=X;obtain ⟨yk,yn,yw⟩:=Y;have HAA':Hid (∀ W,aa [] wr W→Calls Tryz.prog 98 #[.agg #[FM (bs lc),FR FS lk,FR FS ln,FM (bs lw)],FN A t.cols.length c,FN Ar r.length cr] W fun e w'=>e=FP (.agg #[FR FS xk,FR FS xn,FM (bs xw)])∧aa [] W w'):=cd;have HAB':Hid (∀ W,aa [] wr W→Calls Tryz.prog 98 #[.agg #[FM (bs rc),FR FS rk,FR FS rn,FM (bs J)],FN A t.cols.length c,FN Ar r.length cr] W fun e w'=>e=FP (.agg #[FR FS yk,FR FS yn,FM (bs yw)])∧aa [] W w'):=b4;have HHO':Hid (∀ W,aa [] wr W→Calls Tryz.prog 97 #[.agg #[FR FS xk,FR FS xn,FM (bs xw)],FM (bs op),.agg #[FR FS yk,FR FS yn,FM (bs yw)]] W fun e w'=>e=FP (.bool (U r))∧aa [] W w'):=Fx fun W _=>b8.out W
  clear cd b4 b8;have O:=Fx (b5.out.keep HK.out (by simp));have c6:=Fx (bo.out.keep HK.out (by simp));have y5:wr.cell? ⟨bx,5,none⟩=some (FM (bs op)):=O.out.cell 5;have y6:wr.cell? ⟨bx,6,none⟩=some (FM (bs lc)):=O.out.cell 6;have y7:wr.cell? ⟨bx,7,none⟩=some (FR FS lk):=O.out.cell 7;have y8:wr.cell? ⟨bx,8,none⟩=some (FR FS ln):=O.out.cell 8;have y9:wr.cell? ⟨bx,9,none⟩=some (FM (bs lw)):=O.out.cell 9;have eX:wr.cell? ⟨bx,10,none⟩=some (FM (bs rc)):=O.out.cell 10;have es:wr.cell? ⟨bx,11,none⟩=some (FR FS rk):=O.out.cell 11;have en:wr.cell? ⟨bx,12,none⟩=some (FR FS rn):=O.out.cell 12;have eY:wr.cell? ⟨bx,13,none⟩=some (FM (bs J)):=O.out.cell 13;have z0:wr.cell? ⟨bx+1,0,none⟩=some (FN A t.cols.length c):=c6.out.cell 0;have et:bx<wr.heap.size:=O.out.lt;have d9:bx+1<wr.heap.size:=c6.out.lt;have ey:(0:Int)≤(m:Int):=by omega
  have e0:(m:Int)<(t.rows.length:Int):=by omega
  cases br:U r with
  | true =>
   rw[br] at HHO' bq;go_wp2_with fail
   refine ah (by kernel_rfl) (by kernel_rfl) ?_;repeat (go_big_quiet_step (first|with_reducible exact KW.of HAA'.out _|with_reducible exact KW.of HAB'.out _|with_reducible exact KW.of HHO'.out _))
   refine wpQuiet_nil ?_;intro w5 N;obtain ⟨c1,bc,a6,bb⟩:=a2.out;have a1:=Fx (aC a6 N (fun _ _=>by simp));have a8:=Fx bb;have a5:=Fx (a3.out.keep N);have a7:=Fx bc;have d2:w2.heap.size≤w5.heap.size:=FD HK.out.size N.size;have b0:=Fx (HK.out.trans N);have be:=Fx (show ((t.rows.take m).filter U).length≤4294967296 from FD (List.length_filter_le _ _) (by rw[FH];have:=HT.out.lm;omega));have bm:=Fx (di (p:=U) a4);have ca:=Fx (di (p:=aA) a4);obtain ⟨qs,cm⟩:∃ qs,(t.rows.take m).filter U=qs:=⟨_,rfl⟩
   rw[cm] at a1 a8 a7 be bm;have a9:=Fx (show qs.length+1≤maxLen∧(qs.length+1)*24≤140737488355328 by have:=be.out;simp only[maxLen];omega);clear a6 bb bc N;go_wp2_with (at_builtin;(refine wpList_append_lies _ rfl _ _ 52 rfl w2.heap.size 89 ir _ 1 24 Tryz.underlying52 c7 bv bX bz rfl (by decide) _ qs.length c1 rfl (a1.out.alloc _) ⟨w5.heap.size,0,none⟩ 1 1 [FN Ar r.length cr] rfl rfl (FI (heap_alloc_new _ _)) (by simp[Value.oneCell']) (by decide) a9.out.1 a9.out.2 (by simp;omega) _ rfl ?_);intro gw bl w8 M I ad ba)
   have cq:=Fx ((b0.out.alloc (FQ #[FN Ar r.length cr] 89)).grown I (fun g hg=> .inr (a1.out.lt g hg).1));have b1:=Fx (g9 a7.out a8.out cu.out M);have b6:=Fx ((a5.out.keep ((FK [] w5).alloc _)).kept I (lF (dM a0)));have ce:=Fx (gg (n:=qs.length+1) (cap:=bl) a0 ad a5.out (by rw[ap];omega));clear M I ad ba;go_wp2;go_roundw
   case rel=>exact ⟨m+1,_,vn,rfl,rfl,by omega,by go_num,Fx (by rw[bm.out,hr,br,if_pos rfl];exact b1.out),Fx (by rw[ca.out,hr,bq,if_neg (by decide)];exact b6.out),ce.out,cq.out⟩
   case measure=>simp[intOf];omega
  | false =>
   rw[br] at HHO' bq;go_wp2_with fail
   refine ah (by kernel_rfl) (by kernel_rfl) ?_;repeat (go_big_quiet_step (first|with_reducible exact KW.of HAA'.out _|with_reducible exact KW.of HAB'.out _|with_reducible exact KW.of HHO'.out _))
   refine wpQuiet_nil ?_;intro w5 N;obtain ⟨dt,bc,a6,bb⟩:=a3.out;have a1:=Fx (aC a6 N (fun _ _=>by simp));have a8:=Fx bb;have a5:=Fx (a2.out.keep N);have a7:=Fx bc;have d2:w2.heap.size≤w5.heap.size:=FD HK.out.size N.size;have b0:=Fx (HK.out.trans N);have be:=Fx (show ((t.rows.take m).filter aA).length≤4294967296 from FD (List.length_filter_le _ _) (by rw[FH];have:=HT.out.lm;omega));have bm:=Fx (di (p:=aA) a4);have ca:=Fx (di (p:=U) a4);obtain ⟨qs,cm⟩:∃ qs,(t.rows.take m).filter aA=qs:=⟨_,rfl⟩
   rw[cm] at a1 a8 a7 be bm;have a9:=Fx (show qs.length+1≤maxLen∧(qs.length+1)*24≤140737488355328 by have:=be.out;simp only[maxLen];omega);clear a6 bb bc N;go_wp2_with (at_builtin;(refine wpList_append_lies _ rfl _ _ 52 rfl w2.heap.size 89 ir _ 1 24 Tryz.underlying52 c7 bv bX bz rfl (by decide) _ qs.length dt rfl (a1.out.alloc _) ⟨w5.heap.size,0,none⟩ 1 1 [FN Ar r.length cr] rfl rfl (FI (heap_alloc_new _ _)) (by simp[Value.oneCell']) (by decide) a9.out.1 a9.out.2 (by simp;omega) _ rfl ?_);intro gw bl w8 M I ad ba)
   have cq:=Fx ((b0.out.alloc (FQ #[FN Ar r.length cr] 89)).grown I (fun g hg=> .inr (a1.out.lt g hg).1));have b1:=Fx (g9 a7.out a8.out cu.out M);have b6:=Fx ((a5.out.keep ((FK [] w5).alloc _)).kept I (lF (dM bj)));have ce:=Fx (gg (n:=qs.length+1) (cap:=bl) bj ad a5.out (by rw[ap];omega));clear M I ad ba;go_wp2;go_roundw
   case rel=>exact ⟨m+1,vy,_,rfl,rfl,by omega,by go_num,Fx (by rw[ca.out,hr,br,if_neg (by decide)];exact b6.out),Fx (by rw[bm.out,hr,bq,if_pos (by rfl)];exact b1.out),dM ce.out,cq.out⟩
   case measure=>simp[intOf];omega
 have b3:=Fx (a2.out.is av.out);have cv:=Fx (a3.out.is av.out);obtain rfl:m=t.rows.length:=by omega
 rw[List.take_length] at b3 cv;clear a2 a3;obtain ⟨Ay,cy,d3,_,_⟩:=b3.out;obtain ⟨An,cn,d4,_,_⟩:=cv.out;subst d3 d4;have bZ:([t.rows.filter U,t.rows.filter aA].take no).length=no:=by rw[FH];show min no 2=no;omega
 have ev:=qL (some ⟨wr.heap.size,0,none⟩) 2 2 no cg;have dB:=Fx (tT b3.out cv.out no cg 52);go_wp2;go_ret2;exact ⟨⟨some ⟨wr.heap.size,0,none⟩,2,by rw[bZ];rfl,by rw[bZ];exact cg,dB.out⟩,av.out.alloc _⟩
theorem Ei (t:Tb) (no:Nat) (cg:no≤2) (OA:Option Addr) (od:Nat) (b o:Nat) (nt ct:Nat) (A B:Option Addr) (c d:Nat) (eB:1≤nt) (Z D lk ln rk rn:Int) (outs js cols:List Bs) (op lc lw rc J:Bs) (Ao:Option Addr) (co:Nat) (Ai:Option Addr) (ni ci:Nat) (Ac:Option Addr) (cc:Nat) (w:World)
  (dz:w.cell? ⟨b,o,none⟩=some (FN A t.cols.length c)) (er:w.cell? ⟨b,o+1,none⟩=some (FN B t.rows.length d)) (hT:aZ w t A B c d)
  (c4:∀ r∈t.rows,fQ ⟨lc,⟨lk,ln,lw⟩⟩ t.cols r) (cx:∀ r∈t.rows,fQ ⟨rc,⟨rk,rn,J⟩⟩ t.cols r) :
  Calls Tryz.prog 64 #[.agg #[FR FS Z,FR FS 9,FN Ao outs.length co,FN Ai ni ci,FN Ac cols.length cc,FM (bs op),FM (bs lc),FR FS lk,FR FS ln,FM (bs lw),FM (bs rc),FR FS rk,FR FS rn,FM (bs J),FR FS D],FN (some ⟨b,o,none⟩) nt ct,FN OA no od] w fun e w'=>dC (.ok ([t.rows.filter (da (⟨Z,9,outs,js,cols,op,⟨lc,lk,ln,lw⟩,⟨rc,rk,rn,J⟩,D⟩:Jb) t),t.rows.filter fun r=> !da (⟨Z,9,outs,js,cols,op,⟨lc,lk,ln,lw⟩,⟨rc,rk,rn,J⟩,D⟩:Jb) t r].take no)) e w'∧aa [] w w':=by
 obtain ⟨ir,c7,bv,bX,bz⟩:=info_parts jw;have hP:Hid (∀ r,da (⟨Z,9,outs,js,cols,op,⟨lc,lk,ln,lw⟩,⟨rc,rk,rn,J⟩,D⟩:Jb) t r=nK (bB ⟨lc,⟨lk,ln,lw⟩⟩ t.cols r) op (bB ⟨rc,⟨rk,rn,J⟩⟩ t.cols r)):=Fx fun r=>rfl
 obtain ⟨U,c3⟩:∃ p,da (⟨Z,9,outs,js,cols,op,⟨lc,lk,ln,lw⟩,⟨rc,rk,rn,J⟩,D⟩:Jb) t=p:=⟨_,rfl⟩
 rw[c3] at hP ⊢;obtain ⟨aA,cj⟩:∃ p:List Vl→Bool,(fun r=> !U r)=p:=⟨_,rfl⟩
 rw[cj];have d6:Hid (∀ r,aA r= !U r):=Fx fun r=>by rw[←cj]
 clear c3 cj;have ez:(0:Int)<(nt:Int):=by omega
 have HT:=Fx hT;have el:=hT.lm;have d1:=Fx c4;have d0:=Fx cx;have eb:b<w.heap.size:=FC _ _ dz;have c8:Hid (aa [] w ((w.alloc (FQ #[FR FS Z,FR FS 9,FN Ao outs.length co,FN Ai ni ci,FN Ac cols.length cc,FM (bs op),FM (bs lc),FR FS lk,FR FS ln,FM (bs lw),FM (bs rc),FR FS rk,FR FS rn,FM (bs J),FR FS D] 50)).alloc (FQ #[FN A t.cols.length c,FN B t.rows.length d] 54))):=Fx (((FK _ _).alloc _).alloc _);have b5:=Fx (ao.alloc (FL w 50 #[FR FS Z,FR FS 9,FN Ao outs.length co,FN Ai ni ci,FN Ac cols.length cc,FM (bs op),FM (bs lc),FR FS lk,FR FS ln,FM (bs lw),FM (bs rc),FR FS rk,FR FS rn,FM (bs J),FR FS D]) (FQ #[FN A t.cols.length c,FN B t.rows.length d] 54));have bo:=Fx (FL (w.alloc (FQ #[FR FS Z,FR FS 9,FN Ao outs.length co,FN Ai ni ci,FN Ac cols.length cc,FM (bs op),FM (bs lc),FR FS lk,FR FS ln,FM (bs lw),FM (bs rc),FR FS rk,FR FS rn,FM (bs J),FR FS D] 50)) 54 #[FN A t.cols.length c,FN B t.rows.length d]);rw[ap] at bo;clear hT c4 cx;go_enter Tryz.func64,Tryz.ntmps64
 go_wp2;obtain ⟨w2,ds⟩:∃ w2,((w.alloc (FQ #[FR FS Z,FR FS 9,FN Ao outs.length co,FN Ai ni ci,FN Ac cols.length cc,FM (bs op),FM (bs lc),FR FS lk,FR FS ln,FM (bs lw),FM (bs rc),FR FS rk,FR FS rn,FM (bs J),FR FS D] 50)).alloc (FQ #[FN A t.cols.length c,FN B t.rows.length d] 54))=w2:=⟨_,rfl⟩
 rw[ds] at c8 b5 bo ⊢;obtain ⟨bx,c5⟩:∃ bx,w.heap.size=bx:=⟨_,rfl⟩
 rw[c5] at b5 bo ⊢;clear ds c5;go_loopw [9,10,30] (fun u1 u2 i wx=>∃ (m:Nat) (vy vn:Value),vy=u1∧vn=u2∧m≤t.rows.length∧i=FR FS m∧Hid (fW w wx w2.heap.size vy ((t.rows.take m).filter U))∧Hid (fW w wx w2.heap.size vn ((t.rows.take m).filter aA))∧(∀ g,vy.ownBlock=some g→vn.ownBlock≠some g)∧aa [] w2 wx) (fun _ _ i _=>t.rows.length-(intOf i).toNat)
 case atStart=>exact ⟨0,_,_,rfl,rfl,FF _,rfl,fW.nil _ _ _,fW.nil _ _ _,(fun g (h:(Value.slice none 0 0).ownBlock=some g)=>by simp[Value.ownBlock] at h),FK _ _⟩
 obtain ⟨m,vy,vn,rfl,rfl,hm,rfl,a2,a3,a0,hk⟩:=hrel;have bj:=dM a0;have HK:=Fx hk;have av:=Fx (c8.out.trans hk);clear hk;by_cases a4:m<t.rows.length
 ·obtain ⟨us,d5,c9,dq⟩:=HT.out.rows
  have dr:m<us.length:=by omega
  have b9:=dq m dr a4;obtain ⟨b7,o7,dv,_,e1,cz⟩:=c9.open' (by omega) (by have:=HT.out.lm;omega);have d7:=cz (m*1) us[m] (by rw[Nat.mul_one];exact FA dr);rw[Nat.mul_one] at d7;have bk:t.rows[m]∈t.rows:=FE a4;obtain ⟨r,hr⟩:∃ r,t.rows[m]=r:=⟨_,rfl⟩
  rw[hr] at b9 bk;have cu:=Fx b9;obtain ⟨Ar,cr,hu,eA,c0⟩:=b9;rw[hu] at cu d7;have d8:=av.out.cell_of d7 (by simp);subst dv;have cd:Hid (∀ W,aa [] wr W→Calls Tryz.prog 98 #[.agg #[FM (bs lc),FR FS lk,FR FS ln,FM (bs lw)],FN A t.cols.length c,FN Ar r.length cr] W fun e w'=>e=FP (fV (bB ⟨lc,⟨lk,ln,lw⟩⟩ t.cols r))∧aa [] W w'):=Fx fun W q=>eR ⟨lc,⟨lk,ln,lw⟩⟩ t.cols r A Ar c cr W (HT.out.cols.keep (av.out.trans q)) HT.out.ln (c0.keep (av.out.trans q)) (d1.out r bk)
  have b4:Hid (∀ W,aa [] wr W→Calls Tryz.prog 98 #[.agg #[FM (bs rc),FR FS rk,FR FS rn,FM (bs J)],FN A t.cols.length c,FN Ar r.length cr] W fun e w'=>e=FP (fV (bB ⟨rc,⟨rk,rn,J⟩⟩ t.cols r))∧aa [] W w'):=Fx fun W q=>eR ⟨rc,⟨rk,rn,J⟩⟩ t.cols r A Ar c cr W (HT.out.cols.keep (av.out.trans q)) HT.out.ln (c0.keep (av.out.trans q)) (d0.out r bk)
  have ch:=hP.out r;obtain ⟨X,hX⟩:∃ X,bB ⟨lc,⟨lk,ln,lw⟩⟩ t.cols r=X:=⟨_,rfl⟩
  obtain ⟨Y,hY⟩:∃ Y,bB ⟨rc,⟨rk,rn,J⟩⟩ t.cols r=Y:=⟨_,rfl⟩
  rw[hX,hY] at ch;rw[hX] at cd;rw[hY] at b4;have b8:=Fx (fun W=>qK X op Y W);rw[←ch] at b8;have bq:=d6.out r;clear hX hY ch hu d5 c9 dq cz d7;obtain ⟨xk,xn,xw⟩:=X;obtain ⟨yk,yn,yw⟩:=Y;have HAA':Hid (∀ W,aa [] wr W→Calls Tryz.prog 98 #[.agg #[FM (bs lc),FR FS lk,FR FS ln,FM (bs lw)],FN A t.cols.length c,FN Ar r.length cr] W fun e w'=>e=FP (.agg #[FR FS xk,FR FS xn,FM (bs xw)])∧aa [] W w'):=cd;have HAB':Hid (∀ W,aa [] wr W→Calls Tryz.prog 98 #[.agg #[FM (bs rc),FR FS rk,FR FS rn,FM (bs J)],FN A t.cols.length c,FN Ar r.length cr] W fun e w'=>e=FP (.agg #[FR FS yk,FR FS yn,FM (bs yw)])∧aa [] W w'):=b4;have HHO':Hid (∀ W,aa [] wr W→Calls Tryz.prog 97 #[.agg #[FR FS xk,FR FS xn,FM (bs xw)],FM (bs op),.agg #[FR FS yk,FR FS yn,FM (bs yw)]] W fun e w'=>e=FP (.bool (U r))∧aa [] W w'):=Fx fun W _=>b8.out W
  clear cd b4 b8;have O:=Fx (b5.out.keep HK.out (by simp));have c6:=Fx (bo.out.keep HK.out (by simp));have y5:wr.cell? ⟨bx,5,none⟩=some (FM (bs op)):=O.out.cell 5;have y6:wr.cell? ⟨bx,6,none⟩=some (FM (bs lc)):=O.out.cell 6;have y7:wr.cell? ⟨bx,7,none⟩=some (FR FS lk):=O.out.cell 7;have y8:wr.cell? ⟨bx,8,none⟩=some (FR FS ln):=O.out.cell 8;have y9:wr.cell? ⟨bx,9,none⟩=some (FM (bs lw)):=O.out.cell 9;have eX:wr.cell? ⟨bx,10,none⟩=some (FM (bs rc)):=O.out.cell 10;have es:wr.cell? ⟨bx,11,none⟩=some (FR FS rk):=O.out.cell 11;have en:wr.cell? ⟨bx,12,none⟩=some (FR FS rn):=O.out.cell 12;have eY:wr.cell? ⟨bx,13,none⟩=some (FM (bs J)):=O.out.cell 13;have z0:wr.cell? ⟨bx+1,0,none⟩=some (FN A t.cols.length c):=c6.out.cell 0;have et:bx<wr.heap.size:=O.out.lt;have d9:bx+1<wr.heap.size:=c6.out.lt;have ey:(0:Int)≤(m:Int):=by omega
  have e0:(m:Int)<(t.rows.length:Int):=by omega
  cases br:U r with
  | true =>
   rw[br] at HHO' bq;go_wp2_with fail
   refine ah (by kernel_rfl) (by kernel_rfl) ?_;repeat (go_big_quiet_step (first|with_reducible exact KW.of HAA'.out _|with_reducible exact KW.of HAB'.out _|with_reducible exact KW.of HHO'.out _))
   refine wpQuiet_nil ?_;intro w5 N;obtain ⟨c1,bc,a6,bb⟩:=a2.out;have a1:=Fx (aC a6 N (fun _ _=>by simp));have a8:=Fx bb;have a5:=Fx (a3.out.keep N);have a7:=Fx bc;have d2:w2.heap.size≤w5.heap.size:=FD HK.out.size N.size;have b0:=Fx (HK.out.trans N);have be:=Fx (show ((t.rows.take m).filter U).length≤4294967296 from FD (List.length_filter_le _ _) (by rw[FH];have:=HT.out.lm;omega));have bm:=Fx (di (p:=U) a4);have ca:=Fx (di (p:=aA) a4);obtain ⟨qs,cm⟩:∃ qs,(t.rows.take m).filter U=qs:=⟨_,rfl⟩
   rw[cm] at a1 a8 a7 be bm;have a9:=Fx (show qs.length+1≤maxLen∧(qs.length+1)*24≤140737488355328 by have:=be.out;simp only[maxLen];omega);clear a6 bb bc N;go_wp2_with (at_builtin;(refine wpList_append_lies _ rfl _ _ 52 rfl w2.heap.size 89 ir _ 1 24 Tryz.underlying52 c7 bv bX bz rfl (by decide) _ qs.length c1 rfl (a1.out.alloc _) ⟨w5.heap.size,0,none⟩ 1 1 [FN Ar r.length cr] rfl rfl (FI (heap_alloc_new _ _)) (by simp[Value.oneCell']) (by decide) a9.out.1 a9.out.2 (by simp;omega) _ rfl ?_);intro gw bl w8 M I ad ba)
   have cq:=Fx ((b0.out.alloc (FQ #[FN Ar r.length cr] 89)).grown I (fun g hg=> .inr (a1.out.lt g hg).1));have b1:=Fx (g9 a7.out a8.out cu.out M);have b6:=Fx ((a5.out.keep ((FK [] w5).alloc _)).kept I (lF (dM a0)));have ce:=Fx (gg (n:=qs.length+1) (cap:=bl) a0 ad a5.out (by rw[ap];omega));clear M I ad ba;go_wp2;go_roundw
   case rel=>exact ⟨m+1,_,vn,rfl,rfl,by omega,by go_num,Fx (by rw[bm.out,hr,br,if_pos rfl];exact b1.out),Fx (by rw[ca.out,hr,bq,if_neg (by decide)];exact b6.out),ce.out,cq.out⟩
   case measure=>simp[intOf];omega
  | false =>
   rw[br] at HHO' bq;go_wp2_with fail
   refine ah (by kernel_rfl) (by kernel_rfl) ?_;repeat (go_big_quiet_step (first|with_reducible exact KW.of HAA'.out _|with_reducible exact KW.of HAB'.out _|with_reducible exact KW.of HHO'.out _))
   refine wpQuiet_nil ?_;intro w5 N;obtain ⟨dt,bc,a6,bb⟩:=a3.out;have a1:=Fx (aC a6 N (fun _ _=>by simp));have a8:=Fx bb;have a5:=Fx (a2.out.keep N);have a7:=Fx bc;have d2:w2.heap.size≤w5.heap.size:=FD HK.out.size N.size;have b0:=Fx (HK.out.trans N);have be:=Fx (show ((t.rows.take m).filter aA).length≤4294967296 from FD (List.length_filter_le _ _) (by rw[FH];have:=HT.out.lm;omega));have bm:=Fx (di (p:=aA) a4);have ca:=Fx (di (p:=U) a4);obtain ⟨qs,cm⟩:∃ qs,(t.rows.take m).filter aA=qs:=⟨_,rfl⟩
   rw[cm] at a1 a8 a7 be bm;have a9:=Fx (show qs.length+1≤maxLen∧(qs.length+1)*24≤140737488355328 by have:=be.out;simp only[maxLen];omega);clear a6 bb bc N;go_wp2_with (at_builtin;(refine wpList_append_lies _ rfl _ _ 52 rfl w2.heap.size 89 ir _ 1 24 Tryz.underlying52 c7 bv bX bz rfl (by decide) _ qs.length dt rfl (a1.out.alloc _) ⟨w5.heap.size,0,none⟩ 1 1 [FN Ar r.length cr] rfl rfl (FI (heap_alloc_new _ _)) (by simp[Value.oneCell']) (by decide) a9.out.1 a9.out.2 (by simp;omega) _ rfl ?_);intro gw bl w8 M I ad ba)
   have cq:=Fx ((b0.out.alloc (FQ #[FN Ar r.length cr] 89)).grown I (fun g hg=> .inr (a1.out.lt g hg).1));have b1:=Fx (g9 a7.out a8.out cu.out M);have b6:=Fx ((a5.out.keep ((FK [] w5).alloc _)).kept I (lF (dM bj)));have ce:=Fx (gg (n:=qs.length+1) (cap:=bl) bj ad a5.out (by rw[ap];omega));clear M I ad ba;go_wp2;go_roundw
   case rel=>exact ⟨m+1,vy,_,rfl,rfl,by omega,by go_num,Fx (by rw[ca.out,hr,br,if_neg (by decide)];exact b6.out),Fx (by rw[bm.out,hr,bq,if_pos (by rfl)];exact b1.out),dM ce.out,cq.out⟩
   case measure=>simp[intOf];omega
 have b3:=Fx (a2.out.is av.out);have cv:=Fx (a3.out.is av.out);obtain rfl:m=t.rows.length:=by omega
 rw[List.take_length] at b3 cv;clear a2 a3;obtain ⟨Ay,cy,d3,_,_⟩:=b3.out;obtain ⟨An,cn,d4,_,_⟩:=cv.out;subst d3 d4;have bZ:([t.rows.filter U,t.rows.filter aA].take no).length=no:=by rw[FH];show min no 2=no;omega
 have ev:=qL (some ⟨wr.heap.size,0,none⟩) 2 2 no cg;have dB:=Fx (tT b3.out cv.out no cg 52);go_wp2;go_ret2;exact ⟨⟨some ⟨wr.heap.size,0,none⟩,2,by rw[bZ];rfl,by rw[bZ];exact cg,dB.out⟩,av.out.alloc _⟩
end
section
open Go.RowKit
theorem gh {t:Tb} (h:ak t=true):∀ r∈t.rows,r.length=t.cols.length:=fun r D=>by
 have:=(aG.1 h).2.2 r D;unfold fv at this;simp only[Bool.and_eq_true,decide_eq_true_eq] at this;exact this.1
theorem tU {l:List Cl} {nm:Bs} {k:Nat} (h:an l nm=some k):k<l.length:=(List.findIdx?_eq_some_iff_getElem.1 h).1
theorem AU {t:Tb} (h:ak t=true) {k:Nat} (D:k<t.cols.length):(t.cols.getD k zC).kind=1∨(t.cols.getD k zC).kind=2:=by
 rw[FJ,FA D];exact (si (aG.1 h).1 D).2
theorem pd {a:Ar} {t:Tb} {k:Nat} (D:ak t=true) (h:an t.cols a.col=some k):∀ r∈t.rows,fQ a t.cols r:=fun r I=> .inr ⟨k,h,by rw[gh D r I];exact tU h⟩
theorem kK {a:Ar} {t:Tb} (J:ak t=true) (D:dU a t.cols≠0):∀ r∈t.rows,fQ a t.cols r:=fun r M=>by
 by_cases I:a.col=[]
 ·exact .inl I
 unfold dU at D;rw[if_neg I] at D
 cases h:an t.cols a.col with
 | none=>rw[h] at D;exact absurd rfl D
 | some k=>exact pd J h r M
theorem eE.first {w:World} {A:Option Addr} {U:List Tb} {t:Tb} {k:Nat} (h:eE w A U) (hk:k<U.length) (ht:U[k]=t) (I:AI t):∃ b o A1 J M c2,A=some ⟨b,o,none⟩∧w.cell? ⟨b,o+k*2,none⟩=some (FN A1 t.cols.length J)∧w.cell? ⟨b,o+k*2+1,none⟩=some (FN M t.rows.length c2)∧aZ w t A1 M J c2:=by
 obtain ⟨us,ad,N,O⟩:=h;obtain ⟨b,o,hA,_,_,D⟩:=N.open' (by omega) (by omega);have Z:=D _ _ (lz us k (by omega)).1;have d1:=D _ _ (lz us k (by omega)).2;obtain ⟨⟨A1,J,e1,h1,h2⟩,⟨M,c2,e2,h3,h4⟩⟩:=O k (by omega) hk;rw[ht] at e1 h1 h2 e2 h3 h4;rw[e1] at Z;rw[e2,←Nat.add_assoc] at d1;exact ⟨b,o,A1,J,M,c2,hA,Z,d1,⟨h2,h1,h4,h3,I.names,I.ln,I.lm,I.lr⟩⟩
theorem eE.heads {w:World} {A:Option Addr} {I:List Tb} (h:eE w A I) (i:Nat) (N:i<I.length):∃ u,gA w u I[i].cols:=by
 obtain ⟨us,M,J,D⟩:=h;exact ⟨_,(D i (by omega) N).1⟩
theorem yL {j:Jb} {a:List Cl} {out:List (List Cl)} (h:aX j a= .ok out):∃ k,an a j.left.col=some k∧dU j.right a=(a.getD k zC).kind:=by
 unfold aX at h;split at h
 ·cases h
 cases D:an a j.left.col with
 | none=>rw[D] at h;cases h
 | some k =>
  rw[D] at h;simp only at h;split at h
  ·cases h
  rename_i I;exact ⟨k,rfl,Decidable.not_not.1 I⟩
theorem pf {j:Jb} {ins:List (List Cl)} {out:List (List Cl)} (h:aL j ins= .ok out):ins.length=(au j.code).1:=by
 unfold aL at h;split at h
 ·cases h
 rename_i D;simp only[not_or,Decidable.not_not] at D;exact D.2.1
theorem Ej (j:Jb) (D:j.code=1∨j.code=9) (N:Option Addr) (U:Nat) (Ai:Option Addr) (ni ci:Nat) (Z:Option Addr) (cc:Nat) (ins:List Tb) (AT:Option Addr) (ct:Nat) (w:World) (hE:mf w) (hJ:gT w j N U Z cc) (hI:eE w AT ins) (hB:∀ t∈ins,AI t) (hl:ins.length≤4294967296) :
  Calls Tryz.prog 24 #[eM j N U Ai ni ci Z cc,FN AT ins.length ct] w fun e w'=>qE (j5 j ins) e w'∧aa [] w w':=by
 refine rS j N U Ai ni ci Z cc ins AT ct w hI hB hl (fun W q AH ch hH=>?_) (fun out hr O W q OA od=>?_)
 ·refine ot j N U Ai ni ci Z cc (ins.map (·.cols)) AH ch W (hE.quiet q).c (hJ.quiet q) hH (fun l hm=>?_) (by omega) (fun h=>by omega)
  obtain ⟨t,ht,rfl⟩:=List.mem_map.1 hm;exact (hB t ht).ln
 have h1:ins.length=1:=by
  have:=pf O;rw[List.length_map] at this;rw[this];rcases D with h|h<;>rw[h]<;>rfl
 have a1:=lA O;have J:out.length≤2:=by rw[a1];split<;>omega
 obtain ⟨t,rfl⟩:∃ t,ins=[t]:=by
  match ins,h1 with
  | [t],_=>exact ⟨t,rfl⟩
 have M:ak t=true:=hr t (by simp);have a4:aX j t.cols= .ok out:=by
  unfold aL at O;split at O
  ·cases O
  exact O
 obtain ⟨k,hk,a2⟩:=yL a4;have a0:=pd (a:=j.left) M hk;have ad:=kK (a:=j.right) M (by
  rw[a2];rcases AU M (tU hk) with h|h<;>rw[h]<;>decide)
 obtain ⟨b,o,A1,c1,A2,c2,rfl,d0,d1,hT⟩:=(hI.keep q).first (k:=0) (by simp) rfl (hB t (by simp));rw[Nat.zero_mul,Nat.add_zero] at d0 d1;have a3:bp j [t] out= .ok ([t.rows.filter (da j t),t.rows.filter fun r=> !da j t r].take out.length):=by
  rw[gM (by omega) (by omega) (by omega)];unfold eW;rw[if_pos D];rfl
 rw[a3];obtain ⟨av,code,outs,js,cols,op,⟨lc,lk,ln,lw⟩,⟨rc,rk,rn,aA⟩,I⟩:=j;rcases D with rfl|rfl
 ·exact Eh t out.length J OA od b o 1 ct A1 A2 c1 c2 (by omega) av I lk ln rk rn outs js cols op lc lw rc aA N U Ai ni ci Z cc W d0 d1 hT a0 ad
 exact Ei t out.length J OA od b o 1 ct A1 A2 c1 c2 (by omega) av I lk ln rk rn outs js cols op lc lw rc aA N U Ai ni ci Z cc W d0 d1 hT a0 ad
end
section
def Mt (m:List Tk) (l:List Pc):Prop:=m.map kt=l.map Prod.fst
theorem Mt.nil {m:List Tk} (h:Mt m []):m=[]:=by
 unfold Mt at h;simpa using h
theorem Mt.cons {m:List Tk} {p:Pc} {l:List Pc} (h:Mt m (p::l)):∃ t r,m=t::r∧kt t=p.1∧Mt r l:=by
 unfold Mt at h
 cases m with
 | nil=>cases h
 | cons t r =>
  injection h with D I;exact ⟨t,r,rfl,D,I⟩
theorem Fq:(2:Int)≠5:=by decide
def Ft (t:Tk):Prop:=BK t∧(t.kind=1→t.text≠[]∧jS (t.text.headD 0)=true∧∀ c∈t.text,sB c=true)
def fR (n:Nat) (l r:List Tk):Prop:=(∀ t∈r,t∈l)∧n+r.length≤l.length∧(i7 l→i7 r)
theorem fR.refl (l:List Tk):fR 0 l l:=⟨fun _ h=>h,by omega,fun h=>h⟩
theorem fR.trans {n m k:Nat} {l r q:List Tk} (h:fR n l r) (g:fR m r q) (I:k≤n+m):fR k l q:=⟨fun t D=>h.1 t (g.1 t D),by have:=h.2.1;have:=g.2.1;omega,fun e=>g.2.2 (h.2.2 e)⟩
theorem fR.tail {l:List Tk} (h:(aS l).kind≠5):fR 1 l l.tail:=by
 cases l with
 | nil=>exact absurd rfl h
 | cons t l=>exact ⟨fun u D=>List.mem_cons_of_mem _ D,by simp;omega,fun e=>e.tail h⟩
def eQ (l:List Tk):Prop:=∀ t∈l,Ft t
theorem eQ.sub {n:Nat} {l r:List Tk} (h:eQ l) (g:fR n l r):eQ r:=fun t D=>h t (g.1 t D)
theorem eQ.hd {l:List Tk} (h:eQ l) (D:(aS l).kind≠5):Ft (aS l):=by
 cases l with
 | nil=>exact absurd rfl D
 | cons t l=>exact h t (by simp)
theorem dT {l r:List Tk} {s:Bs} (M:eQ l) (h:aQ l= .ok (s,r)):bN s∧fR 1 l r:=by
 obtain ⟨I,Z,rfl,rfl⟩:=i8 h;have D:(aS l).kind≠5:=by rw[I];decide
 obtain ⟨_,N⟩:=M.hd D;obtain ⟨J,U,O⟩:=N I;exact ⟨⟨J,Z,U,O⟩,fR.tail D⟩
theorem dN {l r:List Tk} {s:Bs} (h:aR s l= .ok r):fR 1 l r:=by
 obtain ⟨D,rfl⟩:=nM h;exact fR.tail (ec D)
theorem wJ {l r:List Tk} {s:Bs} {ms:List Bs} (h:iu ms l= .ok (s,r)):s∈ms∧fR 1 l r:=by
 obtain ⟨k,_,D,rfl,I,rfl⟩:=nh h;exact ⟨FE D,fR.tail (ec I)⟩
theorem qS:∀ (n:Nat) {l r:List Tk} {acc ns:List Bs},eQ l→dW n l acc= .ok (ns,r)→∃ J,ns=acc++J∧(∀ s∈J,bN s)∧fR (2*J.length) l r
 | 0,l,r,acc,ns,O,h=>by
  injection h with h;injection h with D N;subst D N;exact ⟨[],by simp,(fun s I=>by cases I),fR.refl _⟩
 | n+1,l,r,acc,ns,O,h=>by
  unfold dW at h;split at h
  ·rename_i I
   have U:=fR.tail (ec I);obtain ⟨⟨s,r1⟩,D,h⟩:=aj h;dsimp only at h D
   obtain ⟨hw,Z⟩:=dT (O.sub U) D;obtain ⟨J,rfl,hy,s3⟩:=qS n ((O.sub U).sub Z) h;exact ⟨s::J,by simp,fun u M=>by rcases List.mem_cons.1 M with rfl|M;exact hw;exact hy u M,(U.trans Z (Fy _)).trans s3 (by simp;omega)⟩
  injection h with h;injection h with D N;subst D N;exact ⟨[],by simp,(fun s I=>by cases I),fR.refl _⟩
theorem mO (e:Bs):∀ l:List Bs,l≠[]→(fC l e).length+1=2*l.length
 | [],h=>absurd rfl h
 | [a],_=>rfl
 | a::b::l,_=>by
  have:=mO e (b::l) (by simp);show (((1,a),[])::((4,[44]),[32])::fC (b::l) e:List Pc).length+1=_;simp only[FG] at this ⊢;omega
theorem pu:∀ l:List Cl,l≠[]→(pt l).length+1=3*l.length
 | [],h=>absurd rfl h
 | [a],_=>rfl
 | a::b::l,_=>by
  have:=pu (b::l) (by simp);show (((1,a.name),[32])::((1,eT a.kind.toNat),[])::((4,[44]),[32])::pt (b::l):List Pc).length+1=_;simp only[FG] at this ⊢;omega
theorem wK {l r:List Tk} {ns:List Bs} (J:eQ l) (hl:l.length≤1000) (h:fk l= .ok (ns,r)):ru ns∧∀ e,fR (fC ns e).length l r:=by
 unfold fk at h;obtain ⟨⟨s,r1⟩,M,h⟩:=aj h;dsimp only at h M
 obtain ⟨O,N⟩:=dT J M;obtain ⟨Z,rfl,U,s2⟩:=qS _ (J.sub N) h;have I:=N.trans s2 (Fy _);refine ⟨⟨by simp,by have:=I.2.1;simp;omega,fun u D=>?_⟩,fun e=>⟨I.1,?_,I.2.2⟩⟩
 ·rcases List.mem_append.1 D with D|D
  ·rw[List.mem_singleton.1 D];exact O
  exact U u D
 have:=mO e ([s]++Z) (by simp);have:=I.2.1;simp only[Fz,FG,List.length_nil] at *;omega
theorem uc:∀ (n:Nat) {l r:List Tk} {acc cs:List Cl},eQ l→dH n l acc= .ok (cs,r)→l.length≤n→0<l.length→∃ I,cs=acc++I∧I≠[]∧(∀ c∈I,bN c.name∧(c.kind=1∨c.kind=2))∧fR (3*I.length-1) l r
 | 0,l,r,acc,cs,_,_,Z,N=>by omega
 | n+1,l,r,acc,cs,hn,h,hl,_=>by
  rw[fd] at h;obtain ⟨⟨s,r1⟩,Z,h⟩:=aj h;obtain ⟨⟨k,r2⟩,N,h⟩:=aj h;dsimp only at h N
  obtain ⟨hw,s1⟩:=dT hn Z;obtain ⟨hk,s2⟩:=wJ N;have ad:=(hn.sub s1).sub s2;have J:=s1.trans s2 (Fy _);have O:∀ k:Bs,(if k=[116,101,120,116] then (2:Int) else 1)=1∨(if k=[116,101,120,116] then (2:Int) else 1)=2:=fun k=>by split;exact .inr rfl;exact .inl rfl
  split at h
  ·rename_i hs
   have s3:=fR.tail (ec hs);have D:=J.trans s3 (Fy _);have U:0<r2.tail.length∨r2.tail=[]:=by cases r2.tail with|nil=>exact .inr rfl|cons _ _=>exact .inl (by simp)
   rcases U with U|U
   ·obtain ⟨I,rfl,_,hy,s4⟩:=uc n (ad.sub s3) h (by have:=D.2.1;omega) U
    exact ⟨⟨s,if k=[116,101,120,116] then 2 else 1⟩::I,by simp,by simp,fun u M=>by rcases List.mem_cons.1 M with rfl|M;exact ⟨hw,O k⟩;exact hy u M,D.trans s4 (by simp;omega)⟩
   rw[U] at h
   cases n with
   | zero=>have:=D.2.1;omega
   | succ n =>
    rw[fd] at h;cases h
  injection h with h;injection h with Z N;subst Z N;exact ⟨[⟨s,if k=[116,101,120,116] then 2 else 1⟩],rfl,by simp,fun u M=>by rw[List.mem_singleton.1 M];exact ⟨hw,O k⟩,J⟩
theorem wL {r q:List Tk} {v u:Vl} (D:(aS r).kind≠5) (h:kr r v= .ok (u,q)):u=v∧eS v=true∧fR 1 r q:=by
 unfold kr at h;split at h
 ·rename_i I
  injection h with h;injection h with J M;subst J M;exact ⟨rfl,I,fR.tail D⟩
 cases h
theorem jN (v:Vl) (e:Bs):(ub v e).length≤2∧(0≤v.num∨v.kind≠1→(ub v e).length=1):=by
 unfold ub;split
 ·rename_i D
  split
  ·rename_i I
   exact ⟨by simp,fun h=>by rcases h with h|h;omega;exact absurd D h⟩
  exact ⟨by simp,fun _=>rfl⟩
 exact ⟨by simp,fun _=>rfl⟩
theorem CH {l r:List Tk} {v:Vl} (U:eQ l) (h:iq l= .ok (v,r)):eS v=true∧∀ e,fR (ub v e).length l r:=by
 unfold iq at h;split at h
 ·rename_i O
  have N:=fR.tail (ec O);unfold eZ at h;split at h
  ·cases h
  split at h
  ·rename_i D
   obtain ⟨rfl,I,J⟩:=wL (by rw[D];decide) h;exact ⟨I,fun e=>N.trans J (jN _ e).1⟩
  split at h
  ·rename_i D
   split at h
   ·obtain ⟨rfl,I,J⟩:=wL (by rw[D];decide) h
    exact ⟨I,fun e=>N.trans J (jN _ e).1⟩
   cases h
  cases h
 unfold eZ at h;split at h
 ·cases h
 split at h
 ·rename_i D
  obtain ⟨rfl,I,J⟩:=wL (by rw[D];decide) h;exact ⟨I,fun e=>by rw[(jN _ e).2 (.inr (show (2:Int)≠1 by decide))];exact J⟩
 split at h
 ·rename_i D
  split at h
  ·rename_i n Z
   have M:(aS l).kind≠5:=by rw[D];decide
   obtain ⟨rfl,I,J⟩:=wL M h;have hp:=jd Z ((U.hd M).1.2.1 D);exact ⟨I,fun e=>by rw[(jN _ e).2 (.inl (by simpa using hp.1))];exact J⟩
  cases h
 cases h
theorem Bn {l r:List Tk} {a:Ar} (O:eQ l) (h:lN l= .ok (a,r)):sK a∧∀ e,fR (ij a e).length l r:=by
 unfold lN at h;split at h
 ·obtain ⟨⟨s,Z⟩,J,h⟩:=aj h
  injection h with h;injection h with M D;subst M D;obtain ⟨N,I⟩:=dT O J;exact ⟨.inl ⟨N,rfl⟩,fun e=>by unfold ij;rw[if_neg N.ne];exact I⟩
 obtain ⟨⟨v,Z⟩,J,h⟩:=aj h;injection h with h;injection h with M D;subst M D;obtain ⟨U,I⟩:=CH O J;exact ⟨.inr ⟨rfl,U⟩,fun e=>by unfold ij;rw[if_pos rfl];exact I e⟩
theorem ER {l r:List Tk} {x:Pb} (D:eQ l) (h:mZ l= .ok (x,r)):DD x∧fR (Bg x).length l r:=by
 unfold mZ at h;obtain ⟨q1,g1,h⟩:=aj h;try dsimp only at h
 have U:=dN g1;have D:=D.sub U;have S:=U;obtain ⟨⟨a2,q2⟩,O,h⟩:=aj h;try dsimp only at h O
 obtain ⟨w2,Z⟩:=dT D O;have D:=D.sub Z;have S:=S.trans Z (Fy _);obtain ⟨q3,g3,h⟩:=aj h;try dsimp only at h
 have I:=dN g3;have D:=D.sub I;have S:=S.trans I (Fy _);obtain ⟨⟨a4,q4⟩,N,h⟩:=aj h;try dsimp only at h N
 obtain ⟨w4,J⟩:=dT D N;have D:=D.sub J;have S:=S.trans J (Fy _);obtain ⟨q5,g5,h⟩:=aj h;try dsimp only at h
 have M:=dN g5;have D:=D.sub M;have S:=S.trans M (Fy _);injection h with h;injection h with h1 h2;subst h1 h2;exact ⟨⟨w2,w4⟩,S⟩
theorem Ff {l r:List Tk} {x:In} (D:eQ l) (hl:l.length≤1000) (he:i7 l) (h:eI l= .ok (x,r)):Fb x∧fR (Ep x).length l r:=by
 unfold eI at h;obtain ⟨q1,g1,h⟩:=aj h;try dsimp only at h
 have s1:=dN g1;have D:=D.sub s1;have S:=s1;obtain ⟨⟨a2,q2⟩,g2,h⟩:=aj h;try dsimp only at h g2
 obtain ⟨w2,s2⟩:=dT D g2;have D:=D.sub s2;have S:=S.trans s2 (Fy _);obtain ⟨q3,g3,h⟩:=aj h;try dsimp only at h
 have M:=dN g3;have D:=D.sub M;have S:=S.trans M (Fy _);obtain ⟨⟨J,q4⟩,Z,h⟩:=aj h;try dsimp only at h Z
 obtain ⟨ys,N,I,w4,O⟩:=uc _ D Z (Fy _) (S.2.2 he).pos;have D:=D.sub O;have S:=S.trans O (Fy _);obtain ⟨q5,g5,h⟩:=aj h;try dsimp only at h
 have U:=dN g5;have D:=D.sub U;have S:=S.trans U (Fy _);injection h with h;injection h with h1 h2;subst h1 h2;rw[List.nil_append] at N;subst N;have ad:=pu J I;have hS:=S.2.1;refine ⟨⟨w2,I,by show J.length≤1000;omega,w4⟩,S.1,?_,S.2.2⟩;show (((1,[105,110]),[32])::((1,a2),[])::((4,[58]),[32])::(pt J++[((4,[59]),[10])]):List Pc).length+_≤_;simp only[FG,Fz,List.length_nil];omega
theorem CI {l r:List Tk} {n:Int} (Z:eQ l) (h:dZ l= .ok (n,r)):(0≤n∧n≤5)∧fR (rU n).length l r:=by
 unfold dZ at h;split at h
 ·rename_i U
  have N:=fR.tail (ec U);split at h
  ·cases h
  rename_i O;have D:(aS l.tail).kind=2:=by
   by_cases e:(aS l.tail).kind=2
   ·exact e
   exact absurd e O
  have I:(aS l.tail).kind≠5:=by rw[D];decide
  split at h
  ·rename_i n' ha
   have hp:=jd ha (((Z.sub N).hd I).1.2.1 D);split at h
   ·cases h
   injection h with h;injection h with J M;subst J M;refine ⟨⟨hp.1,by omega⟩,N.trans (fR.tail I) ?_⟩;unfold rU;split
   ·exact Fy _
   exact FF _
  cases h
 injection h with h;injection h with J M;subst J M;exact ⟨⟨Int.le_refl _,by decide⟩,fR.refl _⟩
theorem ES {l r:List Tk} {j J:Jb} (D:eQ l) (h:xz j l= .ok (J,r)):(∃ a c,bN a∧bN c∧J={ j with ins:=j.ins++[a],cols:=j.cols++[c] })∧fR 3 l r:=by
 unfold xz at h;obtain ⟨⟨a1,q1⟩,M,h⟩:=aj h;try dsimp only at h M
 obtain ⟨w1,O⟩:=dT D M;have D:=D.sub O;have S:=O;obtain ⟨q2,g2,h⟩:=aj h;try dsimp only at h
 have U:=dN g2;have D:=D.sub U;have S:=S.trans U (Fy _);obtain ⟨⟨a3,q3⟩,N,h⟩:=aj h;try dsimp only at h N
 obtain ⟨w3,I⟩:=dT D N;have D:=D.sub I;have S:=S.trans I (Fy _);injection h with h;injection h with h1 Z;subst h1 Z;exact ⟨⟨a1,a3,w1,w3,rfl⟩,S⟩
theorem Et {l r:List Tk} {j D:Jb} (I:eQ l) (h:nL j l= .ok (D,r)):(∃ a c b d,bN a∧bN b∧bN c∧bN d∧D={ j with ins:=j.ins++[a]++[b],cols:=j.cols++[c]++[d] })∧fR 7 l r:=by
 unfold nL at h;obtain ⟨⟨j1,r1⟩,J,h⟩:=aj h;dsimp only at h J
 obtain ⟨⟨a,c,ha,Z,rfl⟩,M⟩:=ES I J;obtain ⟨r2,h2,h⟩:=aj h;have N:=dN h2;obtain ⟨⟨b,d,U,hd,rfl⟩,O⟩:=ES ((I.sub M).sub N) h;exact ⟨⟨a,c,b,d,ha,U,Z,hd,rfl⟩,(M.trans N (Fy _)).trans O (by omega)⟩
theorem CK {l r:List Tk} {j J:Jb} (D:eQ l) (h:ku j l= .ok (J,r)):(∃ a b,bN a∧bN b∧J={ j with ins:=j.ins++[a]++[b] })∧fR 3 l r:=by
 unfold ku at h;obtain ⟨⟨a1,q1⟩,M,h⟩:=aj h;try dsimp only at h M
 obtain ⟨w1,O⟩:=dT D M;have D:=D.sub O;have S:=O;obtain ⟨q2,g2,h⟩:=aj h;try dsimp only at h
 have U:=dN g2;have D:=D.sub U;have S:=S.trans U (Fy _);obtain ⟨⟨a3,q3⟩,N,h⟩:=aj h;try dsimp only at h N
 obtain ⟨w3,I⟩:=dT D N;have D:=D.sub I;have S:=S.trans I (Fy _);injection h with h;injection h with h1 Z;subst h1 Z;exact ⟨⟨a1,a3,w1,w3,rfl⟩,S⟩
theorem wM {l r:List Tk} {j M:Jb} (D:eQ l) (h:em j l= .ok (M,r)):(∃ s o a,bN s∧o∈xy∧sK a∧M={ j with left:=⟨s,zV⟩,op:=o,right:=a }∧fR (3+(ij a []).length) l r):=by
 unfold em at h;obtain ⟨q1,g1,h⟩:=aj h;try dsimp only at h
 have Z:=dN g1;have D:=D.sub Z;have S:=Z;obtain ⟨⟨a2,q2⟩,U,h⟩:=aj h;try dsimp only at h U
 obtain ⟨w2,s2⟩:=dT D U;have D:=D.sub s2;have S:=S.trans s2 (Fy _);obtain ⟨⟨a3,q3⟩,O,h⟩:=aj h;try dsimp only at h O
 obtain ⟨w3,J⟩:=wJ O;have D:=D.sub J;have S:=S.trans J (Fy _);obtain ⟨⟨a4,q4⟩,N,h⟩:=aj h;try dsimp only at h N
 obtain ⟨w4,I⟩:=Bn D N;have I:=I [];have D:=D.sub I;have S:=S.trans I (Fy _);injection h with h;injection h with h1 h2;subst h1 h2;exact ⟨a2,a3,a4,w2,w3,w4,rfl,S⟩
theorem ET {l r:List Tk} {j O:Jb} (D:eQ l) (h:sC j l= .ok (O,r)):(∃ c a o b,bN c∧sK a∧o∈[[43],[45],[42]]∧sK b∧O={ j with cols:=[c],left:=a,op:=o,right:=b }∧fR (3+(ij a [32]).length+1+(ij b []).length) l r):=by
 unfold sC at h;obtain ⟨q1,g1,h⟩:=aj h;try dsimp only at h
 have s1:=dN g1;have D:=D.sub s1;have S:=s1;obtain ⟨⟨a2,q2⟩,g2,h⟩:=aj h;try dsimp only at h g2
 obtain ⟨w2,s2⟩:=dT D g2;have D:=D.sub s2;have S:=S.trans s2 (Fy _);obtain ⟨q3,g3,h⟩:=aj h;try dsimp only at h
 have N:=dN g3;have D:=D.sub N;have S:=S.trans N (Fy _);obtain ⟨⟨a4,q4⟩,Z,h⟩:=aj h;try dsimp only at h Z
 obtain ⟨w4,I⟩:=Bn D Z;have I:=I [32];have D:=D.sub I;have S:=S.trans I (Fy _);obtain ⟨⟨a5,q5⟩,M,h⟩:=aj h;try dsimp only at h M
 obtain ⟨w5,U⟩:=wJ M;have D:=D.sub U;have S:=S.trans U (Fy _);obtain ⟨⟨a6,q6⟩,g6,h⟩:=aj h;try dsimp only at h g6
 obtain ⟨w6,J⟩:=Bn D g6;have J:=J [];have D:=D.sub J;have S:=S.trans J (Fy _);injection h with h;injection h with h1 h2;subst h1 h2;exact ⟨a2,a4,a5,a6,w2,w4,w5,w6,rfl,S⟩
theorem EU {l r:List Tk} {j J:Jb} (D:eQ l) (hl:l.length≤1000) (h:zJ j l= .ok (J,r)):(∃ ns,ru ns∧J={ j with cols:=ns }∧fR (1+(fC ns []).length) l r):=by
 unfold zJ at h;obtain ⟨q1,g1,h⟩:=aj h;try dsimp only at h
 have N:=dN g1;have D:=D.sub N;have S:=N;obtain ⟨⟨Z,q2⟩,M,h⟩:=aj h;try dsimp only at h M
 obtain ⟨O,I⟩:=wK D (by have:=S.2.1;omega) M;have I:=I [];have D:=D.sub I;have S:=S.trans I (Fy _);injection h with h;injection h with h1 U;subst h1 U;exact ⟨Z,O,rfl,S⟩
theorem CL {l r:List Tk} {j J:Jb} (D:eQ l) (h:i6 j l= .ok (J,r)):(∃ c o d,bN c∧bN d∧o∈[[115,117,109],[109,97,120]]∧J={ j with cols:=[c,d],op:=o }∧fR 4 l r):=by
 unfold i6 at h;obtain ⟨q1,g1,h⟩:=aj h;try dsimp only at h
 have Z:=dN g1;have D:=D.sub Z;have S:=Z;obtain ⟨⟨a2,q2⟩,U,h⟩:=aj h;try dsimp only at h U
 obtain ⟨w2,s2⟩:=dT D U;have D:=D.sub s2;have S:=S.trans s2 (Fy _);obtain ⟨⟨a3,q3⟩,O,h⟩:=aj h;try dsimp only at h O
 obtain ⟨w3,I⟩:=wJ O;have D:=D.sub I;have S:=S.trans I (Fy _);obtain ⟨⟨a4,q4⟩,N,h⟩:=aj h;try dsimp only at h N
 obtain ⟨w4,M⟩:=dT D N;have D:=D.sub M;have S:=S.trans M (Fy _);injection h with h;injection h with h1 h2;subst h1 h2;exact ⟨a2,a3,a4,w2,w4,w3,rfl,S⟩
theorem wN:∀ o∈xy,o.length≤10:=by decide
theorem CM:∀ o∈([[43],[45],[42]]:List Bs),o.length≤10:=by decide
theorem CN:∀ o∈([[115,117,109],[109,97,120]]:List Bs),o.length≤10:=by decide
theorem Eu {l r:List Tk} {ad:Int} {outs:List Bs} {rt:Int} {j:Jb} (hn:eQ l) (hl:l.length≤1000) (h:bH (BX ad outs rt) l= .ok (j,r)):(j.outs=outs∧j.retry=rt∧zR j.left∧zR j.right∧j.op.length≤10∧C9 j)∧fR (Bh j).length l r:=by
 unfold bH at h;split at h
 ·cases h
 rename_i h0;have hk:(aS l).kind≠5:=by
  intro e;exact h0 (.inr (by rw[e];decide))
 have s0:=fR.tail hk;have U:=hn.sub s0;have a1:l.tail.length≤1000:=by have:=s0.2.1;omega
 have z:zR ⟨[],zV⟩:= .inl rfl;have aA:¬bV (aS l).text=0:=fun e=>h0 (.inl e)
 have a0:=qg (aS l).text;generalize bV (aS l).text=c at h aA a0;clear h0;split at h
 ·rename_i e
  subst e;obtain ⟨⟨a,c,b,d,M,J,hc,hd,rfl⟩,Z⟩:=Et U h;exact ⟨⟨rfl,rfl,z,z,FF 10,.inl ⟨rfl,a,b,c,d,M,J,hc,hd,rfl,rfl⟩⟩,s0.trans Z (Fy _)⟩
 split at h
 ·rename_i e
  subst e;obtain ⟨⟨a,b,M,J,rfl⟩,Z⟩:=CK U h;exact ⟨⟨rfl,rfl,z,z,FF 10,.inr (.inl ⟨rfl,a,b,M,J,rfl,rfl⟩)⟩,s0.trans Z (Fy _)⟩
 obtain ⟨⟨a,q⟩,h1,h⟩:=aj h;dsimp only at h h1
 obtain ⟨M,Z⟩:=dT U h1;have I:=U.sub Z;have av:q.length≤1000:=by have:=Z.2.1;omega
 have D:=s0.trans Z (Fy _);rename_i n7 n5;obtain rfl|rfl|rfl|rfl|rfl|rfl|rfl:c=1∨c=2∨c=3∨c=4∨c=6∨c=8∨c=9:=by omega
 ·obtain ⟨s,o,b,hs,N,J,rfl,O⟩:=wM I (show em _ q=_ from h)
  exact ⟨⟨rfl,rfl,.inr (.inl ⟨hs,rfl⟩),.inr J,wN o N,.inr (.inr (.inr (.inl ⟨.inl rfl,a,s,M,hs,rfl,rfl,rfl,N,J⟩)))⟩,D.trans O (by
   show (((1,iZ 1),[32])::((1,a),[32])::((1,[119,104,101,114,101]),[32])::((1,s),[32])::((4,o),[32])::ij b []:List Pc).length≤_;simp only[FG];omega)⟩
 ·obtain ⟨c,x,o,b,hc,hx,N,J,rfl,O⟩:=ET I (show sC _ q=_ from h)
  exact ⟨⟨rfl,rfl,.inr hx,.inr J,CM o N,.inr (.inr (.inr (.inr (.inl ⟨rfl,a,c,M,hc,rfl,rfl,hx,N,J⟩))))⟩,D.trans O (by
   show (((1,iZ 2),[32])::((1,a),[])::((4,[58]),[32])::((1,c),[32])::((4,[61]),[32])::(ij x [32]++((4,o),[32])::ij b []):List Pc).length≤_;simp only[FG,Fz];omega)⟩
 ·obtain ⟨ns,hw,rfl,O⟩:=EU I av (show zJ _ q=_ from h)
  exact ⟨⟨rfl,rfl,z,z,FF 10,.inr (.inr (.inr (.inr (.inr (.inl ⟨.inl rfl,a,M,rfl,hw⟩)))))⟩,D.trans O (by
   show (((1,iZ 3),[32])::((1,a),[32])::((1,[98,121]),[32])::fC ns []:List Pc).length≤_;simp only[FG];omega)⟩
 ·obtain ⟨ns,hw,rfl,O⟩:=EU I av (show zJ _ q=_ from h)
  exact ⟨⟨rfl,rfl,z,z,FF 10,.inr (.inr (.inr (.inr (.inr (.inl ⟨.inr rfl,a,M,rfl,hw⟩)))))⟩,D.trans O (by
   show (((1,iZ 4),[32])::((1,a),[32])::((1,[98,121]),[32])::fC ns []:List Pc).length≤_;simp only[FG];omega)⟩
 ·have h':(Except.ok (⟨ad,6,outs,[]++[a],[],[],⟨[],zV⟩,⟨[],zV⟩,rt⟩,q):Except (Int×Int) (Jb×List Tk))= .ok (j,r):=h
  injection h' with h';injection h' with h2 h3;subst h2 h3;exact ⟨⟨rfl,rfl,z,z,FF 10,.inr (.inr (.inl ⟨rfl,a,M,rfl,rfl⟩))⟩,D⟩
 ·obtain ⟨c,o,d,hc,hd,N,rfl,O⟩:=CL I (show i6 _ q=_ from h)
  exact ⟨⟨rfl,rfl,z,z,CN o N,.inr (.inr (.inr (.inr (.inr (.inr ⟨rfl,a,c,d,M,hc,hd,rfl,rfl,N⟩)))))⟩,D.trans O (by
   show (((1,iZ 8),[32])::((1,a),[32])::((1,[98,121]),[32])::((1,c),[32])::((1,o),[32])::((1,d),[])::[]:List Pc).length≤_;simp only[FG,List.length_nil];omega)⟩
 obtain ⟨s,o,b,hs,N,J,rfl,O⟩:=wM I (show em _ q=_ from h);exact ⟨⟨rfl,rfl,.inr (.inl ⟨hs,rfl⟩),.inr J,wN o N,.inr (.inr (.inr (.inl ⟨.inr rfl,a,s,M,hs,rfl,rfl,rfl,N,J⟩)))⟩,D.trans O (by
  show (((1,iZ 9),[32])::((1,a),[32])::((1,[119,104,101,114,101]),[32])::((1,s),[32])::((4,o),[32])::ij b []:List Pc).length≤_;simp only[FG];omega)⟩
theorem EV {l r:List Tk} {x:Jb} (D:eQ l) (hl:l.length≤1000) (h:kV l= .ok (x,r)):rx x∧fR (wI x).length l r:=by
 unfold kV at h;obtain ⟨q1,g1,h⟩:=aj h;have M:=dN g1;have D:=D.sub M;obtain ⟨⟨os,q2⟩,g2,h⟩:=aj h;dsimp only at h g2
 obtain ⟨w2,I⟩:=wK D (by have:=M.2.1;omega) g2;have I:=I [32];have D:=D.sub I;have S:=M.trans I (Fy _);obtain ⟨⟨n,q3⟩,g3,h⟩:=aj h;dsimp only at h g3
 obtain ⟨U,O⟩:=CI D g3;have D:=D.sub O;have S:=S.trans O (Fy _);obtain ⟨q4,g4,h⟩:=aj h;have Z:=dN g4;have D:=D.sub Z;have S:=S.trans Z (Fy _);obtain ⟨⟨j,q5⟩,N,h⟩:=aj h;dsimp only at h N
 obtain ⟨⟨o1,J,o3,o4,o5,o6⟩,s5⟩:=Eu D (by have:=S.2.1;omega) N;have S:=S.trans s5 (Fy _);obtain ⟨q6,g6,h⟩:=aj h;have s6:=dN g6;have S:=S.trans s6 (Fy _);injection h with h;injection h with h1 h2;subst h1 h2;refine ⟨⟨by rw[o1];exact w2,by rw[J];exact U.1,by rw[J];exact U.2,o3,o4,o5,o6⟩,S.1,?_,S.2.2⟩;have:=S.2.1;unfold wI;rw[o1,J];simp only[FG,Fz,List.length_nil];omega
theorem rV {α:Type} {pc:α→List Pc} {W:α→Prop} {w:Bs} {I:List Tk→Except (Int×Int) (α×List Tk)} (ho:∀ l x r,eQ l→l.length≤1000→i7 l→I l= .ok (x,r)→W x∧fR (pc x).length l r):∀ (n:Nat) (l r:List Tk) (acc xs:List α),eQ l→l.length≤1000→i7 l→acc.length≤16→cS w I n l acc= .ok (xs,r)→∃ J,xs=acc++J∧(∀ y∈J,W y)∧xs.length≤16∧fR (J.flatMap pc).length l r
 | 0,l,r,acc,xs,_,_,_,O,h=>by
  injection h with h;injection h with Z U;subst Z U;exact ⟨[],by simp,(fun y M=>by cases M),O,fR.refl _⟩
 | n+1,l,r,acc,xs,hn,hl,he,O,h=>by
  unfold cS at h;split at h
  ·split at h
   ·cases h
   rename_i ad;obtain ⟨⟨x,q⟩,g,h⟩:=aj h;dsimp only at h g
   obtain ⟨hw,N⟩:=ho l x q hn hl he g;obtain ⟨J,rfl,M,D,s2⟩:=rV ho n q r (acc++[x]) xs (hn.sub N) (by have:=N.2.1;omega) (N.2.2 he) (by simp;omega) h;refine ⟨x::J,by simp,?_,D,N.trans s2 (by rw[List.flatMap_cons,Fz];omega)⟩;intro y hy';rcases List.mem_cons.1 hy' with rfl|hy'
   ·exact hw
   exact M y hy'
  injection h with h;injection h with Z U;subst Z U;exact ⟨[],by simp,(fun y M=>by cases M),O,fR.refl _⟩
theorem CO {l:List Tk} {f:Fl} (I:eQ l) (M:l.length≤1000) (J:i7 l) (h:lO l= .ok f):zu f∧(Er f).length+1≤l.length:=by
 unfold lO at h;obtain ⟨⟨g,r⟩,D,h⟩:=aj h;dsimp only at h
 split at h
 ·cases h
 injection h with h;subst h;rw[sH] at D;obtain ⟨⟨a,q1⟩,g1,D⟩:=aj D;obtain ⟨xs,e1,w1,l1,Z⟩:=rV (pc:=Ep) (W:=Fb) (fun l x r I M J h=>Ff I M J h) _ _ _ _ _ I M J (by simp) g1;have U:=I.sub Z;have av:q1.length≤1000:=by have:=Z.2.1;omega
 have O:=Z.2.2 J;unfold qj at D;obtain ⟨⟨b,q2⟩,g2,D⟩:=aj D;obtain ⟨ys,e2,w2,l2,s2⟩:=rV (pc:=wI) (W:=rx) (fun l x r I M J h=>EV I M h) _ _ _ _ _ U av O (by simp) g2;have a0:=U.sub s2;have ad:q2.length≤1000:=by have:=s2.2.1;omega
 have N:=s2.2.2 O;unfold nW at D;obtain ⟨⟨c,q3⟩,g3,D⟩:=aj D;obtain ⟨zs,e3,w3,l3,s3⟩:=rV (pc:=Bg) (W:=DD) (fun l x r I M J h=>ER I h) _ _ _ _ _ a0 ad N (by simp) g3;have aA:=s3.2.2 N;unfold nV at D;injection D with D;injection D with h2 h3;subst h2 h3;rw[List.nil_append] at e1 e2 e3;subst e1 e2 e3;refine ⟨⟨l1,l2,l3,w1,w2,w3⟩,?_⟩;have:=Z.2.1;have:=s2.2.1;have:=s3.2.1;have:=aA.pos;unfold Er;simp only[Fz] at *;omega
theorem Ev (c:UInt8) (t:Bs) (i:Int) (D:(bM (c::t)).2≠0) (h:(bM (c::t)).1=1):(c::t).take (bM (c::t)).2≠[]∧jS (((c::t).take (bM (c::t)).2).headD 0)=true∧∀ d∈(c::t).take (bM (c::t)).2,sB d=true:=by
 rw[vN] at D h ⊢;by_cases J:jS c=true
 ·rw[if_pos J] at D h ⊢
  dsimp only at D h ⊢
  refine ⟨?_,?_,lU _ _⟩
  ·obtain ⟨m,I⟩:∃ m,gu sB (c::t)=m+1:=⟨gu sB (c::t)-1,by omega⟩
   rw[I];simp
  obtain ⟨m,I⟩:∃ m,gu sB (c::t)=m+1:=⟨gu sB (c::t)-1,by omega⟩
  rw[I];exact J
 rw[if_neg J] at h;split at h
 ·cases h
 split at h<;>cases h
theorem CP:∀ (f:Nat) (s:Bs) (i:Nat) (acc l:List Tk),(∀ t∈acc,t.kind=1→t.text≠[]∧jS (t.text.headD 0)=true∧∀ c∈t.text,sB c=true)→fq f s i acc= .ok l→∀ t∈l,t.kind=1→t.text≠[]∧jS (t.text.headD 0)=true∧∀ c∈t.text,sB c=true:=by
 have D:∀ (acc:List Tk) (i:Nat) (l:List Tk),(∀ t∈acc,t.kind=1→t.text≠[]∧jS (t.text.headD 0)=true∧∀ c∈t.text,sB c=true)→(Except.ok (acc++[⟨5,[],(i:Int)⟩]):Except (Int×Int) (List Tk))= .ok l→∀ t∈l,t.kind=1→t.text≠[]∧jS (t.text.headD 0)=true∧∀ c∈t.text,sB c=true:=by
  intro acc i l I h t M;injection h with h;subst h;rcases List.mem_append.1 M with M|M
  ·exact I t M
  rw[List.mem_singleton.1 M];intro h;cases h
 intro f
 induction f with
 | zero=>intro s i acc l I h;exact D acc i l I h
 | succ f ih =>
  intro s i acc l I h
  cases s with
  | nil=>exact D acc i l I h
  | cons c t =>
   rw[vO] at h;split at h
   ·exact ih _ _ _ _ I h
   split at h
   ·cases h
   split at h
   ·cases h
   rename_i O N U;refine ih _ _ _ l ?_ h;intro u J;rcases List.mem_append.1 J with J|J
   ·exact I u J
   rw[List.mem_singleton.1 J];exact Ev c t i N
theorem CQ {s:Bs} {l:List Tk} (I:s.length≤1000000) (h:uC s= .ok l):eQ l:=fun t D=>⟨(rq I h).2.1 t D,CP _ _ _ _ _ (fun t D=>by cases D) h t D⟩
theorem pv {s:Bs} {f:Fl} (D:s.length≤1000000) (h:fm s= .ok f):zu f∧(Er f).length≤400:=by
 unfold fm at h;obtain ⟨l,I,h⟩:=aj h;obtain ⟨J,_,O⟩:=rq D I;obtain ⟨M,N⟩:=CO (CQ D I) (by omega) J h;exact ⟨M,by omega⟩
end
end Go.Proofs.YtecpeogejjibaaaGreatDoor
