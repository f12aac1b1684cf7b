/- slices.Concat at 46. slices.Clone of a row. slices.Concat at 89. ops.sorted: its comparison, and itself. ops.sorted. A text of pieces, each a token and the blanks behind it, is cut into these tokens: plain. A flow's pieces: its tokens, each with the blanks behind it, as it is written: plain. The cutter: tokens. The marks that compare, out of a row's laid list. -/
import Derived.Test.YtecpeogejjibaaaGreatDoorEtnM3
import Derived.Test.YtecpeogejjibaaaGreatDoorEtnM10
import Derived.WalkSpells
import Derived.Test.YtecpeogejjibaaaGreatDoorEtnM5
import Derived.Test.YtecpeogejjibaaaGreatDoorEtnM2
import Derived.Test.YtecpeogejjibaaaGreatDoorEtnM4
import Derived.Test.YtecpeogejjibaaaGreatDoorEtnM9
set_option linter.unusedSimpArgs false
set_option linter.unusedVariables false
set_option maxRecDepth 100000
set_option maxHeartbeats 16000000
namespace Go.Proofs.YtecpeogejjibaaaGreatDoor
open Go.Lib renaming hid → Fk
open _root_.Nat renaming le_refl → Fm, le_trans → Ft, zero_le → Fu
open _root_.List renaming getElem?_eq_getElem → Fp, getElem_mem → Fs, length_cons → Fv, getD_eq_getElem?_getD → Fy
open Go.World renaming block_lt_of_cell? → Fq, news_of_block → Fx
open aa renaming refl → Fz
open ao renaming new → FA
open Go.Value renaming string → FC, slice → FD, pointer → FE, int → FH
open Go.Ending renaming returned → FF
open Go.Obj renaming cells → FG
open Go.IntKind renaming i64 → FI
section
open Go.RowKit
attribute [local go_sem] ag ab ae af
theorem oJ:(Tryz.prog.info? 46).map (fun i=>(i.zero,i.size,i.bytes))=some (some (.agg #[FH FI 0,FH FI 0,FC ⟨#[]⟩]),3,32):=by kernel_rfl
theorem yE (n:Nat) (hn:n≤4294967296) (w:World) :
  Calls Tryz.prog 172 #[FD none 0 0,FH FI (n:Int)] w fun e w'=>(∃ v,e=FF v∧w'.ownsRow w.heap.size 46 3 v 0 [])∧aa [] w w':=by
 by_cases h0:n=0
 ·subst h0
  go_enter Tryz.func172,Tryz.ntmps172
  go_wp2;go_ret;exact ⟨⟨_,rfl,World.ownsRow_nil _ _ _ _⟩,Fz _ _⟩
 obtain ⟨i0,Z,O,N,D⟩:=info_parts oJ;have h:=Lib.run_append_grow_zeros w 89 3 89 46 i0 _ .i64 .i64 Tryz.underlying89 Tryz.underlying3 Z O none 0 0 [] (run_firstCells_none w.drew _ 0 0 0) n (by omega) (by rw[N];decide) (by omega) (by omega) (by rw[D];omega) (growslice_fits (by omega) (by rw[D];omega));have U:grownCap w (0+n) 0 46≤maxLen:=grownCap_le_maxLen w (0+n) 0 46 (by unfold maxLen;omega);have J:0+n≤grownCap w (0+n) 0 46:=grownCap_ge w _ _ _;rw[Nat.zero_add] at h U J;obtain ⟨G,M⟩:∃ G,grownCap w n 0 46=G:=⟨_,rfl⟩
 rw[M] at h U J;obtain ⟨cs,H⟩:∃ cs,(([]:List Value).toArray++Builtin.zeroCells (.agg #[FH FI 0,FH FI 0,FC ⟨#[]⟩]:Value).cells n++Builtin.zeroCells (.agg #[FH FI 0,FH FI 0,FC ⟨#[]⟩]:Value).cells (G-n))=cs:=⟨_,rfl⟩
 rw[H] at h;have I:cs.size=G*3:=by
  rw[←H];simp[Builtin.zeroCells,Value.cells];omega
 have HZ:=Fk (fD (w:=w.drew) (e:=46) (size:=3) I U);have V:=Fk h;have h1:¬((n:Int)<0):=by omega
 have h4:(0:Int)<(n:Int):=by omega
 have ad:G≤9223372036854775807:=by unfold maxLen at U;omega
 clear h H I M Z O N D;go_enter Tryz.func172,Tryz.ntmps172
 go_wp2_with (at_builtin;refine Lib.wpList_append_run _ rfl _ _ _ _ rfl _ _ rfl rfl _ _ V.out ?_)
 go_ret;exact ⟨⟨_,rfl,HZ.out⟩,((Fz [] w).drew).alloc _⟩
theorem tC (D:List (Nat×List Value)) (us:List Value) (A0:Option Addr) (k0:Nat) (w:World) (V:us.length=D.length) (hB:Rd w [] 1 A0 D.length us) (hu:∀ i (h:i<us.length) (h':i<D.length),DI w 3 us[i] D[i]) (hl:D.length≤4294967296) (J:du D D.length≤4294967296) (N:∀ p∈D,∀ x∈p.2,x.oneCell'=true) :
  Calls Tryz.prog 145 #[FD A0 D.length k0] w fun e w'=>(∃ v,e=FF v∧w'.ownsRow w.heap.size 46 3 v (du D D.length) (iP D D.length))∧aa [] w w':=by
 obtain ⟨ie,a9,ad,aA,a1⟩:=info_parts oJ;have HB:=Fk hB;have HU:=Fk hu;have a5:=Fk V;have a2:=Fk (fun m (h:m≤D.length)=>Ft (rJ D h) J);have a8:=Fk N;have a7:=Fk (yE (du D D.length) J w);clear hB hu N V J;go_enter Tryz.func145,Tryz.ntmps145
 go_wp2;go_loop [3,11] (fun s i=>∃ m:Nat,m≤D.length∧i=FH FI m∧s=FH FI (du D m:Nat)) (fun _ i=>D.length-(intOf i).toNat)
 case atStart=>exact ⟨0,Fu _,rfl,rfl⟩
 obtain ⟨m,hm,rfl,rfl⟩:=hrel;by_cases H:m<D.length
 ·obtain ⟨b,o,rfl,_,hb,hc⟩:=HB.out.open' (by omega) (by omega)
  have I:m<us.length:=by rw[a5.out];exact H
  have d1:=hc m _ (Fp I);obtain ⟨A,c,he,hr⟩:=HU.out m I H;rw[he] at d1;have HS:=Fk (dn D m H);have M:=a2.out (m+1) (by omega);rw[HS.out] at M;clear hc he hr;generalize du D m=a at *;generalize D[m].1=n at *;have bc:¬((a:Int)+(n:Int)<0):=by omega
  go_wp2;go_round
  case rel=>exact ⟨m+1,by omega,by go_num,by rw[HS.out];go_num⟩
  case measure=>simp[intOf];omega
 obtain rfl:m=D.length:=by omega
 go_wp2_with fail
 refine a7.out.mono ?_;rintro e w2 ⟨⟨v0,rfl,av⟩,a6⟩;have bb:=Fk av;have ba:=Fk a6;clear av a6 a7;go_wp2;go_loopw [6,27] (fun u i wx=>∃ (m:Nat) (v:Value),v=u∧m≤D.length∧i=FH FI m∧wx.ownsRow w.heap.size 46 3 v (du D m) (iP D m)∧aa [] w wx) (fun _ i _=>D.length-(intOf i).toNat)
 case atStart=>exact ⟨0,v0,rfl,Fu _,rfl,bb.out,ba.out⟩
 obtain ⟨m,v,rfl,be,rfl,O,hk⟩:=hrel;have Z:=Fk hk;have HO:=Fk O;clear hk O;by_cases H:m<D.length
 ·obtain ⟨b,o,rfl,_,hb,hc⟩:=(HB.out.keep Z.out).open' (by omega) (by omega)
  have I:m<us.length:=by rw[a5.out];exact H
  have d1:=hc m _ (Fp I);obtain ⟨A,c,he,hr⟩:=HU.out m I H;rw[he] at d1;have M:=a2.out (m+1) (by omega);rw[dn D m H] at M;obtain ⟨v',w',U,a4,a0⟩:=cX (P:=Tryz.prog) wr w.heap.size 89 89 46 ie _ 3 32 Tryz.underlying89 a9 ad aA a1 rfl (by decide) HO.out (hr.keep Z.out) c (a8.out _ (Fs H)) (by unfold maxLen;omega) (by omega) Z.out.size;have a3:=Fk U;have HO':Hid (w'.ownsRow w.heap.size 46 3 v' (du D (m+1)) (iP D (m+1))):=Fk (by rw[dn D m H,lX D m H];exact a4);have HK':=Fk (Z.out.grown a0 (fun g hg=> .inr (HO.out.lt g hg).1));clear hc he hr U a4 a0 M;generalize D[m].1=n at *;go_wp2_with (at_builtin;refine Lib.wpList_append_run _ rfl _ _ _ _ rfl _ _ rfl rfl _ _ a3.out ?_)
  go_roundw
  case rel=>exact ⟨m+1,v',rfl,by omega,by go_num,HO'.out,HK'.out⟩
  case measure=>simp[intOf];omega
 obtain rfl:m=D.length:=by omega
 go_wp2;go_ret;exact ⟨⟨_,rfl,HO.out⟩,Z.out⟩
theorem oK (l:List Vl):∀ u∈al l,u.oneCell'=true:=fun u D=>by
 unfold al at D;obtain ⟨y,_,h⟩:=List.mem_flatMap.1 D;simp only[eC,List.mem_cons,List.not_mem_nil,or_false] at h;rcases h with rfl|rfl|rfl<;>rfl
theorem ma (r:List Vl) (h1:1≤r.length) (h2:r.length≤4294967296) (A:Option Addr) (c:Nat) (w:World) (Z:Rd w [] 3 A r.length (al r)) :
  Calls Tryz.prog 139 #[FD A r.length c] w fun e w'=>(∃ v,e=FF v∧w'.ownsRow w.heap.size 46 3 v r.length (al r))∧aa [] w w':=by
 obtain ⟨iv,N,H,I,D⟩:=info_parts oJ;obtain ⟨b,o,rfl,_,hb,_⟩:=Z.open' (by omega) (by omega);have h:aa [] w (w.alloc (FG #[] 46)):=(Fz _ _).alloc _;have hz:=fD (w:=w) (e:=46) (cur:= #[]) (size:=3) (G:=0) rfl (by decide);obtain ⟨v',w',J,M,O⟩:=cX (P:=Tryz.prog) (w.alloc (FG #[] 46)) w.heap.size 89 89 46 iv _ 3 32 Tryz.underlying89 N H I D rfl (by decide) hz (Z.keep h) c (oK r) (by unfold maxLen;omega) (by omega) h.size;rw[Nat.zero_add,List.nil_append] at M;have U:=Fk J;have HO:=Fk M;have HK:=Fk (h.grown O (fun g V=> .inr (by injection V with V;rw[←V];exact Fm _)));have ad:=fun W=>Lib.run_eql_slice_nil (P:=Tryz.prog) W 89 46 (some ⟨b,o,none⟩) r.length c 0 0 Tryz.underlying89
 clear h hz J M O Z N H I D;go_enter Tryz.func139,Tryz.ntmps139
 go_wp2_with (at_builtin;refine Lib.wpList_append_run _ rfl _ _ _ _ rfl _ _ rfl rfl _ _ U.out ?_)
 go_ret;exact ⟨⟨_,rfl,HO.out⟩,HK.out⟩
theorem tE:(Tryz.prog.info? 89).map (fun i=>(i.zero,i.size,i.bytes))=some (some (FD none 0 0),1,24):=by kernel_rfl
theorem yF (n:Nat) (hn:n≤4294967296) (w:World) :
  Calls Tryz.prog 143 #[FD none 0 0,FH FI (n:Int)] w fun e w'=>(∃ v,e=FF v∧w'.ownsRow w.heap.size 89 1 v 0 [])∧aa [] w w':=by
 by_cases h0:n=0
 ·subst h0
  go_enter Tryz.func143,Tryz.ntmps143
  go_wp2;go_ret;exact ⟨⟨_,rfl,World.ownsRow_nil _ _ _ _⟩,Fz _ _⟩
 obtain ⟨i0,Z,O,N,D⟩:=info_parts tE;have h:=Lib.run_append_grow_zeros w 52 3 52 89 i0 _ .i64 .i64 Tryz.underlying52 Tryz.underlying3 Z O none 0 0 [] (run_firstCells_none w.drew _ 0 0 0) n (by omega) (by rw[N];decide) (by omega) (by omega) (by rw[D];omega) (growslice_fits (by omega) (by rw[D];omega));have U:grownCap w (0+n) 0 89≤maxLen:=grownCap_le_maxLen w (0+n) 0 89 (by unfold maxLen;omega);have J:0+n≤grownCap w (0+n) 0 89:=grownCap_ge w _ _ _;rw[Nat.zero_add] at h U J;obtain ⟨G,M⟩:∃ G,grownCap w n 0 89=G:=⟨_,rfl⟩
 rw[M] at h U J;obtain ⟨cs,H⟩:∃ cs,(([]:List Value).toArray++Builtin.zeroCells (FD none 0 0:Value).cells n++Builtin.zeroCells (FD none 0 0:Value).cells (G-n))=cs:=⟨_,rfl⟩
 rw[H] at h;have I:cs.size=G*1:=by
  rw[←H];simp[Builtin.zeroCells,Value.cells];omega
 have HZ:=Fk (fD (w:=w.drew) (e:=89) (size:=1) I U);have V:=Fk h;have h1:¬((n:Int)<0):=by omega
 have h4:(0:Int)<(n:Int):=by omega
 have ad:G≤9223372036854775807:=by unfold maxLen at U;omega
 clear h H I M Z O N D;go_enter Tryz.func143,Tryz.ntmps143
 go_wp2_with (at_builtin;refine Lib.wpList_append_run _ rfl _ _ _ _ rfl _ _ rfl rfl _ _ V.out ?_)
 go_ret;exact ⟨⟨_,rfl,HZ.out⟩,((Fz [] w).drew).alloc _⟩
theorem tF (D:List (Nat×List Value)) (us:List Value) (A0:Option Addr) (k0:Nat) (w:World) (V:us.length=D.length) (hB:Rd w [] 1 A0 D.length us) (hu:∀ i (h:i<us.length) (h':i<D.length),DI w 1 us[i] D[i]) (hl:D.length≤4294967296) (J:du D D.length≤4294967296) (N:∀ p∈D,∀ x∈p.2,x.oneCell'=true) :
  Calls Tryz.prog 101 #[FD A0 D.length k0] w fun e w'=>(∃ v,e=FF v∧w'.ownsRow w.heap.size 89 1 v (du D D.length) (iP D D.length))∧aa [] w w':=by
 obtain ⟨ie,a9,ad,aA,a1⟩:=info_parts tE;have HB:=Fk hB;have HU:=Fk hu;have a5:=Fk V;have a2:=Fk (fun m (h:m≤D.length)=>Ft (rJ D h) J);have a8:=Fk N;have a7:=Fk (yF (du D D.length) J w);clear hB hu N V J;go_enter Tryz.func101,Tryz.ntmps101
 go_wp2;go_loop [3,11] (fun s i=>∃ m:Nat,m≤D.length∧i=FH FI m∧s=FH FI (du D m:Nat)) (fun _ i=>D.length-(intOf i).toNat)
 case atStart=>exact ⟨0,Fu _,rfl,rfl⟩
 obtain ⟨m,hm,rfl,rfl⟩:=hrel;by_cases H:m<D.length
 ·obtain ⟨b,o,rfl,_,hb,hc⟩:=HB.out.open' (by omega) (by omega)
  have I:m<us.length:=by rw[a5.out];exact H
  have d1:=hc m _ (Fp I);obtain ⟨A,c,he,hr⟩:=HU.out m I H;rw[he] at d1;have HS:=Fk (dn D m H);have M:=a2.out (m+1) (by omega);rw[HS.out] at M;clear hc he hr;generalize du D m=a at *;generalize D[m].1=n at *;have bc:¬((a:Int)+(n:Int)<0):=by omega
  go_wp2;go_round
  case rel=>exact ⟨m+1,by omega,by go_num,by rw[HS.out];go_num⟩
  case measure=>simp[intOf];omega
 obtain rfl:m=D.length:=by omega
 go_wp2_with fail
 refine a7.out.mono ?_;rintro e w2 ⟨⟨v0,rfl,av⟩,a6⟩;have bb:=Fk av;have ba:=Fk a6;clear av a6 a7;go_wp2;go_loopw [6,27] (fun u i wx=>∃ (m:Nat) (v:Value),v=u∧m≤D.length∧i=FH FI m∧wx.ownsRow w.heap.size 89 1 v (du D m) (iP D m)∧aa [] w wx) (fun _ i _=>D.length-(intOf i).toNat)
 case atStart=>exact ⟨0,v0,rfl,Fu _,rfl,bb.out,ba.out⟩
 obtain ⟨m,v,rfl,be,rfl,O,hk⟩:=hrel;have Z:=Fk hk;have HO:=Fk O;clear hk O;by_cases H:m<D.length
 ·obtain ⟨b,o,rfl,_,hb,hc⟩:=(HB.out.keep Z.out).open' (by omega) (by omega)
  have I:m<us.length:=by rw[a5.out];exact H
  have d1:=hc m _ (Fp I);obtain ⟨A,c,he,hr⟩:=HU.out m I H;rw[he] at d1;have M:=a2.out (m+1) (by omega);rw[dn D m H] at M;obtain ⟨v',w',U,a4,a0⟩:=cX (P:=Tryz.prog) wr w.heap.size 52 52 89 ie _ 1 24 Tryz.underlying52 a9 ad aA a1 rfl (by decide) HO.out (hr.keep Z.out) c (a8.out _ (Fs H)) (by unfold maxLen;omega) (by omega) Z.out.size;have a3:=Fk U;have HO':Hid (w'.ownsRow w.heap.size 89 1 v' (du D (m+1)) (iP D (m+1))):=Fk (by rw[dn D m H,lX D m H];exact a4);have HK':=Fk (Z.out.grown a0 (fun g hg=> .inr (HO.out.lt g hg).1));clear hc he hr U a4 a0 M;generalize D[m].1=n at *;go_wp2_with (at_builtin;refine Lib.wpList_append_run _ rfl _ _ _ _ rfl _ _ rfl rfl _ _ a3.out ?_)
  go_roundw
  case rel=>exact ⟨m+1,v',rfl,by omega,by go_num,HO'.out,HK'.out⟩
  case measure=>simp[intOf];omega
 obtain rfl:m=D.length:=by omega
 go_wp2;go_ret;exact ⟨⟨_,rfl,HO.out⟩,Z.out⟩
end
section
open Go.RowKit Go.BigFrame
attribute [local go_sem] ag ab ae af KW.cell
theorem yO (k:Nat) (h:List Nat) (x z:List Vl):nf (k::h) x z=if cH (x.getD k zV) (z.getD k zV)=true then -1 else if cH (z.getD k zV) (x.getD k zV)=true then 1 else nf h x z:=rfl
def AV (y:World) (G:Nat) (m:Nat) (x:SR):Prop:=x.n=x.row.length∧x.row.length≤x.c∧x.row.length=m∧Rd y [G] 3 x.A x.row.length (al x.row)
theorem tN (y:World) (G:Nat) (j:Jb) (t:Tb) (bj bt:Nat) (A:Option Addr) (c:Nat) (vb:Value) (Ac:Option Addr) (cc:Nat) (cs:Array Value)
  (bb:ao y bj 50 cs) (bm:cs[4]? = some (FD Ac j.cols.length cc)) (ce:bj≠G)
  (bX:ao y bt 54 #[FD A t.cols.length c,vb]) (cg:bt≠G)
  (bq:Rd y [G] 1 Ac j.cols.length (strs j.cols)) (hA:Rd y [G] 2 A t.cols.length (ai t.cols)) (hl:t.cols.length≤4294967296) (cv:j.cols.length≤4294967296)
  (be:∀ n∈j.cols,∃ k,an t.cols n=some k) (x z:SR) (hx:AV y G t.cols.length x) (hz:AV y G t.cols.length z) (W:World) (hW:aa [G] y W) :
  Calls Tryz.prog 142 #[x.v,z.v,FE (some ⟨bj,0,none⟩),FE (some ⟨bt,0,none⟩)] W fun e W'=>e=FF (FH FI (nf (j.cols.map (ed t.cols)) x.row z.row))∧aa [] W W':=by
 obtain ⟨xA,xn,xc,Z⟩:=x;obtain ⟨zA,zn,zc,zr⟩:=z;obtain ⟨bk,ch,a9,a5⟩:=hx;obtain ⟨b0,ca,a6,a3⟩:=hz;simp only at bk ch a9 a5 b0 ca a6 a3;subst bk b0;have HJ:=Fk (bb.keep hW (by simpa using ce));have HT:=Fk (bX.keep hW (by simpa using cg));have ad:∀ x∈([]:List Nat),x<W.heap.size→x∈[G]:=fun x h=>by cases h
 have b4:=Fk ((bq.keep hW).move ad);have HA:=Fk ((hA.keep hW).move ad);have HX:=Fk ((a5.keep hW).move ad);have HZ:=Fk ((a3.keep hW).move ad);have b3:=Fk be;have ci:=Fk bm;obtain ⟨R,hR⟩:∃ R,nf (j.cols.map (ed t.cols)) Z zr=R:=⟨_,rfl⟩
 rw[hR];have HR:=Fk hR;have b6:=Fk a9;have cj:=Fk a6;clear bb bX bq hA a5 a3 be bm ad hR hW a9 a6;show Calls _ _ #[FD xA Z.length xc,FD zA zr.length zc,FE (some ⟨bj,0,none⟩),FE (some ⟨bt,0,none⟩)] W _;have d4:W.cell? ⟨bj,4,none⟩=some (FD Ac j.cols.length cc):=(HJ.out.cell 4).trans ci.out;go_enter Tryz.func142,Tryz.ntmps142
 go_wp2_with fail
 clear d4;go_loopw [13] (fun i wr=>∃ n:Nat,n≤j.cols.length∧i=FH FI n∧Hid (nf ((j.cols.drop n).map (ed t.cols)) Z zr=R)∧aa [] W wr) (fun i _=>j.cols.length-(intOf i).toNat)
 case atStart=>exact ⟨0,Fu _,rfl,by rw[List.drop_zero];exact HR,Fz _ _⟩
 clear HR;obtain ⟨n,hn,rfl,HC,hk⟩:=hrel;have HK:=Fk hk;clear hk;by_cases a7:n<j.cols.length
 ·obtain ⟨b,o,cm,_,hb,hc⟩:=(b4.out.keep HK.out).open' (by omega) (by omega)
  subst cm;have d1:=hc n _ (cw j.cols n a7);have bZ:j.cols.drop n=j.cols[n]::j.cols.drop (n+1):=List.drop_eq_getElem_cons a7;obtain ⟨k,hk⟩:=b3.out j.cols[n] (Fs a7);have V:=HC.out;rw[bZ,List.map_cons,yO] at V;have bo:ed t.cols j.cols[n]=k:=by unfold ed;rw[hk];rfl
  rw[bo] at V;have cu:k<t.cols.length:=by
   have:=List.findIdx?_eq_some_iff_getElem.1 hk;exact this.1
  generalize j.cols[n]=nm at *;have HF:=Fk (fun W' (q:aa [] wr W')=>bQ t.cols nm A c W' (HA.out.keep (HK.out.trans q)) hl);rw[hk] at HF;have HF':Hid (∀ W',aa [] wr W'→Calls Tryz.prog 89 #[FD A t.cols.length c,FC (bs nm)] W' fun e w'=>e=FF (FH FI (k:Int))∧aa [] W' w'):=HF;have aA:k<Z.length:=by have:=b6.out;omega
  have av:k<zr.length:=by have:=cj.out;omega
  obtain ⟨bx,ox,b9,_,b5,a2⟩:=(HX.out.keep HK.out).open' (by omega) (by omega);obtain ⟨bz,oz,b7,_,cd,a0⟩:=(HZ.out.keep HK.out).open' (by omega) (by omega);subst b9 b7;have x1:=a2 (k*3) _ (ay Z k aA).1;have x2:=a2 (k*3+1) _ (ay Z k aA).2.1;have x3:=a2 (k*3+2) _ (ay Z k aA).2.2;rw[←Nat.add_assoc] at x2 x3;have z1:=a0 (k*3) _ (ay zr k av).1;have z2:=a0 (k*3+1) _ (ay zr k av).2.1;have z3:=a0 (k*3+2) _ (ay zr k av).2.2;rw[←Nat.add_assoc] at z2 z3;have gx:Z.getD k zV=Z[k]:=by rw[Fy,Fp aA];rfl
  have gz:zr.getD k zV=zr[k]:=by rw[Fy,Fp av];rfl
  rw[gx,gz] at V;generalize Z[k]=vx at *;generalize zr[k]=vz at *;obtain ⟨I,N,M⟩:=vx;obtain ⟨O,J,U⟩:=vz;have bc:Hid (∀ W',aa [] wr W'→Calls Tryz.prog 138 #[.agg #[FH FI I,FH FI N,FC (bs M)],.agg #[FH FI O,FH FI J,FC (bs U)]] W' fun e w'=>e=FF (.bool (cH ⟨I,N,M⟩ ⟨O,J,U⟩))∧aa [] W' w'):=Fk fun W' _=>lC ⟨I,N,M⟩ ⟨O,J,U⟩ W'
  have bv:Hid (∀ W',aa [] wr W'→Calls Tryz.prog 138 #[.agg #[FH FI O,FH FI J,FC (bs U)],.agg #[FH FI I,FH FI N,FC (bs M)]] W' fun e w'=>e=FF (.bool (cH ⟨O,J,U⟩ ⟨I,N,M⟩))∧aa [] W' w'):=Fk fun W' _=>lC ⟨O,J,U⟩ ⟨I,N,M⟩ W'
  have cq:bt<wr.heap.size:=(HT.out.keep HK.out (by simp)).lt;have y0:wr.cell? ⟨bt,0,none⟩=some (FD A t.cols.length c):=(HT.out.keep HK.out (by simp)).cell 0;have cx:(0:Int)≤(n:Int):=by omega
  have ct:(n:Int)<(j.cols.length:Int):=by omega
  have cr:(0:Int)≤(k:Int):=by omega
  have hkx':(k:Int)<(Z.length:Int):=by omega
  have hkz':(k:Int)<(zr.length:Int):=by omega
  clear a2 a0 hc bZ HF gx gz bo hk HC;generalize cH ⟨I,N,M⟩ ⟨O,J,U⟩=b1 at *;generalize cH ⟨O,J,U⟩ ⟨I,N,M⟩=b2 at *;go_wp2_with fail
  refine (HF'.out wr (Fz _ _)).mono ?_;rintro e w3 ⟨rfl,H⟩;have x1:=H.cell_of x1 (by simp);have x2:=H.cell_of x2 (by simp);have x3:=H.cell_of x3 (by simp);have z1:=H.cell_of z1 (by simp);have z2:=H.cell_of z2 (by simp);have z3:=H.cell_of z3 (by simp);have ba:bx<w3.heap.size:=Nat.lt_of_lt_of_le b5 H.size;have br:bz<w3.heap.size:=Nat.lt_of_lt_of_le cd H.size;have a8:=Fk H;have HL1':=Fk (fun W' (q:aa [] w3 W')=>bc.out W' (a8.out.trans q));clear H bc d1
  cases b1 with
  | true =>
   have HC':Hid (R= -1):=Fk (by rw[if_pos rfl] at V;exact V.symm);clear V;go_wp2_with fail
   refine ah (by kernel_rfl) (by kernel_rfl) ?_;repeat (go_big_quiet_step (first|with_reducible exact KW.of HL1'.out _))
   refine wpQuiet_nil ?_;intro w5 D;go_wp2;go_ret;exact ⟨by rw[HC'.out];rfl,(HK.out.trans a8.out).trans D⟩
  | false =>
   rw[if_neg (by decide)] at V;go_wp2_with fail
   refine ah (by kernel_rfl) (by kernel_rfl) ?_;repeat (go_big_quiet_step (first|with_reducible exact KW.of HL1'.out _))
   refine wpQuiet_nil ?_;intro w5 D;have x1:=D.cell_of x1 (by simp);have x2:=D.cell_of x2 (by simp);have x3:=D.cell_of x3 (by simp);have z1:=D.cell_of z1 (by simp);have z2:=D.cell_of z2 (by simp);have z3:=D.cell_of z3 (by simp);have cn:bx<w5.heap.size:=Nat.lt_of_lt_of_le ba D.size;have co:bz<w5.heap.size:=Nat.lt_of_lt_of_le br D.size;have a4:=Fk (a8.out.trans D);have HL2':=Fk (fun W' (q:aa [] w5 W')=>bv.out W' (a4.out.trans q));clear D HL1' bv
   cases b2 with
   | true =>
    have HC':Hid (R=1):=Fk (by rw[if_pos rfl] at V;exact V.symm);clear V;go_wp2_with fail
    refine ah (by kernel_rfl) (by kernel_rfl) ?_;repeat (go_big_quiet_step (first|with_reducible exact KW.of HL2'.out _))
    refine wpQuiet_nil ?_;intro w6 a1;go_wp2;go_ret;exact ⟨by rw[HC'.out];rfl,(HK.out.trans a4.out).trans a1⟩
   | false =>
    have HC':Hid (nf ((j.cols.drop (n+1)).map (ed t.cols)) Z zr=R):=Fk (by rw[if_neg (by decide)] at V;exact V);clear V;go_wp2_with fail
    refine ah (by kernel_rfl) (by kernel_rfl) ?_;repeat (go_big_quiet_step (first|with_reducible exact KW.of HL2'.out _))
    refine wpQuiet_nil ?_;intro w6 a1;have b8:=Fk ((HK.out.trans a4.out).trans a1);clear a1;go_wp2;go_roundw
    case rel=>exact ⟨n+1,by omega,by go_num,HC',b8.out⟩
    case measure=>simp[intOf];omega
 have HC':Hid (R=0):=Fk (by
  have h:=HC.out;rw[List.drop_eq_nil_of_le (by omega)] at h;exact h.symm)
 go_wp2;go_ret;exact ⟨by rw[HC'.out];rfl,HK.out⟩
end
section
open Go.RowKit Go.BigFrame
attribute [local go_sem] ag ab ae af
theorem vJ {α β:Type} (f:α→β) (le:β→β→Bool):∀ (A B:List α),(mg (fun a b=>le (f a) (f b)) A B).map f=mg le (A.map f) (B.map f)
 | [],B=>by rw[fI,List.map_nil,fI]
 | a::A,[]=>by rw[fH,List.map_nil,fH]
 | a::A,b::B=>by
  rw[jF,List.map_cons,List.map_cons,jF];split
  ·rw[List.map_cons,vJ f le A (b::B),List.map_cons]
  rw[List.map_cons,vJ f le (a::A) B,List.map_cons]
termination_by A B=>A.length+B.length
theorem Cq {α β:Type} (f:α→β) (le:β→β→Bool) (l:List α):(ee (fun a b=>le (f a) (f b)) l).map f=ee le (l.map f):=by
 refine fJ (p:=fun l=>(ee (fun a b=>le (f a) (f b)) l).map f=ee le (l.map f)) rfl (fun l y ih=>?_) l;rw[gJ,vJ,ih,List.map_append,List.map_cons,List.map_nil,gJ]
theorem De {w:World}:∀ (us:List Value) (D:List (List Vl)),us.length=D.length→(∀ i (h:i<us.length) (h':i<D.length),fG w [] us[i] D[i])→∃ l:List SR,l.map SR.v=us∧l.map SR.row=D∧∀ x∈l,x.n=x.row.length∧x.row.length≤x.c∧Rd w [] 3 x.A x.row.length (al x.row)
 | [],[],_,_=>⟨[],rfl,rfl,fun x H=>by cases H⟩
 | [],_::_,h,_=>by cases h
 | _::_,[],h,_=>by cases h
 | u::us,r::D,h,I=>by
  obtain ⟨l,M,J,O⟩:=De us D (by simpa using h) fun i a b=>I (i+1) (by simpa using a) (by simpa using b)
  obtain ⟨A,c,e,N,U⟩:=I 0 (by simp) (by simp);refine ⟨⟨A,r.length,c,r⟩::l,by rw[List.map_cons,M];congr 1;exact e.symm,by rw[List.map_cons,J],fun x H=>?_⟩;rcases List.mem_cons.1 H with rfl|H
  ·exact ⟨rfl,N,U⟩
  exact O x H
theorem Cr (l:List SR):∀ u∈l.map SR.v,u.oneCell'=true:=fun u h=>by
 obtain ⟨x,_,rfl⟩:=List.mem_map.1 h;rfl
theorem vK (n:Nat) (h2:n≤4294967296) (ys:List Value) (a0:∀ u∈ys,u.oneCell'=true) (A:Option Addr) (c:Nat) (w:World) (O:Rd w [] 1 A n ys) :
  Calls Tryz.prog 140 #[FD A n c] w fun e w'=>(∃ v,e=FF v∧w'.ownsRow w.heap.size 89 1 v n ys)∧aa [] w w':=by
 cases A with
 | none =>
  have h0:n=0:=Nat.eq_zero_of_not_pos fun h=>by obtain ⟨_,e,_⟩:=O.2 h;cases e
  subst h0;have av:ys=[]:=List.eq_nil_of_length_eq_zero (by rw[O.1]);subst av;have aA:=fun W=>Lib.run_eql_slice_nil (P:=Tryz.prog) W 52 89 none 0 c 0 0 Tryz.underlying52
  clear O;go_enter Tryz.func140,Tryz.ntmps140
  go_wp2;go_ret;exact ⟨⟨_,rfl,World.ownsRow_nil _ _ _ _⟩,Fz _ _⟩
 | some ad =>
  obtain ⟨b,o,sp⟩:=ad;obtain ⟨iv,U,I,J,H⟩:=info_parts jt;have D:aa [] w (w.alloc (FG #[] 89)):=(Fz _ _).alloc _;have hz:=fD (w:=w) (e:=89) (cur:= #[]) (size:=1) (G:=0) rfl (by decide);obtain ⟨v',w',M,N,V⟩:=cX (P:=Tryz.prog) (w.alloc (FG #[] 89)) w.heap.size 52 52 89 iv _ 1 24 Tryz.underlying52 U I J H rfl (by decide) hz (O.keep D) c a0 (by unfold maxLen;omega) (by omega) D.size;rw[Nat.zero_add,List.nil_append] at N;have Z:=Fk M;have HO:=Fk N;have HK:=Fk (D.grown V (fun g hg=> .inr (by injection hg with hg;rw[←hg];exact Fm _)));have aA:=fun W=>Lib.run_eql_slice_nil (P:=Tryz.prog) W 52 89 (some ⟨b,o,sp⟩) n c 0 0 Tryz.underlying52
  clear D hz M N V O U I J H;go_enter Tryz.func140,Tryz.ntmps140
  go_wp2_with (at_builtin;refine Lib.wpList_append_run _ rfl _ _ _ _ rfl _ _ rfl rfl _ _ Z.out ?_)
  go_ret;exact ⟨⟨_,rfl,HO.out⟩,HK.out⟩
theorem p5 (v:Value) (f:Value) (w:World):Calls Tryz.prog 185 #[v,FH FI 0,FH FI 0,f] w fun e w'=>e=FF (.tuple #[])∧aa [] w w':=by
 go_enter Tryz.func185,Tryz.ntmps185
 go_wp2_with fail
 refine wp_loop_rounds 1 ?_;rw[rounds_succ];go_wp2;go_end0
 exact ⟨rfl,Fz _ _⟩
theorem pa (A:Option Addr) (c:Nat) (f:Value) (w:World):Calls Tryz.prog 141 #[FD A 0 c,f] w fun e w'=>e=FF (.tuple #[])∧aa [] w w':=by
 have D:Hid (Calls Tryz.prog 169 #[FD A 0 c,FH FI 0,f] w fun e w'=>e=FF (.tuple #[])∧aa [] w w'):=Fk (by
  have H:=Fk (p5 (FD A 0 c) f w);go_enter Tryz.func169,Tryz.ntmps169
  go_wp2_with fail
  refine wp_loop_rounds 1 ?_;rw[rounds_succ];go_wp2_with ((with_reducible refine H.out.mono ?_);rintro e I ⟨rfl,h⟩)
  refine wp_loop_rounds 1 ?_;rw[rounds_succ];go_wp2;go_end0
  exact ⟨rfl,h⟩)
 go_enter Tryz.func141,Tryz.ntmps141
 go_wp2_with ((with_reducible refine D.out.mono ?_);rintro e I ⟨rfl,h⟩)
 go_end0
 exact ⟨rfl,h⟩
theorem tP {y w:World} {G:Nat} {rest:List Value} {l:List SR} {m cap:Nat} (h:aG y G rest l w) (V:∀ x∈l,AV y G m x) (M:l.length≤cap):cC w (FD (some ⟨G,0,none⟩) l.length cap) (l.map SR.row):=by
 refine ⟨_,cap,by rw[List.length_map],by rw[List.length_map];exact M,l.map SR.v,by rw[List.length_map,List.length_map],⟨by simp,fun _=>⟨_,rfl,by simp,h.b.lt,fun j u D=>?_⟩⟩,fun i I Z=>?_⟩
 ·rw[cI,Nat.zero_add,h.b.cell j]
  unfold bf;rw[List.getElem?_toArray,List.getElem?_append_left (List.getElem?_eq_some_iff.1 D).1];exact D
 rw[List.getElem_map,List.getElem_map];have H:i<l.length:=by simpa using I
 obtain ⟨O,N,_,J⟩:=V l[i] (Fs H);refine ⟨_,_,by unfold SR.v;rw[O],N,(J.keep h.k).move fun x U=>by cases U⟩
theorem pd (j:Jb) (t:Tb) (Ao:Option Addr) (co:Nat) (Ai:Option Addr) (ni ci:Nat) (Ac:Option Addr) (cc:Nat) (A B:Option Addr) (c d:Nat) (w:World) (hT:aY w t A B c d) (b0:Rd w [] 1 Ac j.cols.length (strs j.cols)) (b9:j.cols.length≤4294967296)
  (bk:∀ n∈j.cols,∃ k,an t.cols n=some k) (br:∀ r∈t.rows,r.length=t.cols.length) (hn:t.rows.length≤1000000) (no:Nat) :
  Calls Tryz.prog 100 #[.agg #[FH FI j.at_,FH FI j.code,FD Ao no co,FD Ai ni ci,FD Ac j.cols.length cc,FC (bs j.op),FC (bs j.left.col),FH FI j.left.val.kind,FH FI j.left.val.num,FC (bs j.left.val.word),FC (bs j.right.col),FH FI j.right.val.kind,FH FI j.right.val.num,FC (bs j.right.val.word),FH FI j.retry],jR A t.cols.length c B t.rows.length d] w fun e w'=>(∃ v,e=FF v∧cC w' v (cK t j.cols))∧aa [] w w':=by
 obtain ⟨us,bt,bc,bZ⟩:=hT.rows;obtain ⟨l,bz,Z,ad⟩:=De us t.rows bt bZ;have b1:l.length=t.rows.length:=by rw[←Z,List.length_map]
 rw[←bz] at bc;have bv:cK t j.cols=(ee (fun a b=>Dm (j.cols.map (ed t.cols)) (SR.row a) (SR.row b)) l).map SR.row:=by
  rw[Cq,Z];rfl
 rw[bv];have HCL:=Fk (fun W (q:aa [] w W)=>vK t.rows.length (by omega) (l.map SR.v) (Cr l) B d W (bc.keep q));have HA:=Fk hT.cols;have bm:=Fk b0;have bo:=Fk (fun x (H:x∈l)=>(⟨(ad x H).1,(ad x H).2.1,br _ (by rw[←Z];exact List.mem_map_of_mem H),(ad x H).2.2⟩:x.n=x.row.length∧x.row.length≤x.c∧x.row.length=t.cols.length∧Rd w [] 3 x.A x.row.length (al x.row)));have be:=Fk bk;have ca:=Fk hT.ln;have V:=Fk b1;obtain ⟨M,code,outs,js,cols,op,⟨lc,lk,ln,lw⟩,⟨rc,rk,rn,J⟩,D⟩:=j;have av:Hid (aa [] w ((w.alloc (FG #[FH FI M,FH FI code,FD Ao no co,FD Ai ni ci,FD Ac cols.length cc,FC (bs op),FC (bs lc),FH FI lk,FH FI ln,FC (bs lw),FC (bs rc),FH FI rk,FH FI rn,FC (bs J),FH FI D] 50)).alloc (FG #[FD A t.cols.length c,FD B t.rows.length d] 54))):=Fk (((Fz _ _).alloc _).alloc _);have aA:=Fk (ao.alloc (FA w 50 #[FH FI M,FH FI code,FD Ao no co,FD Ai ni ci,FD Ac cols.length cc,FC (bs op),FC (bs lc),FH FI lk,FH FI ln,FC (bs lw),FC (bs rc),FH FI rk,FH FI rn,FC (bs J),FH FI D]) (FG #[FD A t.cols.length c,FD B t.rows.length d] 54));have N:=Fk (FA (w.alloc (FG #[FH FI M,FH FI code,FD Ao no co,FD Ai ni ci,FD Ac cols.length cc,FC (bs op),FC (bs lc),FH FI lk,FH FI ln,FC (bs lw),FC (bs rc),FH FI rk,FH FI rn,FC (bs J),FH FI D] 50)) 54 #[FD A t.cols.length c,FD B t.rows.length d]);rw[ap] at N;clear hT b0 bk br bt bc bZ bz Z ad b1 bv;show Calls _ _ #[.agg #[FH FI M,FH FI code,FD Ao no co,FD Ai ni ci,FD Ac cols.length cc,FC (bs op),FC (bs lc),FH FI lk,FH FI ln,FC (bs lw),FC (bs rc),FH FI rk,FH FI rn,FC (bs J),FH FI D],.agg #[FD A t.cols.length c,FD B t.rows.length d]] w _;go_enter Tryz.func100,Tryz.ntmps100
 go_wp2_with fail
 obtain ⟨w2,bX⟩:∃ w2,((w.alloc (FG #[FH FI M,FH FI code,FD Ao no co,FD Ai ni ci,FD Ac cols.length cc,FC (bs op),FC (bs lc),FH FI lk,FH FI ln,FC (bs lw),FC (bs rc),FH FI rk,FH FI rn,FC (bs J),FH FI D] 50)).alloc (FG #[FD A t.cols.length c,FD B t.rows.length d] 54))=w2:=⟨_,rfl⟩
 rw[bX] at av aA N ⊢;obtain ⟨bx,a8⟩:∃ bx,w.heap.size=bx:=⟨_,rfl⟩
 have b7:Hid (bx+1<w2.heap.size):=Fk (a8 ▸ N.out.lt);rw[a8] at aA N ⊢;clear bX a8;refine (HCL.out w2 av.out).mono ?_;rintro e I ⟨⟨v,rfl,O⟩,U⟩;have ba:=Fk (av.out.trans U);have a6:=Fk (aA.out.keep U (by simp));have a5:=Fk (N.out.keep U (by simp));rcases O.2 with ⟨rfl,h0⟩|⟨G,cap,cur,rfl,hG,hh,a7,b3,cg,a9⟩
 ·have b6:l=[]:=List.eq_nil_of_length_eq_zero (by rw[V.out];exact h0)
  have cd:=Fk (pa none 0 (.func (.func 142) #[] #[FE (some ⟨bx,0,none⟩),FE (some ⟨bx+1,0,none⟩)]) I);clear U O HCL h0;subst b6;go_wp2_with ((with_reducible refine cd.out.mono ?_);rintro e w5 ⟨rfl,h5⟩)
  go_ret;exact ⟨⟨_,rfl,none,0,rfl,Fu _,[],rfl,Rd.nil,fun i h=>by cases h⟩,ba.out.trans h5⟩
 have b8:I.heap.size>G:=(Array.getElem?_eq_some_iff.1 hh).1;have bq:ao I G 89 (bf l (cur.toList.drop t.rows.length)):=by
  have e:cur=bf l (cur.toList.drop t.rows.length):=by
   unfold bf;rw[Nat.mul_one] at a9;rw[←a9,List.take_append_drop,Array.toArray_toList]
  rw[←e];exact hh
 have b5:=b7.out;have bj:aG I G (cur.toList.drop t.rows.length) l I:=⟨Fz _ _,bq⟩;have b4:w.heap.size≤G:=Ft av.out.size hG;have a0:∀ {size n:Nat} {A:Option Addr} {xs:List Value},Rd w [] size A n xs→Rd I [G] size A n xs:=fun h=>h.apart ba.out fun x H=>by rw[List.mem_singleton.1 H];exact b4
 have bb:∀ x∈l,AV I G t.cols.length x:=fun x H=>by
  obtain ⟨a1,a2,a3,a4⟩:=bo.out x H;exact ⟨a1,a2,a3,a0 a4⟩
 have hO:iY (bO fun x z:SR=>nf (cols.map (ed t.cols)) x.row z.row):=⟨fun a b=>(rf _).total a.row b.row,fun a b c=>(rf _).trans a.row b.row c.row⟩;have hC:tK I G 142 #[FE (some ⟨bx,0,none⟩),FE (some ⟨bx+1,0,none⟩)] (fun x z=>nf (cols.map (ed t.cols)) x.row z.row) (AV I G t.cols.length) :=
  ⟨enters_of Tryz.func142 (by kernel_rfl) rfl,hO,fun x z H hz W hW =>
   tN I G (⟨M,code,outs,js,cols,op,⟨lc,lk,ln,lw⟩,⟨rc,rk,rn,J⟩,D⟩:Jb) t bx (bx+1) A c (FD B t.rows.length d) Ac cc _ a6.out rfl (by omega) a5.out (by omega) (a0 bm.out) (a0 HA.out) ca.out b9 be.out x z H hz W hW⟩
 have ce:=Fk (oY I G (cur.toList.drop t.rows.length) t.rows.length cap hn 142 _ _ _ hC l bb V.out I bj);have HF:Hid (∀ w5,aG I G (cur.toList.drop t.rows.length) (ee (bO fun x z:SR=>nf (cols.map (ed t.cols)) x.row z.row) l) w5→cC w5 (FD (some ⟨G,0,none⟩) t.rows.length cap) ((ee (fun a b=>Dm (cols.map (ed t.cols)) (SR.row a) (SR.row b)) l).map SR.row)∧aa [] w w5):=Fk (fun w5 h5=>by
  have h6:=tP (cap:=cap) h5 (fun x H=>bb x ((gK _).mem_iff.1 H)) (by rw[bG,V.out];exact a7);rw[bG,V.out] at h6;refine ⟨h6,(ba.out.of_nil (L:=[G])).trans h5.k |>.weaken fun x H ch=>?_⟩;rw[List.mem_singleton] at H;omega)
 clear U O HCL hh a7 b3 cg a9 b8 bq b5 bj b4 a0 bb hO hC bo be HA bm a6 a5 aA N;go_wp2_with ((with_reducible refine ce.out.mono ?_);rintro e w5 ⟨rfl,h5⟩;have H5:=Fk h5;clear h5)
 go_ret;exact ⟨⟨_,rfl,(HF.out _ H5.out).1⟩,(HF.out _ H5.out).2⟩
end
section
abbrev Kt:=Int×Bs
abbrev Pc:=Kt×Bs
def kt (t:Tk):Kt:=(t.kind,t.text)
theorem vT (c:UInt8) (t:Bs):bH (c::t)=if jU c then (1,gu sE (c::t)) else if iZ c then (2,gu iZ (c::t)) else if c=39 then (3,if Lib.indexByte t 39<0 then 0 else (Lib.indexByte t 39).toNat+2) else (4,bP (c::t) aJ):=rfl
theorem vU (f:Nat) (c:UInt8) (t:Bs) (i:Nat) (acc:List Tk):fp (f+1) (c::t) i acc=if c=32∨c=10 then fp f t (i+1) acc
  else if (bH (c::t)).2=0 then .error (3,(i:Int))
  else if acc.length=400 then .error (4,(i:Int))
  else fp f ((c::t).drop (bH (c::t)).2) (i+(bH (c::t)).2) (acc++[⟨(bH (c::t)).1,(c::t).take (bH (c::t)).2,(i:Int)⟩]):=rfl
def ue (v:Vl) (e:Bs):List Pc :=
 if v.kind=1 then (if v.num<0 then [((4,[45]),[]),((2,Lib.itoa (-v.num)),e)] else [((2,Lib.itoa v.num),e)])
 else [((3,39::(v.word++[39])),e)]
def ii (a:Ar) (e:Bs):List Pc:=if a.col=[] then ue a.val e else [((1,a.col),e)]
def fy:List Bs→Bs→List Pc
 | [],_=>[]
 | [a],e=>[((1,a),e)]
 | a::b::l,e=>((1,a),[])::((4,[44]),[32])::fy (b::l) e
def pA:List Cl→List Pc
 | []=>[]
 | [c]=>[((1,c.name),[32]),((1,eP c.kind.toNat),[])]
 | c::d::l=>((1,c.name),[32])::((1,eP c.kind.toNat),[])::((4,[44]),[32])::pA (d::l)
def Ee (x:In):List Pc:=((1,[105,110]),[32])::((1,x.name),[])::((4,[58]),[32])::(pA x.cols++[((4,[59]),[10])])
def Bk (x:Pb):List Pc:=[((1,[111,117,116]),[32]),((1,x.name),[32]),((4,[61]),[32]),((1,x.src),[]),((4,[59]),[10])]
def Bl (j:Jb):List Pc :=
 if j.code=7 then [((1,i6 7),[32]),((1,j.ins.getD 0 []),[]),((4,[46]),[]),((1,j.cols.getD 0 []),[]),((4,[44]),[32]),((1,j.ins.getD 1 []),[]),((4,[46]),[]),((1,j.cols.getD 1 []),[])]
 else if j.code=5 then [((1,i6 5),[32]),((1,j.ins.getD 0 []),[]),((4,[44]),[32]),((1,j.ins.getD 1 []),[])]
 else if j.code=6 then [((1,i6 6),[32]),((1,j.ins.getD 0 []),[])]
 else if j.code=2 then ((1,i6 2),[32])::((1,j.ins.getD 0 []),[])::((4,[58]),[32])::((1,j.cols.getD 0 []),[32])::((4,[61]),[32])::(ii j.left [32]++((4,j.op),[32])::ii j.right [])
 else ((1,i6 j.code.toNat),[32])::((1,j.ins.getD 0 []),[32]) ::
  (if j.code=1∨j.code=9 then ((1,[119,104,101,114,101]),[32])::((1,j.left.col),[32])::((4,j.op),[32])::ii j.right []
  else if j.code=8 then [((1,[98,121]),[32]),((1,j.cols.getD 0 []),[32]),((1,j.op),[32]),((1,j.cols.getD 1 []),[])]
  else ((1,[98,121]),[32])::fy j.cols [])
def sa (n:Int):List Pc:=if 0<n then [((1,[114,101,116,114,121]),[32]),((2,Lib.itoa n),[32])] else []
def wP (j:Jb):List Pc:=((1,[106,111,98]),[32])::(fy j.outs [32]++(sa j.retry++((4,[61]),[32])::(Bl j++[((4,[59]),[10])])))
def Ef (f:Fl):List Pc:=f.ins.flatMap Ee++f.jobs.flatMap wP++f.outs.flatMap Bk
end
section
open Go.RowKit Go.BigFrame
attribute [local go_sem] ag ab ae af
theorem Fc:(Tryz.prog.info? 114).map (fun i=>(i.zero,i.size,i.bytes))=some (some (.agg #[FH FI 0,FC ⟨#[]⟩,FH FI 0]),3,32):=by kernel_rfl
theorem vV {P:Program} {T:TypeId} (M:P.underlying T=some .string) (s:Bs) (h:Nat) (H:h≤s.length) (W:World) :
  (Instr.slice T (FC (bs s)) (some (FH FI (h:Int))) none none).run P W= .ok (FC (bs (s.drop h))) W:=by
 have D:(h:Int)≤(s.length:Int):=by omega
 have e:(bs s).extract h s.length=bs (s.drop h):=by rw[ab,List.take_of_length_le (Fm _)]
 rw[←e];have J:h≤(bs s).size:=by rw[ag];exact H
 have I:(h:Int)≤((bs s).size:Int):=by rw[ag];exact D
 go_simp
def Em (R:Except (Int×Int) (List Tk)) (base:Nat) (e:Ending) (w':World):Prop:=match R with
 | .ok l=>∃ A c,e=FF (.tuple #[FD A l.length c,.nilIface])∧w'.ownsRow base 114 3 (FD A l.length c) l.length (ej l)
 | .error x=>∃ h,e=FF (.tuple #[FD none 0 0,.iface 73 (FE (some ⟨h,0,none⟩))])∧ao w' h 75 #[FH FI x.1,FH FI x.2]
theorem mT (acc:List Tk) (k:Int) (u:Bs) (i:Int):ej (acc++[⟨k,u,i⟩])=ej acc++[FH FI k,FC (bs u),FH FI i]:=by simp[ej,uK]
theorem vW (s:Bs) (hs:s.length≤1000000) (w:World) (hE:jW w) :
  Calls Tryz.prog 42 #[FC (bs s)] w fun e w'=>Em (uJ s) w.heap.size e w'∧aa [] w w':=by
 obtain ⟨i0,hi,be,bo,ba⟩:=info_parts Fc;obtain ⟨R,hR⟩:∃ R,uJ s=R:=⟨_,rfl⟩
 rw[hR];unfold uJ at hR;have HR:=Fk hR;have HE:=Fk hE;clear hR hE;go_enter Tryz.func42,Tryz.ntmps42
 go_wp2;go_loopw [4,5] (fun v i wr=>∃ (n f:Nat) (acc:List Tk),n≤s.length∧i=FH FI n∧s.length-n≤f∧acc.length≤400∧Hid (fp f (s.drop n) n acc=R)∧wr.ownsRow w.heap.size 114 3 v acc.length (ej acc)∧aa [] w wr) (fun _ i _=>s.length-(intOf i).toNat)
 case atStart=>exact ⟨0,s.length,[],Fu _,rfl,Fm _,by simp,HR,World.ownsRow_nil _ _ _ _,Fz _ _⟩
 clear HR;obtain ⟨n,f,acc,hn,rfl,hf,a4,HR,V,hk⟩:=hrel;obtain ⟨A,cv,rfl,-⟩:=aq V;have HO:=Fk V;have HK:=Fk hk;have a1:=Fk (show acc.length+1≤maxLen∧(acc.length+1)*32≤140737488355328 by simp only[maxLen];omega);have a9:=Fk (show w.heap.size≤wr.heap.size+1 from Nat.le_succ_of_le hk.size);clear V hk;by_cases bj:n<s.length
 ·have br:(n:Int)<(s.length:Int):=by omega
  obtain ⟨f,rfl⟩:∃ m,f=m+1:=⟨f-1,by omega⟩
  have a8:((bs s)[n]'(by rw[ag];exact bj))=s[n]:=iR s n _;have I:s.drop n=s[n]::s.drop (n+1):=List.drop_eq_getElem_cons bj;have a3:=fun W=>vV (P:=Tryz.prog) Tryz.underlying9 s n hn W
  obtain ⟨c,hc⟩:∃ c,s[n]=c:=⟨_,rfl⟩
  obtain ⟨t,ht⟩:∃ t,s.drop (n+1)=t:=⟨_,rfl⟩
  rw[hc] at a8 I;rw[ht] at I;rw[I] at a3;have bq:t.length+n+1=s.length:=by rw[←ht,List.length_drop];omega
  have Z:c=32↔(c.toNat:Int)=32:=⟨fun h=>by rw[h];rfl,fun h=>UInt8.toNat_inj.1 (by have:(32:UInt8).toNat=32:=rfl;omega)⟩;have O:c=10↔(c.toNat:Int)=10:=⟨fun h=>by rw[h];rfl,fun h=>UInt8.toNat_inj.1 (by have:(10:UInt8).toNat=10:=rfl;omega)⟩;have M:Hid ((if c=32∨c=10 then fp f t (n+1) acc
 else if (bH (c::t)).2=0 then .error (3,(n:Int))
 else if acc.length=400 then .error (4,(n:Int))
 else fp f ((c::t).drop (bH (c::t)).2) (n+(bH (c::t)).2) (acc++[⟨(bH (c::t)).1,(c::t).take (bH (c::t)).2,n⟩]))=R):=Fk (by rw[←HR.out,I];rfl)
  have HT:=Fk ht;have HD:=Fk I;clear HR hc ht;by_cases J:c=32
  ·have t1:((c.toNat:Int)==32)=true:=by rw[beq_iff_eq];exact Z.1 J
   have HQ:Hid (fp f (s.drop (n+1)) (n+1) acc=R):=Fk (by rw[HT.out,←M.out,if_pos (.inl J)]);clear Z O J M I a3;go_wp2;go_roundw
   case rel=>exact ⟨n+1,f,acc,by omega,by go_num,by omega,a4,HQ,HO.out,HK.out⟩
   case measure=>simp[intOf];omega
  have t1:((c.toNat:Int)==32)=false:=by rw[beq_eq_false_iff_ne];exact fun h=>J (Z.2 h)
  by_cases N:c=10
  ·have t2:((c.toNat:Int)==10)=true:=by rw[beq_iff_eq];exact O.1 N
   have HQ:Hid (fp f (s.drop (n+1)) (n+1) acc=R):=Fk (by rw[HT.out,←M.out,if_pos (.inr N)]);clear Z O J N M I a3;go_wp2;go_roundw
   case rel=>exact ⟨n+1,f,acc,by omega,by go_num,by omega,a4,HQ,HO.out,HK.out⟩
   case measure=>simp[intOf];omega
  have t2:((c.toNat:Int)==10)=false:=by rw[beq_eq_false_iff_ne];exact fun h=>N (O.2 h)
  have a2:Hid ((if (bH (c::t)).2=0 then .error (3,(n:Int))
 else if acc.length=400 then .error (4,(n:Int))
 else fp f ((c::t).drop (bH (c::t)).2) (n+(bH (c::t)).2) (acc++[⟨(bH (c::t)).1,(c::t).take (bH (c::t)).2,n⟩]))=R):=Fk (by rw[←M.out];exact (if_neg (fun h=>h.elim J N)).symm)
  have HN:=Fk (Bx c t (by omega) wr (HE.out.quiet HK.out));have bb:=sM c t;obtain ⟨km,bc⟩:∃ km,bH (c::t)=km:=⟨_,rfl⟩
  obtain ⟨k,m⟩:=km;rw[bc] at HN a2 bb;simp only[Fv] at bb;clear Z O J N M I bc;by_cases hm:m=0
  ·subst hm
   have HX:Hid (R= .error (3,(n:Int))):=Fk (by rw[←a2.out];exact if_pos rfl);go_wp2_with fail
   refine HN.out.mono ?_;rintro e w2 ⟨rfl,rfl⟩;go_wp2;go_ret2;exact ⟨by rw[HX.out];exact ⟨_,rfl,FA _ _ _⟩,HK.out.alloc _⟩
  have m0:((m:Int)==0)=false:=by rw[beq_eq_false_iff_ne];omega
  by_cases h4:acc.length=400
  ·have HX:Hid (R= .error (4,(n:Int))):=Fk (by rw[←a2.out];exact (if_neg hm).trans (if_pos h4))
   have a0:((acc.length:Int)==400)=true:=by rw[beq_iff_eq];omega
   go_wp2_with fail
   refine HN.out.mono ?_;rintro e w2 ⟨rfl,rfl⟩;go_wp2;go_ret2;exact ⟨by rw[HX.out];exact ⟨_,rfl,FA _ _ _⟩,HK.out.alloc _⟩
  have a0:((acc.length:Int)==400)=false:=by rw[beq_eq_false_iff_ne];omega
  have a6:=fun W=>jG (P:=Tryz.prog) Tryz.underlying9 s n (n+m) (by omega) (by omega) W
  have bk:(s.take (n+m)).drop n=(c::t).take m:=by rw[List.drop_take,HD.out,show n+m-n=m by omega]
  rw[bk,show ((n+m:Nat):Int)=(n:Int)+(m:Int) by omega] at a6;obtain ⟨u,hu⟩:∃ u,(c::t).take m=u:=⟨_,rfl⟩
  rw[hu] at a6;have HQ:Hid (fp f (s.drop (n+m)) (n+m) (acc++[⟨k,u,(n:Int)⟩])=R):=Fk (by
   rw[←a2.out,←hu,show s.drop (n+m)=(c::t).drop m by rw[←HD.out,List.drop_drop]];exact ((if_neg hm).trans (if_neg h4)).symm)
  clear bk hu;go_wp2_with fail
  refine HN.out.mono ?_;rintro e w2 ⟨rfl,rfl⟩;go_wp2_with (at_builtin;refine wpList_append_lies _ rfl _ _ 106 rfl _ 114 i0 _ 3 32 Tryz.underlying106 hi be bo ba rfl (by decide) _ acc.length (ej acc) rfl (HO.out.alloc _) ⟨wr.heap.size,0,none⟩ 1 1 [FH FI k,FC (bs u),FH FI n] rfl rfl (Fx (heap_alloc_new _ _)) (by simp[Value.oneCell']) (by decide) a1.out.1 a1.out.2 (by simp;exact a9.out) _ rfl ?_;intro gw bm w8 D H ad aA)
  have a5:=Fk ((HK.out.alloc _).grown H (fun g hg=> .inr (HO.out.lt g hg).1));rw[←mT] at D;have a7:=Fk D;have av:(acc++[⟨k,u,(n:Int)⟩]:List Tk).length=acc.length+1:=by simp
  have U:=Fk av;clear D H ad aA av a6 a3;go_wp2;go_roundw
  case rel=>exact ⟨n+m,f,acc++[⟨k,u,(n:Int)⟩],by omega,by go_num,by omega,by rw[U.out];omega,HQ,by rw[U.out];exact a7.out,a5.out⟩
  case measure=>simp[intOf];omega
 ·obtain rfl:n=s.length:=by omega
  have HX:Hid (R= .ok (acc++[⟨5,[],(s.length:Int)⟩])):=Fk (by
   rw[←HR.out,List.drop_of_length_le (Fm _)];cases f<;>rfl)
  have av:(acc++[⟨5,[],(s.length:Int)⟩]:List Tk).length=acc.length+1:=by simp
  have U:=Fk av;clear av HR;go_wp2_with (at_builtin;refine wpList_append_lies _ rfl _ _ 106 rfl _ 114 i0 _ 3 32 Tryz.underlying106 hi be bo ba rfl (by decide) _ acc.length (ej acc) rfl (HO.out.alloc _) ⟨wr.heap.size,0,none⟩ 1 1 [FH FI 5,FC (bs []),FH FI s.length] rfl rfl (Fx (heap_alloc_new _ _)) (by simp[Value.oneCell']) (by decide) a1.out.1 a1.out.2 (by simp;exact a9.out) _ rfl ?_;intro gw bm w8 D H ad aA)
  have a5:=Fk ((HK.out.alloc _).grown H (fun g hg=> .inr (HO.out.lt g hg).1));rw[←mT] at D;have a7:=Fk D;clear D H ad aA;go_wp2;go_ret2;exact ⟨by rw[HX.out];exact ⟨_,_,by rw[U.out];rfl,by rw[U.out];exact a7.out⟩,a5.out⟩
end
section
open Go.RowKit Go.ChangeShapes Go.WideShapes
def CW:DataW Unit→Bs
 | .lit (.string s)=>s
 | _=>[]
theorem En.cg:Tryz.prog.globalNamed "foreman/ops.compares" = some 1:=by kernel_rfl
theorem En.ct:(Tryz.prog.globals[1]?).map (·.type)=some 44:=by kernel_rfl
theorem ut {W:World} (h:laidMet Tryz.prog [("foreman/ops.compares",Rows.laid_foreman_ops_compares)] W):∃ A c,W.cell? ⟨1,0,none⟩=some (.slice A 6 c)∧Rd W [] 1 A 6 (strs compares):=by
 obtain ⟨ps,⟨g',t',cs,fuel,p,q,Z,O,J,hd,_,_⟩,_⟩:=h;obtain rfl:=Option.some.inj (En.cg.symm.trans Z);obtain rfl:=Option.some.inj (En.ct.symm.trans O);rcases open_strings Tryz.underlying44 Tryz.underlying9 (by kernel_rfl) hd with ⟨_,h0⟩|⟨a,H,cap,ss,V,_,hl,av,I,hx,D,hw⟩
 ·have:=congrArg Prod.fst h0
  cases this
 have h1:=congrArg Prod.fst hx;injection h1 with e1 e2;have e3:compares=(ss.take H).map (·.data.toList):=by
  have:=congrArg (List.map CW) e1;refine (Eq.trans (by rfl) this).trans ?_;unfold Go.ChangeShapes.strs;rw[List.map_map];rfl
 have aA:H≤ss.length:=by rw[I];split<;>omega
 have U:H=6:=by
  have:=congrArg List.length e3;simp[compares] at this;omega
 subst U;have ad:W.cell? ⟨1,0,none⟩=some (.slice (some a) 6 cap):=by
  rw[World.var?_cell En.cg J 0,←Array.getElem?_toList,V];rfl
 refine ⟨some a,cap,ad,rfl,fun _=>⟨a,rfl,by simp,?_,fun j u N=>?_⟩⟩
 ·have:=Fq _ _ (D 0 (by omega))
  rwa [cY] at this
 rw[e3] at N;unfold strs at N;rw[List.map_map,List.getElem?_map,Option.map_eq_some_iff] at N;obtain ⟨y,M,rfl⟩:=N;rw[List.getElem?_take] at M;split at M
 ·rename_i hj
  rw[D j (by omega),Fy,M];rfl
 cases M
end
end Go.Proofs.YtecpeogejjibaaaGreatDoor
