/- ops.Cols, of every code. ops.sorted: its comparison, and itself. ops: holds. ops: arg. The package-level variables that jobs lean on, all of them. A text of pieces, each a token and the blanks behind it, is cut into these tokens: plain. A flow's pieces: its tokens, each with the blanks behind it, as it is written: plain. The cutter: tokens. The marks that compare, out of a row's laid list. -/
import Derived.Test.YtecpeogejjibaaaGreatDoorEmoM10
import Derived.StillTailTactics
import Derived.Test.YtecpeogejjibaaaGreatDoorEmoM5
import Derived.Test.YtecpeogejjibaaaGreatDoorEmoM3
import Derived.Test.YtecpeogejjibaaaGreatDoorEmoM2
import Derived.Test.YtecpeogejjibaaaGreatDoorEmoM4
import Derived.Test.YtecpeogejjibaaaGreatDoorEmoM6
import Derived.Test.YtecpeogejjibaaaGreatDoorEmoM9
set_option linter.unusedSimpArgs false
set_option linter.unusedVariables false
set_option maxRecDepth 100000
set_option maxHeartbeats 16000000
namespace Go.Proofs.YtecpeogejjibaaaGreatDoor
open Go.Lib renaming hid → Fx
open _root_.Nat renaming le_refl → Fy, le_trans → FD, zero_le → FF
open _root_.List renaming getElem?_eq_getElem → FA, getElem_mem → FE, length_cons → FG, getD_eq_getElem?_getD → FJ
open Go.World renaming block_lt_of_cell? → FC, news_of_block → FI
open aa renaming refl → FK
open ao renaming new → FL
open Go.Value renaming string → FM, slice → FN, pointer → FO, int → FR
open Go.Ending renaming returned → FP
open Go.Obj renaming cells → FQ
open Go.IntKind renaming i64 → FS
section
open Go.RowKit Go.BigFrame
attribute [local go_sem] ag ab ae af
attribute [local go_sem] KW.cell
theorem D4 (J D U ln O N:Int) (outs js cols:List Bs) (op lc Z rc M:Bs) (Ao:Option Addr) (co:Nat) (Ai:Option Addr) (ni ci:Nat) (Ac:Option Addr) (cc:Nat) (ins:List (List Cl)) (AH:Option Addr) (ch:Nat) (w:World) (hH:aU w AH ins) (hi:ins.length=2) (ho:outs.length=1)
  (hf:∀ A d B e W,(ins.getD 0 []).length≤d→Rd w [] 2 A (ins.getD 0 []).length (ai (ins.getD 0 []))→(ins.getD 1 []).length≤e→Rd w [] 2 B (ins.getD 1 []).length (ai (ins.getD 1 []))→aa [] w W→Calls Tryz.prog 61 #[eM (⟨J,7,outs,js,cols,op,⟨lc,U,ln,Z⟩,⟨rc,O,N,M⟩,D⟩:Jb) Ao co Ai ni ci Ac cc,FN A (ins.getD 0 []).length d,FN B (ins.getD 1 []).length e] W fun e w'=>aP (dj (⟨J,7,outs,js,cols,op,⟨lc,U,ln,Z⟩,⟨rc,O,N,M⟩,D⟩:Jb) (ins.getD 0 []) (ins.getD 1 [])) e w'∧aa [] W w') :
  Calls Tryz.prog 22 #[.agg #[FR FS J,FR FS 7,FN Ao outs.length co,FN Ai ni ci,FN Ac cols.length cc,FM (bs op),FM (bs lc),FR FS U,FR FS ln,FM (bs Z),FM (bs rc),FR FS O,FR FS N,FM (bs M),FR FS D],FN AH ins.length ch] w fun e w'=>aP (dj (⟨J,7,outs,js,cols,op,⟨lc,U,ln,Z⟩,⟨rc,O,N,M⟩,D⟩:Jb) (ins.getD 0 []) (ins.getD 1 [])) e w'∧aa [] w w':=by
 obtain ⟨b,o,A,d,rfl,hb,a2,hd,hA⟩:=hH.first (by omega) (by omega);obtain ⟨B,dB,a0,a5,hB⟩:=hH.second (by omega) (by omega);have HF:=Fx (fun W=>hf A d B dB W hd hA a5 hB);clear hf hA hB hH;generalize dj (⟨J,7,outs,js,cols,op,⟨lc,U,ln,Z⟩,⟨rc,O,N,M⟩,D⟩:Jb) (ins.getD 0 []) (ins.getD 1 [])=R at *;have HF':Hid (∀ W,aa [] w W→Calls Tryz.prog 61 #[.agg #[FR FS J,FR FS 7,FN Ao outs.length co,FN Ai ni ci,FN Ac cols.length cc,FM (bs op),FM (bs lc),FR FS U,FR FS ln,FM (bs Z),FM (bs rc),FR FS O,FR FS N,FM (bs M),FR FS D],FN A (ins.getD 0 []).length d,FN B (ins.getD 1 []).length dB] W fun e w'=>aP R e w'∧aa [] W w'):=HF;clear HF;generalize (ins.getD 0 []).length=n at *;generalize (ins.getD 1 []).length=n' at *;have HS:Hid (∀ W,Calls Tryz.prog 57 #[FR FS 7] W fun e W'=>e=FP (.tuple #[FR FS 2,FR FS 1])∧W=W'):=Fx fun W=>by
  have h:=du 7 W;rw[show au 7=(2,1) by decide] at h;exact h
 rw[hi];rw[ho] at HF' ⊢;clear hi ho;go_enter Tryz.func22,Tryz.ntmps22
 go_wp2_with (go_at_call 57;refine (HS.out _).mono ?_;rintro e w6 ⟨rfl,rfl⟩)
 go_upto_region 18 with (fail)
 have I:ao (w.alloc (FQ #[FR FS J,FR FS 7,FN Ao 1 co,FN Ai ni ci,FN Ac cols.length cc,FM (bs op),FM (bs lc),FR FS U,FR FS ln,FM (bs Z),FM (bs rc),FR FS O,FR FS N,FM (bs M),FR FS D] 50)) w.heap.size 50 #[FR FS J,FR FS 7,FN Ao 1 co,FN Ai ni ci,FN Ac cols.length cc,FM (bs op),FM (bs lc),FR FS U,FR FS ln,FM (bs Z),FM (bs rc),FR FS O,FR FS N,FM (bs M),FR FS D]:=FL _ _ _;have ad:aa [] w (w.alloc (FQ #[FR FS J,FR FS 7,FN Ao 1 co,FN Ai ni ci,FN Ac cols.length cc,FM (bs op),FM (bs lc),FR FS U,FR FS ln,FM (bs Z),FM (bs rc),FR FS O,FR FS N,FM (bs M),FR FS D] 50)):=(FK _ _).alloc _;generalize w.alloc (FQ #[FR FS J,FR FS 7,FN Ao 1 co,FN Ai ni ci,FN Ac cols.length cc,FM (bs op),FM (bs lc),FR FS U,FR FS ln,FM (bs Z),FM (bs rc),FR FS O,FR FS N,FM (bs M),FR FS D] 50)=y at I ad ⊢;have a6:∀ W,aa [] y W→W.cell? ⟨b,o+1,none⟩=some (FN B n' dB):=fun W z=>(ad.trans z).cell_of a0 (by simp)
 have y0:∀ W,aa [] y W→W.cell? ⟨w.heap.size,0,none⟩=some (FR FS J):=fun W z=>(I.keep z (by simp)).cell 0
 have y1:∀ W,aa [] y W→W.cell? ⟨w.heap.size,1,none⟩=some (FR FS 7):=fun W z=>(I.keep z (by simp)).cell 1
 have y2:∀ W,aa [] y W→W.cell? ⟨w.heap.size,2,none⟩=some (FN Ao 1 co):=fun W z=>(I.keep z (by simp)).cell 2
 have y3:∀ W,aa [] y W→W.cell? ⟨w.heap.size,3,none⟩=some (FN Ai ni ci):=fun W z=>(I.keep z (by simp)).cell 3
 have y4:∀ W,aa [] y W→W.cell? ⟨w.heap.size,4,none⟩=some (FN Ac cols.length cc):=fun W z=>(I.keep z (by simp)).cell 4
 have y5:∀ W,aa [] y W→W.cell? ⟨w.heap.size,5,none⟩=some (FM (bs op)):=fun W z=>(I.keep z (by simp)).cell 5
 have y6:∀ W,aa [] y W→W.cell? ⟨w.heap.size,6,none⟩=some (FM (bs lc)):=fun W z=>(I.keep z (by simp)).cell 6
 have y7:∀ W,aa [] y W→W.cell? ⟨w.heap.size,7,none⟩=some (FR FS U):=fun W z=>(I.keep z (by simp)).cell 7
 have y8:∀ W,aa [] y W→W.cell? ⟨w.heap.size,8,none⟩=some (FR FS ln):=fun W z=>(I.keep z (by simp)).cell 8
 have y9:∀ W,aa [] y W→W.cell? ⟨w.heap.size,9,none⟩=some (FM (bs Z)):=fun W z=>(I.keep z (by simp)).cell 9
 have ba:∀ W,aa [] y W→W.cell? ⟨w.heap.size,10,none⟩=some (FM (bs rc)):=fun W z=>(I.keep z (by simp)).cell 10
 have a9:∀ W,aa [] y W→W.cell? ⟨w.heap.size,11,none⟩=some (FR FS O):=fun W z=>(I.keep z (by simp)).cell 11
 have a8:∀ W,aa [] y W→W.cell? ⟨w.heap.size,12,none⟩=some (FR FS N):=fun W z=>(I.keep z (by simp)).cell 12
 have bb:∀ W,aa [] y W→W.cell? ⟨w.heap.size,13,none⟩=some (FM (bs M)):=fun W z=>(I.keep z (by simp)).cell 13
 have a7:∀ W,aa [] y W→W.cell? ⟨w.heap.size,14,none⟩=some (FR FS D):=fun W z=>(I.keep z (by simp)).cell 14
 generalize w.heap.size=bx at *;clear I a0 a2;have a1:=Fx ad;clear ad;go_region_held3 (fun W=>aa [] y W) (first|exact (FK [] y).drew|exact (FK [] y).drew.trans aA) (first|((with_reducible refine (HF'.out _ a1.out.drew).mono ?_);rintro e w3 ⟨av,aA⟩;obtain ⟨u,v,rfl,av⟩:=av.split))
 have a4:=Fx av;have a3:=Fx (a1.out.drew.trans aA);clear aA av;go_wp2;go_ret2;exact ⟨a4.out,a3.out⟩
theorem lY (j:Jb) (M:Option Addr) (N:Nat) (U:Option Addr) (ni Z:Nat) (O:Option Addr) (cc:Nat) (ins:List (List Cl)) (AH:Option Addr) (ch:Nat) (w:World) (hE:rC w) (hJ:gT w j M N O cc) (hH:aU w AH ins) (aA:∀ l∈ins,l.length≤4294967) :
  Calls Tryz.prog 22 #[eM j M N U ni Z O cc,FN AH ins.length ch] w fun e w'=>aP (aL j ins) e w'∧aa [] w w':=by
 have J:∀ k,(ins.getD k []).length≤4294967:=fun k=>by
  by_cases hk:k<ins.length
  ·rw[FJ,FA hk]
   exact aA _ (FE hk)
  rw[FJ,List.getElem?_eq_none (by omega)];simp
 by_cases h7:j.code=7
 ·unfold aL
  by_cases D:(au j.code).1=0∨ins.length≠(au j.code).1∨j.outs.length≠(au j.code).2
  ·rw[if_pos D]
   obtain ⟨ad,code,outs,js,cols,op,⟨lc,lk,ln,lw⟩,⟨rc,rk,rn,av⟩,I⟩:=j;exact sX _ _ _ _ _ _ _ _ js _ _ _ _ _ _ _ _ _ _ _ _ _ _ _ _ _ D
  rw[if_neg D];have hi:ins.length=(au j.code).1:=Decidable.byContradiction fun h=>D (.inr (.inl h))
  have ho:j.outs.length=(au j.code).2:=Decidable.byContradiction fun h=>D (.inr (.inr h))
  have a0:=fun A d B e W (_:(ins.getD 0 []).length≤d) (h2:Rd w [] 2 A (ins.getD 0 []).length (ai (ins.getD 0 []))) (h3:(ins.getD 1 []).length≤e) (h4:Rd w [] 2 B (ins.getD 1 []).length (ai (ins.getD 1 []))) (q:aa [] w W)=>uT j (ins.getD 0 []) (ins.getD 1 []) M N U ni Z O cc A d B e W (hJ.quiet q) (h2.keep q) (J 0) (h4.keep q) h3 (J 1)
  clear D hE hJ;obtain ⟨ad,code,outs,js,cols,op,⟨lc,lk,ln,lw⟩,⟨rc,rk,rn,av⟩,I⟩:=j;simp only at h7 hi ho ⊢;subst h7;exact D4 ad I lk ln rk rn outs js cols op lc lw rc av M N U ni Z O cc ins AH ch w hH hi ho a0
 exact ot j M N U ni Z O cc ins AH ch w hE hJ hH (fun l hl=>FD (aA l hl) (by decide)) h7 (fun _ A d W h1 h2 q=>sW j (ins.getD 0 []) M N U ni Z O cc A d W (hJ.quiet q) (h2.keep q) (FD (J 0) (by decide)))
end
section
open Go.RowKit Go.BigFrame
attribute [local go_sem] ag ab ae af KW.cell
theorem yJ (k:Nat) (h:List Nat) (x z:List Vl):mX (k::h) x z=if cL (x.getD k zV) (z.getD k zV)=true then -1 else if cL (z.getD k zV) (x.getD k zV)=true then 1 else mX h x z:=rfl
def AQ (y:World) (G:Nat) (m:Nat) (x:SR):Prop:=x.n=x.row.length∧x.row.length≤x.c∧x.row.length=m∧Rd y [G] 3 x.A x.row.length (al x.row)
theorem tJ (y:World) (G:Nat) (j:Jb) (t:Tb) (bj bt:Nat) (A:Option Addr) (c:Nat) (vb:Value) (Ac:Option Addr) (cc:Nat) (cs:Array Value)
  (bv:ao y bj 50 cs) (ba:cs[4]? = some (FN Ac j.cols.length cc)) (ch:bj≠G)
  (bc:ao y bt 54 #[FN A t.cols.length c,vb]) (cj:bt≠G)
  (bq:Rd y [G] 1 Ac j.cols.length (strs j.cols)) (hA:Rd y [G] 2 A t.cols.length (ai t.cols)) (hl:t.cols.length≤4294967296) (ct:j.cols.length≤4294967296)
  (bX:∀ n∈j.cols,∃ k,an t.cols n=some k) (x z:SR) (hx:AQ y G t.cols.length x) (hz:AQ y G t.cols.length z) (W:World) (hW:aa [G] y W) :
  Calls Tryz.prog 142 #[x.v,z.v,FO (some ⟨bj,0,none⟩),FO (some ⟨bt,0,none⟩)] W fun e W'=>e=FP (FR FS (mX (j.cols.map (eg t.cols)) x.row z.row))∧aa [] W W':=by
 obtain ⟨xA,xn,xc,xr⟩:=x;obtain ⟨zA,zn,zc,zr⟩:=z;obtain ⟨bk,cg,a5,a6⟩:=hx;obtain ⟨bm,b4,a9,a7⟩:=hz;simp only at bk cg a5 a6 bm b4 a9 a7;subst bk bm;have HJ:=Fx (bv.keep hW (by simpa using ch));have HT:=Fx (bc.keep hW (by simpa using cj));have ad:∀ x∈([]:List Nat),x<W.heap.size→x∈[G]:=fun x h=>by cases h
 have b5:=Fx ((bq.keep hW).move ad);have HA:=Fx ((hA.keep hW).move ad);have HX:=Fx ((a6.keep hW).move ad);have HZ:=Fx ((a7.keep hW).move ad);have b0:=Fx bX;have b6:=Fx ba;obtain ⟨R,hR⟩:∃ R,mX (j.cols.map (eg t.cols)) xr zr=R:=⟨_,rfl⟩
 rw[hR];have HR:=Fx hR;have b3:=Fx a5;have b8:=Fx a9;clear bv bc bq hA a6 a7 bX ba ad hR hW a5 a9;show Calls _ _ #[FN xA xr.length xc,FN zA zr.length zc,FO (some ⟨bj,0,none⟩),FO (some ⟨bt,0,none⟩)] W _;have d4:W.cell? ⟨bj,4,none⟩=some (FN Ac j.cols.length cc):=(HJ.out.cell 4).trans b6.out;go_enter Tryz.func142,Tryz.ntmps142
 go_wp2_with fail
 clear d4;go_loopw [13] (fun i wr=>∃ n:Nat,n≤j.cols.length∧i=FR FS n∧Hid (mX ((j.cols.drop n).map (eg t.cols)) xr zr=R)∧aa [] W wr) (fun i _=>j.cols.length-(intOf i).toNat)
 case atStart=>exact ⟨0,FF _,rfl,by rw[List.drop_zero];exact HR,FK _ _⟩
 clear HR;obtain ⟨n,hn,rfl,HC,hk⟩:=hrel;have HK:=Fx hk;clear hk;by_cases a8:n<j.cols.length
 ·obtain ⟨b,o,ce,_,hb,hc⟩:=(b5.out.keep HK.out).open' (by omega) (by omega)
  subst ce;have d1:=hc n _ (cC j.cols n a8);have br:j.cols.drop n=j.cols[n]::j.cols.drop (n+1):=List.drop_eq_getElem_cons a8;obtain ⟨k,hk⟩:=b0.out j.cols[n] (FE a8);have hC:=HC.out;rw[br,List.map_cons,yJ] at hC;have bZ:eg t.cols j.cols[n]=k:=by unfold eg;rw[hk];rfl
  rw[bZ] at hC;have cu:k<t.cols.length:=by
   have:=List.findIdx?_eq_some_iff_getElem.1 hk;exact this.1
  generalize j.cols[n]=nm at *;have HF:=Fx (fun W' (q:aa [] wr W')=>bU t.cols nm A c W' (HA.out.keep (HK.out.trans q)) hl);rw[hk] at HF;have HF':Hid (∀ W',aa [] wr W'→Calls Tryz.prog 89 #[FN A t.cols.length c,FM (bs nm)] W' fun e w'=>e=FP (FR FS (k:Int))∧aa [] W' w'):=HF;have a1:k<xr.length:=by have:=b3.out;omega
  have aA:k<zr.length:=by have:=b8.out;omega
  obtain ⟨bx,ox,ci,_,b9,av⟩:=(HX.out.keep HK.out).open' (by omega) (by omega);obtain ⟨bz,oz,ca,_,b7,a0⟩:=(HZ.out.keep HK.out).open' (by omega) (by omega);subst ci ca;have x1:=av (k*3) _ (ay xr k a1).1;have x2:=av (k*3+1) _ (ay xr k a1).2.1;have x3:=av (k*3+2) _ (ay xr k a1).2.2;rw[←Nat.add_assoc] at x2 x3;have z1:=a0 (k*3) _ (ay zr k aA).1;have z2:=a0 (k*3+1) _ (ay zr k aA).2.1;have z3:=a0 (k*3+2) _ (ay zr k aA).2.2;rw[←Nat.add_assoc] at z2 z3;have gx:xr.getD k zV=xr[k]:=by rw[FJ,FA a1];rfl
  have gz:zr.getD k zV=zr[k]:=by rw[FJ,FA aA];rfl
  rw[gx,gz] at hC;generalize xr[k]=vx at *;generalize zr[k]=vz at *;obtain ⟨N,J,Z⟩:=vx;obtain ⟨U,M,O⟩:=vz;have bl:Hid (∀ W',aa [] wr W'→Calls Tryz.prog 138 #[.agg #[FR FS N,FR FS J,FM (bs Z)],.agg #[FR FS U,FR FS M,FM (bs O)]] W' fun e w'=>e=FP (.bool (cL ⟨N,J,Z⟩ ⟨U,M,O⟩))∧aa [] W' w'):=Fx fun W' _=>lE ⟨N,J,Z⟩ ⟨U,M,O⟩ W'
  have be:Hid (∀ W',aa [] wr W'→Calls Tryz.prog 138 #[.agg #[FR FS U,FR FS M,FM (bs O)],.agg #[FR FS N,FR FS J,FM (bs Z)]] W' fun e w'=>e=FP (.bool (cL ⟨U,M,O⟩ ⟨N,J,Z⟩))∧aa [] W' w'):=Fx fun W' _=>lE ⟨U,M,O⟩ ⟨N,J,Z⟩ W'
  have cq:bt<wr.heap.size:=(HT.out.keep HK.out (by simp)).lt;have y0:wr.cell? ⟨bt,0,none⟩=some (FN A t.cols.length c):=(HT.out.keep HK.out (by simp)).cell 0;have cr:(0:Int)≤(n:Int):=by omega
  have cv:(n:Int)<(j.cols.length:Int):=by omega
  have co:(0:Int)≤(k:Int):=by omega
  have hkx':(k:Int)<(xr.length:Int):=by omega
  have hkz':(k:Int)<(zr.length:Int):=by omega
  clear av a0 hc br HF gx gz bZ hk HC;generalize cL ⟨N,J,Z⟩ ⟨U,M,O⟩=b1 at *;generalize cL ⟨U,M,O⟩ ⟨N,J,Z⟩=b2 at *;go_wp2_with fail
  refine (HF'.out wr (FK _ _)).mono ?_;rintro e w3 ⟨rfl,I⟩;have x1:=I.cell_of x1 (by simp);have x2:=I.cell_of x2 (by simp);have x3:=I.cell_of x3 (by simp);have z1:=I.cell_of z1 (by simp);have z2:=I.cell_of z2 (by simp);have z3:=I.cell_of z3 (by simp);have bo:bx<w3.heap.size:=Nat.lt_of_lt_of_le b9 I.size;have bb:bz<w3.heap.size:=Nat.lt_of_lt_of_le b7 I.size;have a4:=Fx I;have HL1':=Fx (fun W' (q:aa [] w3 W')=>bl.out W' (a4.out.trans q));clear I bl d1
  cases b1 with
  | true =>
   have HC':Hid (R= -1):=Fx (by rw[if_pos rfl] at hC;exact hC.symm);clear hC;go_wp2_with fail
   refine ah (by kernel_rfl) (by kernel_rfl) ?_;repeat (go_big_quiet_step (first|with_reducible exact KW.of HL1'.out _))
   refine wpQuiet_nil ?_;intro w5 D;go_wp2;go_ret;exact ⟨by rw[HC'.out];rfl,(HK.out.trans a4.out).trans D⟩
  | false =>
   rw[if_neg (by decide)] at hC;go_wp2_with fail
   refine ah (by kernel_rfl) (by kernel_rfl) ?_;repeat (go_big_quiet_step (first|with_reducible exact KW.of HL1'.out _))
   refine wpQuiet_nil ?_;intro w5 D;have x1:=D.cell_of x1 (by simp);have x2:=D.cell_of x2 (by simp);have x3:=D.cell_of x3 (by simp);have z1:=D.cell_of z1 (by simp);have z2:=D.cell_of z2 (by simp);have z3:=D.cell_of z3 (by simp);have cm:bx<w5.heap.size:=Nat.lt_of_lt_of_le bo D.size;have cn:bz<w5.heap.size:=Nat.lt_of_lt_of_le bb D.size;have a3:=Fx (a4.out.trans D);have HL2':=Fx (fun W' (q:aa [] w5 W')=>be.out W' (a3.out.trans q));clear D HL1' be
   cases b2 with
   | true =>
    have HC':Hid (R=1):=Fx (by rw[if_pos rfl] at hC;exact hC.symm);clear hC;go_wp2_with fail
    refine ah (by kernel_rfl) (by kernel_rfl) ?_;repeat (go_big_quiet_step (first|with_reducible exact KW.of HL2'.out _))
    refine wpQuiet_nil ?_;intro w6 a2;go_wp2;go_ret;exact ⟨by rw[HC'.out];rfl,(HK.out.trans a3.out).trans a2⟩
   | false =>
    have HC':Hid (mX ((j.cols.drop (n+1)).map (eg t.cols)) xr zr=R):=Fx (by rw[if_neg (by decide)] at hC;exact hC);clear hC;go_wp2_with fail
    refine ah (by kernel_rfl) (by kernel_rfl) ?_;repeat (go_big_quiet_step (first|with_reducible exact KW.of HL2'.out _))
    refine wpQuiet_nil ?_;intro w6 a2;have cd:=Fx ((HK.out.trans a3.out).trans a2);clear a2;go_wp2;go_roundw
    case rel=>exact ⟨n+1,by omega,by go_num,HC',cd.out⟩
    case measure=>simp[intOf];omega
 have HC':Hid (R=0):=Fx (by
  have h:=HC.out;rw[List.drop_eq_nil_of_le (by omega)] at h;exact h.symm)
 go_wp2;go_ret;exact ⟨by rw[HC'.out];rfl,HK.out⟩
end
section
open Go.RowKit Go.BigFrame
attribute [local go_sem] ag ab ae af
attribute [local go_sem] KW.cell
theorem qK (a:Vl) (op:Bs) (b:Vl) (w:World) :
  Calls Tryz.prog 97 #[fV a,FM (bs op),fV b] w fun e w'=>e=FP (.bool (nK a op b))∧aa [] w w':=by
 obtain ⟨R,hR⟩:∃ R,nK a op b=R:=⟨_,rfl⟩
 rw[hR];have HR:Hid (R=if op=[61] then !cL a b && !cL b a else if op=[60,62] then cL a b||cL b a else if op=[60] then cL a b else if op=[60,61] then !cL b a else if op=[62] then cL b a else !cL a b):=Fx hR.symm;clear hR;obtain ⟨h,ad⟩:∃ h,(w.alloc (FQ #[FR FS a.kind,FR FS a.num,FM (bs a.word)] 46)).alloc (FQ #[FR FS b.kind,FR FS b.num,FM (bs b.word)] 46)=h:=⟨_,rfl⟩
 have HK:Hid (aa [] w h):=Fx (by rw[←ad];exact ((FK _ _).alloc _).alloc _);have ha:=(FL w 46 #[FR FS a.kind,FR FS a.num,FM (bs a.word)]).alloc (FQ #[FR FS b.kind,FR FS b.num,FM (bs b.word)] 46);have hb:=FL (w.alloc (FQ #[FR FS a.kind,FR FS a.num,FM (bs a.word)] 46)) 46 #[FR FS b.kind,FR FS b.num,FM (bs b.word)];rw[show (w.alloc (FQ #[FR FS a.kind,FR FS a.num,FM (bs a.word)] 46)).heap.size=w.heap.size+1 from Array.size_push _] at hb;rw[ad] at ha hb;have C0:Hid (h.cell? ⟨w.heap.size,0,none⟩=some (FR FS a.kind)):=Fx (ha.cell 0);have C1:Hid (h.cell? ⟨w.heap.size,1,none⟩=some (FR FS a.num)):=Fx (ha.cell 1);have C2:Hid (h.cell? ⟨w.heap.size,2,none⟩=some (FM (bs a.word))):=Fx (ha.cell 2);have D0:Hid (h.cell? ⟨w.heap.size+1,0,none⟩=some (FR FS b.kind)):=Fx (hb.cell 0);have D1:Hid (h.cell? ⟨w.heap.size+1,1,none⟩=some (FR FS b.num)):=Fx (hb.cell 1);have D2:Hid (h.cell? ⟨w.heap.size+1,2,none⟩=some (FM (bs b.word))):=Fx (hb.cell 2);have L0:Hid (w.heap.size<h.heap.size):=Fx ha.lt;have L1:Hid (w.heap.size+1<h.heap.size):=Fx hb.lt;have HW:=Fx ad;have aA:=Fx (fun W=>lE a b W);have av:=Fx (fun W=>lE b a W);generalize cL a b=m at *;generalize cL b a=n at *;clear ha hb ad;obtain ⟨k1,n1,s1⟩:=a;obtain ⟨k2,n2,s2⟩:=b;have I:Hid (∀ W,aa [] h W→Calls Tryz.prog 138 #[.agg #[FR FS k1,FR FS n1,FM (bs s1)],.agg #[FR FS k2,FR FS n2,FM (bs s2)]] W fun e W'=>e=FP (.bool m)∧aa [] W W'):=Fx fun W _=>aA.out W
 have D:Hid (∀ W,aa [] h W→Calls Tryz.prog 138 #[.agg #[FR FS k2,FR FS n2,FM (bs s2)],.agg #[FR FS k1,FR FS n1,FM (bs s1)]] W fun e W'=>e=FP (.bool n)∧aa [] W W'):=Fx fun W _=>av.out W
 clear aA av;simp only at HW C0 C1 C2 D0 D1 D2 HK L0 L1;by_cases h0:op=[61]
 ·subst h0
  have N:Hid (R=(!m && !n)):=Fx (HR.out.trans (if_pos rfl));clear HR;cases m<;>cases n
  all_goals
   show Calls _ _ #[.agg #[FR FS k1,FR FS n1,FM (bs s1)],FM ⟨#[61]⟩,.agg #[FR FS k2,FR FS n2,FM (bs s2)]] w _;go_enter Tryz.func97,Tryz.ntmps97
   go_wp2_with fail
   have M:=C0.out;have U:=C1.out;have c2:=C2.out;have J:=D0.out;have d1:=D1.out;have Z:=D2.out;have l0:=L0.out;have l1:=L1.out;rw[HW.out];refine ah (by kernel_rfl) (by kernel_rfl) ?_;repeat (go_big_quiet_step (first|with_reducible exact KW.of I.out _|with_reducible exact KW.of D.out _))
   refine wpQuiet_nil ?_;intro wx O;clear M U c2 J d1 Z;go_wp2;go_ret;exact ⟨by rw[N.out];rfl,HK.out.trans O⟩
 have t0:(op==[61])=false:=by rw[beq_eq_false_iff_ne];exact h0
 by_cases h1:op=[60,62]
 ·subst h1
  have N:Hid (R=(m||n)):=Fx (HR.out.trans ((if_neg (show ¬(([60,62]:Bs)=[61]) by decide)).trans (if_pos rfl)));clear HR;cases m<;>cases n
  all_goals
   show Calls _ _ #[.agg #[FR FS k1,FR FS n1,FM (bs s1)],FM ⟨#[60,62]⟩,.agg #[FR FS k2,FR FS n2,FM (bs s2)]] w _;go_enter Tryz.func97,Tryz.ntmps97
   go_wp2_with fail
   have M:=C0.out;have U:=C1.out;have c2:=C2.out;have J:=D0.out;have d1:=D1.out;have Z:=D2.out;have l0:=L0.out;have l1:=L1.out;rw[HW.out];refine ah (by kernel_rfl) (by kernel_rfl) ?_;repeat (go_big_quiet_step (first|with_reducible exact KW.of I.out _|with_reducible exact KW.of D.out _))
   refine wpQuiet_nil ?_;intro wx O;clear M U c2 J d1 Z;go_wp2;go_ret;exact ⟨by rw[N.out];rfl,HK.out.trans O⟩
 have t1:(op==[60,62])=false:=by rw[beq_eq_false_iff_ne];exact h1
 by_cases h2:op=[60]
 ·subst h2
  have N:Hid (R=(m)):=Fx (HR.out.trans ((if_neg (show ¬(([60]:Bs)=[61]) by decide)).trans ((if_neg (show ¬(([60]:Bs)=[60,62]) by decide)).trans (if_pos rfl))));clear HR;show Calls _ _ #[.agg #[FR FS k1,FR FS n1,FM (bs s1)],FM ⟨#[60]⟩,.agg #[FR FS k2,FR FS n2,FM (bs s2)]] w _;go_enter Tryz.func97,Tryz.ntmps97
  go_wp2_with fail
  have M:=C0.out;have U:=C1.out;have c2:=C2.out;have J:=D0.out;have d1:=D1.out;have Z:=D2.out;have l0:=L0.out;have l1:=L1.out;rw[HW.out];refine ah (by kernel_rfl) (by kernel_rfl) ?_;repeat (go_big_quiet_step (first|with_reducible exact KW.of I.out _|with_reducible exact KW.of D.out _))
  refine wpQuiet_nil ?_;intro wx O;clear M U c2 J d1 Z;go_wp2;go_ret;exact ⟨by rw[N.out];rfl,HK.out.trans O⟩
 have t2:(op==[60])=false:=by rw[beq_eq_false_iff_ne];exact h2
 by_cases h3:op=[60,61]
 ·subst h3
  have N:Hid (R=(!n)):=Fx (HR.out.trans ((if_neg (show ¬(([60,61]:Bs)=[61]) by decide)).trans ((if_neg (show ¬(([60,61]:Bs)=[60,62]) by decide)).trans ((if_neg (show ¬(([60,61]:Bs)=[60]) by decide)).trans (if_pos rfl)))));clear HR;show Calls _ _ #[.agg #[FR FS k1,FR FS n1,FM (bs s1)],FM ⟨#[60,61]⟩,.agg #[FR FS k2,FR FS n2,FM (bs s2)]] w _;go_enter Tryz.func97,Tryz.ntmps97
  go_wp2_with fail
  have M:=C0.out;have U:=C1.out;have c2:=C2.out;have J:=D0.out;have d1:=D1.out;have Z:=D2.out;have l0:=L0.out;have l1:=L1.out;rw[HW.out];refine ah (by kernel_rfl) (by kernel_rfl) ?_;repeat (go_big_quiet_step (first|with_reducible exact KW.of I.out _|with_reducible exact KW.of D.out _))
  refine wpQuiet_nil ?_;intro wx O;clear M U c2 J d1 Z;go_wp2;go_ret;exact ⟨by rw[N.out];rfl,HK.out.trans O⟩
 have t3:(op==[60,61])=false:=by rw[beq_eq_false_iff_ne];exact h3
 by_cases h4:op=[62]
 ·subst h4
  have N:Hid (R=(n)):=Fx (HR.out.trans ((if_neg (show ¬(([62]:Bs)=[61]) by decide)).trans ((if_neg (show ¬(([62]:Bs)=[60,62]) by decide)).trans ((if_neg (show ¬(([62]:Bs)=[60]) by decide)).trans ((if_neg (show ¬(([62]:Bs)=[60,61]) by decide)).trans (if_pos rfl))))));clear HR;show Calls _ _ #[.agg #[FR FS k1,FR FS n1,FM (bs s1)],FM ⟨#[62]⟩,.agg #[FR FS k2,FR FS n2,FM (bs s2)]] w _;go_enter Tryz.func97,Tryz.ntmps97
  go_wp2_with fail
  have M:=C0.out;have U:=C1.out;have c2:=C2.out;have J:=D0.out;have d1:=D1.out;have Z:=D2.out;have l0:=L0.out;have l1:=L1.out;rw[HW.out];refine ah (by kernel_rfl) (by kernel_rfl) ?_;repeat (go_big_quiet_step (first|with_reducible exact KW.of I.out _|with_reducible exact KW.of D.out _))
  refine wpQuiet_nil ?_;intro wx O;clear M U c2 J d1 Z;go_wp2;go_ret;exact ⟨by rw[N.out];rfl,HK.out.trans O⟩
 have t4:(op==[62])=false:=by rw[beq_eq_false_iff_ne];exact h4
 have N:Hid (R= !m):=Fx (by rw[HR.out,if_neg h0,if_neg h1,if_neg h2,if_neg h3,if_neg h4]);clear h0 h1 h2 h3 h4;show Calls _ _ #[.agg #[FR FS k1,FR FS n1,FM (bs s1)],FM (bs op),.agg #[FR FS k2,FR FS n2,FM (bs s2)]] w _;go_enter Tryz.func97,Tryz.ntmps97
 go_wp2_with fail
 have M:=C0.out;have U:=C1.out;have c2:=C2.out;have J:=D0.out;have d1:=D1.out;have Z:=D2.out;have l0:=L0.out;have l1:=L1.out;rw[HW.out];refine ah (by kernel_rfl) (by kernel_rfl) ?_;repeat (go_big_quiet_step (first|with_reducible exact KW.of I.out _|with_reducible exact KW.of D.out _))
 refine wpQuiet_nil ?_;intro wx O;clear M U c2 J d1 Z;go_wp2;go_ret;exact ⟨by rw[N.out];rfl,HK.out.trans O⟩
def fQ (a:Ar) (l:List Cl) (r:List Vl):Prop:=a.col=[]∨∃ k,an l a.col=some k∧k<r.length
theorem eR (a:Ar) (l:List Cl) (r:List Vl) (A B:Option Addr) (c d:Nat) (w:World) (hA:Rd w [] 2 A l.length (ai l)) (hl:l.length≤4294967296) (hB:Rd w [] 3 B r.length (al r)) (O:fQ a l r) :
  Calls Tryz.prog 98 #[EF a,FN A l.length c,FN B r.length d] w fun e w'=>e=FP (fV (bB a l r))∧aa [] w w':=by
 obtain ⟨nm,v⟩:=a;show Calls _ _ #[.agg #[FM (bs nm),FR FS v.kind,FR FS v.num,FM (bs v.word)],FN A l.length c,FN B r.length d] w _;have Z:aa [] w ((w.alloc (FQ #[FM (bs nm),FR FS v.kind,FR FS v.num,FM (bs v.word)] 48)).alloc (FQ #[FR FS 0,FR FS 0,FM ⟨#[]⟩] 46)):=((FK [] w).alloc _).alloc _;have J:=Fx Z;obtain ⟨R,hR⟩:∃ R,bB ⟨nm,v⟩ l r=R:=⟨_,rfl⟩
 rw[hR];have HR:=Fx hR
 cases nm with
 | nil =>
  have U:Hid (R=v):=Fx (by rw[←HR.out];unfold bB;rw[if_pos rfl]);clear HR hR hA hB O Z;go_enter Tryz.func98,Tryz.ntmps98
  go_wp2;refine bodyPost_ret (v:= .agg #[FR FS v.kind,FR FS v.num,FM (bs v.word)]) (by simp[results,Tryz.results98,go_sem]) rfl ⟨by rw[U.out];rfl,?_⟩;repeat first|exact FK _ _|refine aa.alloc ?_ _|refine aa.setCell ?_ (.inr (by simp)) _
 | cons x tl =>
  obtain ⟨k,hk,N⟩:∃ k,an l (x::tl)=some k∧k<r.length:=by
   rcases O with h|h
   ·cases h
   exact h
  have ad:r.getD k zV=r[k]:=by rw[FJ,FA N];rfl
  have U:Hid (R=r[k]):=Fx (by rw[←HR.out,←ad];unfold bB;rw[if_neg (by simp)];simp only[hk]);have HF:=Fx (fun W (q:aa [] w W)=>bU l (x::tl) A c W (hA.keep q) hl);rw[hk] at HF;obtain ⟨b,o,a1,_,hb,M⟩:=hB.open' (by omega) (by omega);subst a1;have d0:=M (k*3) _ (ay r k N).1;have d1:=M (k*3+1) _ (ay r k N).2.1;have d2:=M (k*3+2) _ (ay r k N).2.2;rw[←Nat.add_assoc] at d1 d2;have a3:(0:Int)≤(k:Int):=by omega
  have a4:(k:Int)<(r.length:Int):=by omega
  generalize r[k]=u at *;have aA:=Fx d0;have av:=Fx d1;have a2:=Fx d2;clear HR hR hA hB O Z ad M hk d0 d1 d2;go_enter Tryz.func98,Tryz.ntmps98
  go_wp2_with fail
  refine (HF.out _ J.out).mono ?_;rintro e w2 ⟨rfl,I⟩;simp only[eL];have e0:=(J.out.trans I).cell_of aA.out (by simp);have e1:=(J.out.trans I).cell_of av.out (by simp);have e2:=(J.out.trans I).cell_of a2.out (by simp);have D:=(FL (w.alloc (FQ #[FM (bs (x::tl)),FR FS v.kind,FR FS v.num,FM (bs v.word)] 48)) 46 #[FR FS 0,FR FS 0,FM ⟨#[]⟩]).keep I (by simp);rw[show (w.alloc (FQ #[FM (bs (x::tl)),FR FS v.kind,FR FS v.num,FM (bs v.word)] 48)).heap.size=w.heap.size+1 from Array.size_push _] at D;have c0:w2.cell? ⟨w.heap.size+1,0,none⟩=some (FR FS 0):=D.cell 0;have c1:w2.cell? ⟨w.heap.size+1,1,none⟩=some (FR FS 0):=D.cell 1;have c2:w2.cell? ⟨w.heap.size+1,2,none⟩=some (FM ⟨#[]⟩):=D.cell 2;have f0:=D.frozen 0;have f1:=D.frozen 1;have f2:=D.frozen 2;have a0:=Fx (J.out.trans I);clear I D;go_wp2;refine bodyPost_ret (v:= .agg #[FR FS u.kind,FR FS u.num,FM (bs u.word)]) (by simp[results,Tryz.results98,go_sem,c0,c1,c2]) rfl ⟨by rw[U.out];rfl,?_⟩;exact ((a0.out.setCell (.inr (by simp)) _).setCell (.inr (by simp)) _).setCell (.inr (by simp)) _
end
section
structure mf (w:World):Prop where
 t:gG w
 c:rC w
theorem mf.quiet {w w':World} (h:mf w) (D:aa [] w w'):mf w':=⟨h.t.quiet D,h.c.quiet D⟩
theorem mf.cmp {w:World} (h:mf w):∃ A c,w.cell? ⟨1,0,none⟩=some (FN A 6 c)∧Rd w [] 1 A 6 (strs compares):=h.c.cmp
abbrev Kt:=Int×Bs
abbrev Pc:=Kt×Bs
def kt (t:Tk):Kt:=(t.kind,t.text)
theorem vN (c:UInt8) (t:Bs):bM (c::t)=if jS c then (1,gu sB (c::t)) else if iY c then (2,gu iY (c::t)) else if c=39 then (3,if Lib.indexByte t 39<0 then 0 else (Lib.indexByte t 39).toNat+2) else (4,bT (c::t) aJ):=rfl
theorem vO (f:Nat) (c:UInt8) (t:Bs) (i:Nat) (acc:List Tk):fq (f+1) (c::t) i acc=if c=32∨c=10 then fq f t (i+1) acc
  else if (bM (c::t)).2=0 then .error (3,(i:Int))
  else if acc.length=400 then .error (4,(i:Int))
  else fq f ((c::t).drop (bM (c::t)).2) (i+(bM (c::t)).2) (acc++[⟨(bM (c::t)).1,(c::t).take (bM (c::t)).2,(i:Int)⟩]):=rfl
def ub (v:Vl) (e:Bs):List Pc :=
 if v.kind=1 then (if v.num<0 then [((4,[45]),[]),((2,Lib.itoa (-v.num)),e)] else [((2,Lib.itoa v.num),e)])
 else [((3,39::(v.word++[39])),e)]
def ij (a:Ar) (e:Bs):List Pc:=if a.col=[] then ub a.val e else [((1,a.col),e)]
def fC:List Bs→Bs→List Pc
 | [],_=>[]
 | [a],e=>[((1,a),e)]
 | a::b::l,e=>((1,a),[])::((4,[44]),[32])::fC (b::l) e
def pt:List Cl→List Pc
 | []=>[]
 | [c]=>[((1,c.name),[32]),((1,eT c.kind.toNat),[])]
 | c::d::l=>((1,c.name),[32])::((1,eT c.kind.toNat),[])::((4,[44]),[32])::pt (d::l)
def Ep (x:In):List Pc:=((1,[105,110]),[32])::((1,x.name),[])::((4,[58]),[32])::(pt x.cols++[((4,[59]),[10])])
def Bg (x:Pb):List Pc:=[((1,[111,117,116]),[32]),((1,x.name),[32]),((4,[61]),[32]),((1,x.src),[]),((4,[59]),[10])]
def Bh (j:Jb):List Pc :=
 if j.code=7 then [((1,iZ 7),[32]),((1,j.ins.getD 0 []),[]),((4,[46]),[]),((1,j.cols.getD 0 []),[]),((4,[44]),[32]),((1,j.ins.getD 1 []),[]),((4,[46]),[]),((1,j.cols.getD 1 []),[])]
 else if j.code=5 then [((1,iZ 5),[32]),((1,j.ins.getD 0 []),[]),((4,[44]),[32]),((1,j.ins.getD 1 []),[])]
 else if j.code=6 then [((1,iZ 6),[32]),((1,j.ins.getD 0 []),[])]
 else if j.code=2 then ((1,iZ 2),[32])::((1,j.ins.getD 0 []),[])::((4,[58]),[32])::((1,j.cols.getD 0 []),[32])::((4,[61]),[32])::(ij j.left [32]++((4,j.op),[32])::ij j.right [])
 else ((1,iZ j.code.toNat),[32])::((1,j.ins.getD 0 []),[32]) ::
  (if j.code=1∨j.code=9 then ((1,[119,104,101,114,101]),[32])::((1,j.left.col),[32])::((4,j.op),[32])::ij j.right []
  else if j.code=8 then [((1,[98,121]),[32]),((1,j.cols.getD 0 []),[32]),((1,j.op),[32]),((1,j.cols.getD 1 []),[])]
  else ((1,[98,121]),[32])::fC j.cols [])
def rU (n:Int):List Pc:=if 0<n then [((1,[114,101,116,114,121]),[32]),((2,Lib.itoa n),[32])] else []
def wI (j:Jb):List Pc:=((1,[106,111,98]),[32])::(fC j.outs [32]++(rU j.retry++((4,[61]),[32])::(Bh j++[((4,[59]),[10])])))
def Er (f:Fl):List Pc:=f.ins.flatMap Ep++f.jobs.flatMap wI++f.outs.flatMap Bg
end
section
open Go.RowKit Go.BigFrame
attribute [local go_sem] ag ab ae af
theorem Fj:(Tryz.prog.info? 114).map (fun i=>(i.zero,i.size,i.bytes))=some (some (.agg #[FR FS 0,FM ⟨#[]⟩,FR FS 0]),3,32):=by kernel_rfl
theorem vP {P:Program} {T:TypeId} (J:P.underlying T=some .string) (s:Bs) (h:Nat) (I:h≤s.length) (W:World) :
  (Instr.slice T (FM (bs s)) (some (FR FS (h:Int))) none none).run P W= .ok (FM (bs (s.drop h))) W:=by
 have D:(h:Int)≤(s.length:Int):=by omega
 have e:(bs s).extract h s.length=bs (s.drop h):=by rw[ab,List.take_of_length_le (Fy _)]
 rw[←e];have N:h≤(bs s).size:=by rw[ag];exact I
 have M:(h:Int)≤((bs s).size:Int):=by rw[ag];exact D
 go_simp
def Ex (R:Except (Int×Int) (List Tk)) (base:Nat) (e:Ending) (w':World):Prop:=match R with
 | .ok l=>∃ A c,e=FP (.tuple #[FN A l.length c,.nilIface])∧w'.ownsRow base 114 3 (FN A l.length c) l.length (eo l)
 | .error x=>∃ h,e=FP (.tuple #[FN none 0 0,.iface 73 (FO (some ⟨h,0,none⟩))])∧ao w' h 75 #[FR FS x.1,FR FS x.2]
theorem mP (acc:List Tk) (k:Int) (u:Bs) (i:Int):eo (acc++[⟨k,u,i⟩])=eo acc++[FR FS k,FM (bs u),FR FS i]:=by simp[eo,uD]
theorem vQ (s:Bs) (hs:s.length≤1000000) (w:World) (hE:jU w) :
  Calls Tryz.prog 42 #[FM (bs s)] w fun e w'=>Ex (uC s) w.heap.size e w'∧aa [] w w':=by
 obtain ⟨i0,hi,bc,bj,bb⟩:=info_parts Fj;obtain ⟨R,hR⟩:∃ R,uC s=R:=⟨_,rfl⟩
 rw[hR];unfold uC at hR;have HR:=Fx hR;have HE:=Fx hE;clear hR hE;go_enter Tryz.func42,Tryz.ntmps42
 go_wp2;go_loopw [4,5] (fun v i wr=>∃ (n f:Nat) (acc:List Tk),n≤s.length∧i=FR FS n∧s.length-n≤f∧acc.length≤400∧Hid (fq f (s.drop n) n acc=R)∧wr.ownsRow w.heap.size 114 3 v acc.length (eo acc)∧aa [] w wr) (fun _ i _=>s.length-(intOf i).toNat)
 case atStart=>exact ⟨0,s.length,[],FF _,rfl,Fy _,by simp,HR,World.ownsRow_nil _ _ _ _,FK _ _⟩
 clear HR;obtain ⟨n,f,acc,hn,rfl,hf,a6,HR,a2,hk⟩:=hrel;obtain ⟨A,cv,rfl,-⟩:=ar a2;have HO:=Fx a2;have HK:=Fx hk;have a4:=Fx (show acc.length+1≤maxLen∧(acc.length+1)*32≤140737488355328 by simp only[maxLen];omega);have bq:=Fx (show w.heap.size≤wr.heap.size+1 from Nat.le_succ_of_le hk.size);clear a2 hk;by_cases bl:n<s.length
 ·have bv:(n:Int)<(s.length:Int):=by omega
  obtain ⟨f,rfl⟩:∃ m,f=m+1:=⟨f-1,by omega⟩
  have a8:((bs s)[n]'(by rw[ag];exact bl))=s[n]:=iQ s n _;have J:s.drop n=s[n]::s.drop (n+1):=List.drop_eq_getElem_cons bl;have a3:=fun W=>vP (P:=Tryz.prog) Tryz.underlying9 s n hn W
  obtain ⟨c,hc⟩:∃ c,s[n]=c:=⟨_,rfl⟩
  obtain ⟨t,ht⟩:∃ t,s.drop (n+1)=t:=⟨_,rfl⟩
  rw[hc] at a8 J;rw[ht] at J;rw[J] at a3;have br:t.length+n+1=s.length:=by rw[←ht,List.length_drop];omega
  have aA:c=32↔(c.toNat:Int)=32:=⟨fun h=>by rw[h];rfl,fun h=>UInt8.toNat_inj.1 (by have:(32:UInt8).toNat=32:=rfl;omega)⟩;have av:c=10↔(c.toNat:Int)=10:=⟨fun h=>by rw[h];rfl,fun h=>UInt8.toNat_inj.1 (by have:(10:UInt8).toNat=10:=rfl;omega)⟩;have N:Hid ((if c=32∨c=10 then fq f t (n+1) acc
 else if (bM (c::t)).2=0 then .error (3,(n:Int))
 else if acc.length=400 then .error (4,(n:Int))
 else fq f ((c::t).drop (bM (c::t)).2) (n+(bM (c::t)).2) (acc++[⟨(bM (c::t)).1,(c::t).take (bM (c::t)).2,n⟩]))=R):=Fx (by rw[←HR.out,J];rfl)
  have HT:=Fx ht;have HD:=Fx J;clear HR hc ht;by_cases M:c=32
  ·have t1:((c.toNat:Int)==32)=true:=by rw[beq_iff_eq];exact aA.1 M
   have HQ:Hid (fq f (s.drop (n+1)) (n+1) acc=R):=Fx (by rw[HT.out,←N.out,if_pos (.inl M)]);clear aA av M N J a3;go_wp2;go_roundw
   case rel=>exact ⟨n+1,f,acc,by omega,by go_num,by omega,a6,HQ,HO.out,HK.out⟩
   case measure=>simp[intOf];omega
  have t1:((c.toNat:Int)==32)=false:=by rw[beq_eq_false_iff_ne];exact fun h=>M (aA.2 h)
  by_cases O:c=10
  ·have t2:((c.toNat:Int)==10)=true:=by rw[beq_iff_eq];exact av.1 O
   have HQ:Hid (fq f (s.drop (n+1)) (n+1) acc=R):=Fx (by rw[HT.out,←N.out,if_pos (.inr O)]);clear aA av M O N J a3;go_wp2;go_roundw
   case rel=>exact ⟨n+1,f,acc,by omega,by go_num,by omega,a6,HQ,HO.out,HK.out⟩
   case measure=>simp[intOf];omega
  have t2:((c.toNat:Int)==10)=false:=by rw[beq_eq_false_iff_ne];exact fun h=>O (av.2 h)
  have a5:Hid ((if (bM (c::t)).2=0 then .error (3,(n:Int))
 else if acc.length=400 then .error (4,(n:Int))
 else fq f ((c::t).drop (bM (c::t)).2) (n+(bM (c::t)).2) (acc++[⟨(bM (c::t)).1,(c::t).take (bM (c::t)).2,n⟩]))=R):=Fx (by rw[←N.out];exact (if_neg (fun h=>h.elim M O)).symm)
  have HN:=Fx (Bp c t (by omega) wr (HE.out.quiet HK.out));have bm:=sJ c t;obtain ⟨km,bk⟩:∃ km,bM (c::t)=km:=⟨_,rfl⟩
  obtain ⟨k,m⟩:=km;rw[bk] at HN a5 bm;simp only[FG] at bm;clear aA av M O N J bk;by_cases hm:m=0
  ·subst hm
   have HX:Hid (R= .error (3,(n:Int))):=Fx (by rw[←a5.out];exact if_pos rfl);go_wp2_with fail
   refine HN.out.mono ?_;rintro e w2 ⟨rfl,rfl⟩;go_wp2;go_ret2;exact ⟨by rw[HX.out];exact ⟨_,rfl,FL _ _ _⟩,HK.out.alloc _⟩
  have m0:((m:Int)==0)=false:=by rw[beq_eq_false_iff_ne];omega
  by_cases h4:acc.length=400
  ·have HX:Hid (R= .error (4,(n:Int))):=Fx (by rw[←a5.out];exact (if_neg hm).trans (if_pos h4))
   have a0:((acc.length:Int)==400)=true:=by rw[beq_iff_eq];omega
   go_wp2_with fail
   refine HN.out.mono ?_;rintro e w2 ⟨rfl,rfl⟩;go_wp2;go_ret2;exact ⟨by rw[HX.out];exact ⟨_,rfl,FL _ _ _⟩,HK.out.alloc _⟩
  have a0:((acc.length:Int)==400)=false:=by rw[beq_eq_false_iff_ne];omega
  have a7:=fun W=>jG (P:=Tryz.prog) Tryz.underlying9 s n (n+m) (by omega) (by omega) W
  have be:(s.take (n+m)).drop n=(c::t).take m:=by rw[List.drop_take,HD.out,show n+m-n=m by omega]
  rw[be,show ((n+m:Nat):Int)=(n:Int)+(m:Int) by omega] at a7;obtain ⟨u,hu⟩:∃ u,(c::t).take m=u:=⟨_,rfl⟩
  rw[hu] at a7;have HQ:Hid (fq f (s.drop (n+m)) (n+m) (acc++[⟨k,u,(n:Int)⟩])=R):=Fx (by
   rw[←a5.out,←hu,show s.drop (n+m)=(c::t).drop m by rw[←HD.out,List.drop_drop]];exact ((if_neg hm).trans (if_neg h4)).symm)
  clear be hu;go_wp2_with fail
  refine HN.out.mono ?_;rintro e w2 ⟨rfl,rfl⟩;go_wp2_with (at_builtin;refine wpList_append_lies _ rfl _ _ 106 rfl _ 114 i0 _ 3 32 Tryz.underlying106 hi bc bj bb rfl (by decide) _ acc.length (eo acc) rfl (HO.out.alloc _) ⟨wr.heap.size,0,none⟩ 1 1 [FR FS k,FM (bs u),FR FS n] rfl rfl (FI (heap_alloc_new _ _)) (by simp[Value.oneCell']) (by decide) a4.out.1 a4.out.2 (by simp;exact bq.out) _ rfl ?_;intro gw bo w8 D I U Z)
  have a9:=Fx ((HK.out.alloc _).grown I (fun g hg=> .inr (HO.out.lt g hg).1));rw[←mP] at D;have ba:=Fx D;have a1:(acc++[⟨k,u,(n:Int)⟩]:List Tk).length=acc.length+1:=by simp
  have ad:=Fx a1;clear D I U Z a1 a7 a3;go_wp2;go_roundw
  case rel=>exact ⟨n+m,f,acc++[⟨k,u,(n:Int)⟩],by omega,by go_num,by omega,by rw[ad.out];omega,HQ,by rw[ad.out];exact ba.out,a9.out⟩
  case measure=>simp[intOf];omega
 ·obtain rfl:n=s.length:=by omega
  have HX:Hid (R= .ok (acc++[⟨5,[],(s.length:Int)⟩])):=Fx (by
   rw[←HR.out,List.drop_of_length_le (Fy _)];cases f<;>rfl)
  have a1:(acc++[⟨5,[],(s.length:Int)⟩]:List Tk).length=acc.length+1:=by simp
  have ad:=Fx a1;clear a1 HR;go_wp2_with (at_builtin;refine wpList_append_lies _ rfl _ _ 106 rfl _ 114 i0 _ 3 32 Tryz.underlying106 hi bc bj bb rfl (by decide) _ acc.length (eo acc) rfl (HO.out.alloc _) ⟨wr.heap.size,0,none⟩ 1 1 [FR FS 5,FM (bs []),FR FS s.length] rfl rfl (FI (heap_alloc_new _ _)) (by simp[Value.oneCell']) (by decide) a4.out.1 a4.out.2 (by simp;exact bq.out) _ rfl ?_;intro gw bo w8 D I U Z)
  have a9:=Fx ((HK.out.alloc _).grown I (fun g hg=> .inr (HO.out.lt g hg).1));rw[←mP] at D;have ba:=Fx D;clear D I U Z;go_wp2;go_ret2;exact ⟨by rw[HX.out];exact ⟨_,_,by rw[ad.out];rfl,by rw[ad.out];exact ba.out⟩,a9.out⟩
end
section
open Go.RowKit Go.ChangeShapes Go.WideShapes
def CY:DataW Unit→Bs
 | .lit (.string s)=>s
 | _=>[]
theorem En.cg:Tryz.prog.globalNamed "foreman/ops.compares" = some 1:=by kernel_rfl
theorem En.ct:(Tryz.prog.globals[1]?).map (·.type)=some 44:=by kernel_rfl
theorem ui {W:World} (h:laidMet Tryz.prog [("foreman/ops.compares",Rows.laid_foreman_ops_compares)] W):∃ A c,W.cell? ⟨1,0,none⟩=some (.slice A 6 c)∧Rd W [] 1 A 6 (strs compares):=by
 obtain ⟨ps,⟨g',t',cs,fuel,p,q,aA,Z,M,hd,_,_⟩,_⟩:=h;obtain rfl:=Option.some.inj (En.cg.symm.trans aA);obtain rfl:=Option.some.inj (En.ct.symm.trans Z);rcases open_strings Tryz.underlying44 Tryz.underlying9 (by kernel_rfl) hd with ⟨_,h0⟩|⟨a,I,cap,ss,U,_,hl,a0,J,hx,D,hw⟩
 ·have:=congrArg Prod.fst h0
  cases this
 have h1:=congrArg Prod.fst hx;injection h1 with e1 e2;have e3:compares=(ss.take I).map (·.data.toList):=by
  have:=congrArg (List.map CY) e1;refine (Eq.trans (by rfl) this).trans ?_;unfold Go.ChangeShapes.strs;rw[List.map_map];rfl
 have a1:I≤ss.length:=by rw[J];split<;>omega
 have av:I=6:=by
  have:=congrArg List.length e3;simp[compares] at this;omega
 subst av;have ad:W.cell? ⟨1,0,none⟩=some (.slice (some a) 6 cap):=by
  rw[World.var?_cell En.cg M 0,←Array.getElem?_toList,U];rfl
 refine ⟨some a,cap,ad,rfl,fun _=>⟨a,rfl,by simp,?_,fun j u N=>?_⟩⟩
 ·have:=FC _ _ (D 0 (by omega))
  rwa [cZ] at this
 rw[e3] at N;unfold strs at N;rw[List.map_map,List.getElem?_map,Option.map_eq_some_iff] at N;obtain ⟨y,O,rfl⟩:=N;rw[List.getElem?_take] at O;split at O
 ·rename_i hj
  rw[D j (by omega),FJ,O];rfl
 cases O
end
end Go.Proofs.YtecpeogejjibaaaGreatDoor
