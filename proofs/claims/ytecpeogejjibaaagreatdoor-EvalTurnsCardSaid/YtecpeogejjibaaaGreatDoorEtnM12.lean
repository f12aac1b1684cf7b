/- ops.Cols, of every code. ops.text: a row as one text. ops.distinct. ops.Do: words for what it takes, and hands back. ops: holds. ops: arg. ops.Do, by what Cols and made do. ops.made: Filter and Split. ops.Do at Filter and Split, whole. Flows evaluated, as plain data: in whatever order the jobs stand, and whatever jobs there are besides. No program in sight. EvalTurns and EvalMore as plain data. No program in sight. -/
import Derived.Test.YtecpeogejjibaaaGreatDoorEtnM10
import Derived.StillTailTactics
import Derived.Test.YtecpeogejjibaaaGreatDoorEtnM4
import Derived.Test.YtecpeogejjibaaaGreatDoorEtnM2
import Derived.Test.YtecpeogejjibaaaGreatDoorEtnM8
set_option linter.unusedSimpArgs false
set_option linter.unusedVariables false
set_option maxRecDepth 100000
set_option maxHeartbeats 16000000
namespace Go.Proofs.YtecpeogejjibaaaGreatDoor
open Go.Lib renaming hid → Fk
open _root_.Nat renaming le_refl → Fm, le_trans → Ft, zero_le → Fu
open _root_.List renaming getElem?_eq_getElem → Fp, getElem_mem → Fs, length_cons → Fv, length_take → Fw, getD_eq_getElem?_getD → Fy
open Go.World renaming block_lt_of_cell? → Fq, news_of_block → Fx
open aa renaming refl → Fz
open ao renaming new → FA
open Go.Value renaming string → FC, slice → FD, int → FH
open Go.Ending renaming returned → FF
open Go.Obj renaming cells → FG
open Go.IntKind renaming i64 → FI
section
open Go.RowKit Go.BigFrame
attribute [local go_sem] ag ab ae af
attribute [local go_sem] KW.cell
theorem DS (J D M N rk U:Int) (outs js cols:List Bs) (op V Z O I:Bs) (Ao:Option Addr) (co:Nat) (Ai:Option Addr) (ni ci:Nat) (Ac:Option Addr) (cc:Nat) (ins:List (List Cl)) (AH:Option Addr) (ch:Nat) (w:World) (hH:aU w AH ins) (hi:ins.length=2) (ho:outs.length=1)
  (hf:∀ A d B e W,(ins.getD 0 []).length≤d→Rd w [] 2 A (ins.getD 0 []).length (ai (ins.getD 0 []))→(ins.getD 1 []).length≤e→Rd w [] 2 B (ins.getD 1 []).length (ai (ins.getD 1 []))→aa [] w W→Calls Tryz.prog 61 #[eH (⟨J,7,outs,js,cols,op,⟨V,M,N,Z⟩,⟨O,rk,U,I⟩,D⟩:Jb) Ao co Ai ni ci Ac cc,FD A (ins.getD 0 []).length d,FD B (ins.getD 1 []).length e] W fun e w'=>aP (dg (⟨J,7,outs,js,cols,op,⟨V,M,N,Z⟩,⟨O,rk,U,I⟩,D⟩:Jb) (ins.getD 0 []) (ins.getD 1 [])) e w'∧aa [] W w') :
  Calls Tryz.prog 22 #[.agg #[FH FI J,FH FI 7,FD Ao outs.length co,FD Ai ni ci,FD Ac cols.length cc,FC (bs op),FC (bs V),FH FI M,FH FI N,FC (bs Z),FC (bs O),FH FI rk,FH FI U,FC (bs I),FH FI D],FD AH ins.length ch] w fun e w'=>aP (dg (⟨J,7,outs,js,cols,op,⟨V,M,N,Z⟩,⟨O,rk,U,I⟩,D⟩:Jb) (ins.getD 0 []) (ins.getD 1 [])) e w'∧aa [] w w':=by
 obtain ⟨b,o,A,d,rfl,hb,a3,hd,hA⟩:=hH.first (by omega) (by omega);obtain ⟨B,dB,a0,a4,hB⟩:=hH.second (by omega) (by omega);have HF:=Fk (fun W=>hf A d B dB W hd hA a4 hB);clear hf hA hB hH;generalize dg (⟨J,7,outs,js,cols,op,⟨V,M,N,Z⟩,⟨O,rk,U,I⟩,D⟩:Jb) (ins.getD 0 []) (ins.getD 1 [])=R at *;have HF':Hid (∀ W,aa [] w W→Calls Tryz.prog 61 #[.agg #[FH FI J,FH FI 7,FD Ao outs.length co,FD Ai ni ci,FD Ac cols.length cc,FC (bs op),FC (bs V),FH FI M,FH FI N,FC (bs Z),FC (bs O),FH FI rk,FH FI U,FC (bs I),FH FI D],FD A (ins.getD 0 []).length d,FD B (ins.getD 1 []).length dB] W fun e w'=>aP R e w'∧aa [] W w'):=HF;clear HF;generalize (ins.getD 0 []).length=n at *;generalize (ins.getD 1 []).length=n' at *;have HS:Hid (∀ W,Calls Tryz.prog 57 #[FH FI 7] W fun e W'=>e=FF (.tuple #[FH FI 2,FH FI 1])∧W=W'):=Fk fun W=>by
  have h:=dm 7 W;rw[show aw 7=(2,1) by decide] at h;exact h
 rw[hi];rw[ho] at HF' ⊢;clear hi ho;go_enter Tryz.func22,Tryz.ntmps22
 go_wp2_with (go_at_call 57;refine (HS.out _).mono ?_;rintro e w6 ⟨rfl,rfl⟩)
 go_upto_region 18 with (fail)
 have H:ao (w.alloc (FG #[FH FI J,FH FI 7,FD Ao 1 co,FD Ai ni ci,FD Ac cols.length cc,FC (bs op),FC (bs V),FH FI M,FH FI N,FC (bs Z),FC (bs O),FH FI rk,FH FI U,FC (bs I),FH FI D] 50)) w.heap.size 50 #[FH FI J,FH FI 7,FD Ao 1 co,FD Ai ni ci,FD Ac cols.length cc,FC (bs op),FC (bs V),FH FI M,FH FI N,FC (bs Z),FC (bs O),FH FI rk,FH FI U,FC (bs I),FH FI D]:=FA _ _ _;have ad:aa [] w (w.alloc (FG #[FH FI J,FH FI 7,FD Ao 1 co,FD Ai ni ci,FD Ac cols.length cc,FC (bs op),FC (bs V),FH FI M,FH FI N,FC (bs Z),FC (bs O),FH FI rk,FH FI U,FC (bs I),FH FI D] 50)):=(Fz _ _).alloc _;generalize w.alloc (FG #[FH FI J,FH FI 7,FD Ao 1 co,FD Ai ni ci,FD Ac cols.length cc,FC (bs op),FC (bs V),FH FI M,FH FI N,FC (bs Z),FC (bs O),FH FI rk,FH FI U,FC (bs I),FH FI D] 50)=y at H ad ⊢;have a7:∀ W,aa [] y W→W.cell? ⟨b,o+1,none⟩=some (FD B n' dB):=fun W z=>(ad.trans z).cell_of a0 (by simp)
 have y0:∀ W,aa [] y W→W.cell? ⟨w.heap.size,0,none⟩=some (FH FI J):=fun W z=>(H.keep z (by simp)).cell 0
 have y1:∀ W,aa [] y W→W.cell? ⟨w.heap.size,1,none⟩=some (FH FI 7):=fun W z=>(H.keep z (by simp)).cell 1
 have y2:∀ W,aa [] y W→W.cell? ⟨w.heap.size,2,none⟩=some (FD Ao 1 co):=fun W z=>(H.keep z (by simp)).cell 2
 have y3:∀ W,aa [] y W→W.cell? ⟨w.heap.size,3,none⟩=some (FD Ai ni ci):=fun W z=>(H.keep z (by simp)).cell 3
 have y4:∀ W,aa [] y W→W.cell? ⟨w.heap.size,4,none⟩=some (FD Ac cols.length cc):=fun W z=>(H.keep z (by simp)).cell 4
 have y5:∀ W,aa [] y W→W.cell? ⟨w.heap.size,5,none⟩=some (FC (bs op)):=fun W z=>(H.keep z (by simp)).cell 5
 have y6:∀ W,aa [] y W→W.cell? ⟨w.heap.size,6,none⟩=some (FC (bs V)):=fun W z=>(H.keep z (by simp)).cell 6
 have y7:∀ W,aa [] y W→W.cell? ⟨w.heap.size,7,none⟩=some (FH FI M):=fun W z=>(H.keep z (by simp)).cell 7
 have y8:∀ W,aa [] y W→W.cell? ⟨w.heap.size,8,none⟩=some (FH FI N):=fun W z=>(H.keep z (by simp)).cell 8
 have y9:∀ W,aa [] y W→W.cell? ⟨w.heap.size,9,none⟩=some (FC (bs Z)):=fun W z=>(H.keep z (by simp)).cell 9
 have ba:∀ W,aa [] y W→W.cell? ⟨w.heap.size,10,none⟩=some (FC (bs O)):=fun W z=>(H.keep z (by simp)).cell 10
 have a9:∀ W,aa [] y W→W.cell? ⟨w.heap.size,11,none⟩=some (FH FI rk):=fun W z=>(H.keep z (by simp)).cell 11
 have a8:∀ W,aa [] y W→W.cell? ⟨w.heap.size,12,none⟩=some (FH FI U):=fun W z=>(H.keep z (by simp)).cell 12
 have a6:∀ W,aa [] y W→W.cell? ⟨w.heap.size,13,none⟩=some (FC (bs I)):=fun W z=>(H.keep z (by simp)).cell 13
 have bb:∀ W,aa [] y W→W.cell? ⟨w.heap.size,14,none⟩=some (FH FI D):=fun W z=>(H.keep z (by simp)).cell 14
 generalize w.heap.size=bx at *;clear H a0 a3;have a1:=Fk ad;clear ad;go_region_held3 (fun W=>aa [] y W) (first|exact (Fz [] y).drew|exact (Fz [] y).drew.trans aA) (first|((with_reducible refine (HF'.out _ a1.out.drew).mono ?_);rintro e w3 ⟨av,aA⟩;obtain ⟨u,v,rfl,av⟩:=av.split))
 have a2:=Fk av;have a5:=Fk (a1.out.drew.trans aA);clear aA av;go_wp2;go_ret2;exact ⟨a2.out,a5.out⟩
theorem lY (j:Jb) (M:Option Addr) (J:Nat) (Ai:Option Addr) (Z ci:Nat) (N:Option Addr) (cc:Nat) (ins:List (List Cl)) (AH:Option Addr) (ch:Nat) (w:World) (hE:rH w) (hJ:gT w j M J N cc) (hH:aU w AH ins) (V:∀ l∈ins,l.length≤4294967) :
  Calls Tryz.prog 22 #[eH j M J Ai Z ci N cc,FD AH ins.length ch] w fun e w'=>aP (aK j ins) e w'∧aa [] w w':=by
 have H:∀ k,(ins.getD k []).length≤4294967:=fun k=>by
  by_cases hk:k<ins.length
  ·rw[Fy,Fp hk]
   exact V _ (Fs hk)
  rw[Fy,List.getElem?_eq_none (by omega)];simp
 by_cases h7:j.code=7
 ·unfold aK
  by_cases D:(aw j.code).1=0∨ins.length≠(aw j.code).1∨j.outs.length≠(aw j.code).2
  ·rw[if_pos D]
   obtain ⟨U,code,outs,js,cols,op,⟨lc,lk,ln,lw⟩,⟨rc,rk,rn,O⟩,I⟩:=j;exact s8 _ _ _ _ _ _ _ _ js _ _ _ _ _ _ _ _ _ _ _ _ _ _ _ _ _ D
  rw[if_neg D];have hi:ins.length=(aw j.code).1:=Decidable.byContradiction fun h=>D (.inr (.inl h))
  have ho:j.outs.length=(aw j.code).2:=Decidable.byContradiction fun h=>D (.inr (.inr h))
  have ad:=fun A d B e W (_:(ins.getD 0 []).length≤d) (h2:Rd w [] 2 A (ins.getD 0 []).length (ai (ins.getD 0 []))) (h3:(ins.getD 1 []).length≤e) (h4:Rd w [] 2 B (ins.getD 1 []).length (ai (ins.getD 1 []))) (q:aa [] w W)=>uY j (ins.getD 0 []) (ins.getD 1 []) M J Ai Z ci N cc A d B e W (hJ.quiet q) (h2.keep q) (H 0) (h4.keep q) h3 (H 1)
  clear D hE hJ;obtain ⟨U,code,outs,js,cols,op,⟨lc,lk,ln,lw⟩,⟨rc,rk,rn,O⟩,I⟩:=j;simp only at h7 hi ho ⊢;subst h7;exact DS U I lk ln rk rn outs js cols op lc lw rc O M J Ai Z ci N cc ins AH ch w hH hi ho ad
 exact ot j M J Ai Z ci N cc ins AH ch w hE hJ hH (fun l hl=>Ft (V l hl) (by decide)) h7 (fun _ A d W h1 h2 q=>s7 j (ins.getD 0 []) M J Ai Z ci N cc A d W (hJ.quiet q) (h2.keep q) (Ft (H 0) (by decide)))
end
section
open Go.RowKit Go.BigFrame
attribute [local go_sem] ag ab ae af
theorem vw (c:UInt8) (x:Bs) (r:List Bs):cQ c (x::r)=x++Lib.joinTail [c] r:=by
 induction r generalizing x with
 | nil=>simp[cQ,Lib.joinTail]
 | cons y t ih =>
  show x++c::cQ c (y::t)=_;rw[ih y];simp[Lib.joinTail]
theorem oL (c:UInt8) {l:List Bs} (h:l≠[]):Lib.join l [c]=cQ c l:=by
 cases l with
 | nil=>exact absurd rfl h
 | cons x r=>rw[Lib.join_cons,vw]
theorem AK (r:List Vl) (h1:1≤r.length) (h6:r.length≤4294967296) (hv:∀ v∈r,dX v.num∧v.word.length≤1000000000) (a1:(bM r).length≤140737488355328) (A:Option Addr) (c:Nat) (w:World) (hE:gG w) (hA:Rd w [] 3 A r.length (al r)) :
  Calls Tryz.prog 144 #[FD A r.length c] w fun e w'=>e=FF (FC (bs (bM r)))∧aa [] w w':=by
 obtain ⟨is,bc,a6,a8,a9⟩:=info_parts C5;have HV:=Fk (fun v (hm:v∈r) W (q:aa [] w W)=>xt v (hv v hm).1 (hv v hm).2 W (hE.quiet q));obtain ⟨b,o,rfl,_,hb,a2⟩:=hA.open' (by omega) (by omega);have ad:=Fk a2;clear a2 hA hE hv;go_enter Tryz.func144,Tryz.ntmps144
 go_wp2;go_loopw [3,8] (fun u i wx=>∃ (m:Nat) (v:Value),v=u∧m≤r.length∧i=FH FI m∧wx.ownsRow w.heap.size 9 1 v m (strs ((r.take m).map aZ))∧aa [] w wx) (fun _ i _=>r.length-(intOf i).toNat)
 case atStart=>exact ⟨0,_,rfl,Fu _,rfl,World.ownsRow_nil _ _ _ _,Fz _ _⟩
 obtain ⟨m,v,rfl,hm,rfl,M,hk⟩:=hrel;have HO:=Fk M;have N:=Fk hk;clear M hk;by_cases Z:m<r.length
 ·obtain ⟨x0,x1,x2⟩:=ay r m Z
  have d0:=N.out.cell_of (ad.out _ _ x0) (by simp);have d1:=N.out.cell_of (ad.out _ _ x1) (by simp);have d2:=N.out.cell_of (ad.out _ _ x2) (by simp);rw[←Nat.add_assoc] at d1 d2;have a0:=Fk (HV.out r[m] (Fs Z));have av:(r.take (m+1)).map aZ=(r.take m).map aZ++[aZ r[m]]:=by rw[List.take_succ_eq_append_getElem Z,List.map_append];rfl
  have bm:=Fk av;clear av x0 x1 x2;generalize r[m]=x at *;obtain ⟨xk,xn,xw⟩:=x;have bo:Hid (∀ W,aa [] w W→Calls Tryz.prog 170 #[.agg #[FH FI xk,FH FI xn,FC (bs xw)]] W fun e w'=>e=FF (FC (bs (aZ ⟨xk,xn,xw⟩)))∧aa [] W w'):=a0;clear a0;generalize aZ ⟨xk,xn,xw⟩=tx at *;have bZ:(0:Int)≤(m:Int):=by omega
  have bz:(m:Int)<(r.length:Int):=by omega
  have a3:=Fk (show m+1≤maxLen∧(m+1)*16≤140737488355328 by simp only[maxLen];omega);have hz:=N.out.size;go_wp2_with fail
  refine (bo.out _ (N.out.alloc _)).mono ?_;rintro e w5 ⟨rfl,O⟩;have a4:=Fk (aE (HO.out.alloc (FG #[FH FI xk,FH FI xn,FC (bs xw)] 46)) O (fun _ _=>by simp));have a5:=Fk ((N.out.alloc _).trans O);have bv:=a5.out.size;clear O;go_wp2_with (at_builtin;(refine wpList_append_lies _ rfl _ _ 44 rfl w.heap.size 9 is _ 1 16 Tryz.underlying44 bc a6 a8 a9 rfl (by decide) _ m (strs ((r.take m).map aZ)) rfl (a4.out.alloc _) ⟨w5.heap.size,0,none⟩ 1 1 [FC (bs tx)] rfl rfl (Fx (heap_alloc_new _ _)) (by simp[Value.oneCell']) (by decide) a3.out.1 a3.out.2 (by rw[ap];omega) _ rfl ?_);intro gw bt w8 D H a7 ba)
  have bj:=Fk ((a5.out.alloc (FG #[FC (bs tx)] 9)).grown H (fun g hg=> .inr (a4.out.lt g hg).1));rw[←fB,←bm.out] at D;have bq:=Fk D;clear D H a7 ba;go_wp2;go_roundw
  case rel=>exact ⟨m+1,_,rfl,by omega,by go_num,bq.out,bj.out⟩
  case measure=>simp[intOf];omega
 obtain rfl:m=r.length:=by omega
 have hq:=HO.out;rw[List.take_length] at hq;obtain ⟨g,cap,rfl,be,bX,hg,I⟩:=fN hq h1;have J:((r.map aZ).map bs).length=r.length:=by simp
 have U:((r.map aZ).map bs).map (·.data.toList)=r.map aZ:=by
  rw[List.map_map];exact (List.map_congr_left (fun x _=>rfl)).trans (List.map_id _)
 have V:r.map aZ≠[]:=fun h=>by
  have:=congrArg List.length h;simp at this;rw[this] at h1;simp at h1
 have HJ:=Tryz.strings_Join g 0 cap ((r.map aZ).map bs) (bs [32]) wr (fun j x hx=>by
  rw[Nat.zero_add];refine I j _ ?_;unfold strs;rw[List.map_map,List.getElem?_map];rw[List.map_map,List.getElem?_map] at hx
  cases hr:r[j]? with
  | none=>rw[hr] at hx;cases hx
  | some y=>rw[hr] at hx;cases hx;rfl) hg (by rw[J];omega) (by rw[J];exact be) (by
   rw[U];show (Lib.join (r.map aZ) [32]).length≤_;rw[oL 32 V];exact a1)
 rw[J,U] at HJ;have aA:Lib.join (r.map aZ) (bs [32]).data.toList=bM r:=oL 32 V;rw[aA] at HJ;have br:=Fk HJ;clear hq I HJ aA U J V;go_wp2_with fail
 refine br.out.mono ?_;rintro e w6 ⟨rfl,bb⟩;have bk:=Fk (N.out.trans (aa.of_below bb));clear bb;go_wp2;go_ret;exact ⟨rfl,bk.out⟩
theorem tD (D:List (List Vl)) (m:Nat) (h:m<D.length) (seen:List Bs) (out:List (List Vl)):aI (D.drop m) seen out=if bM D[m]∈seen then aI (D.drop (m+1)) seen out else aI (D.drop (m+1)) (bM D[m]::seen) (out++[D[m]]):=by
 rw[List.drop_eq_getElem_cons h];conv=>lhs;unfold aI
theorem rR (D:List (List Vl)) (B:Option Addr) (d:Nat) (w:World) (hE:gG w) (hR:cJ w [] B D) (hl:D.length≤4294967296) (H:∀ r∈D,1≤r.length∧r.length≤4294967296∧(∀ v∈r,dX v.num∧v.word.length≤1000000000)∧(bM r).length≤1000000000) :
  Calls Tryz.prog 102 #[FD B D.length d] w fun e w'=>(∃ v,e=FF v∧cC w' v (aI D [] []))∧aa [] w w':=by
 obtain ⟨ir,b9,bz,a5,a9⟩:=info_parts jt;have cm:= @run_makeMap Tryz.prog;have HT:=Fk (fun r (hm:r∈D) A c W (q:aa [] w W) (hA:Rd w [] 3 A r.length (al r))=>AK r (H r hm).1 (H r hm).2.1 (H r hm).2.2.1 (Ft (H r hm).2.2.2 (by decide)) A c W (hE.quiet q) (hA.keep q));have HL:=Fk (fun r (hm:r∈D)=>(H r hm).2.2.2);clear H hE;have HR:=Fk hR;clear hR;have bX:=Fk ((Fz [] w).alloc (.map #[] 0));have a0:=Fk (dc.made (P:=Tryz.prog) (S:=9) (E:=4) w);go_enter Tryz.func102,Tryz.ntmps102
 go_wp2;obtain ⟨w2,av⟩:∃ w2,(w.alloc (.map #[] 0))=w2:=⟨_,rfl⟩
 have ct:w2.heap.size=w.heap.size+1:=by rw[←av,ap]
 rw[av] at bX a0 ⊢;obtain ⟨bm,bc⟩:∃ bm,w.heap.size=bm:=⟨_,rfl⟩
 rw[bc] at a0 ct ⊢;have cD:w.heap.size≤bm:=by omega
 clear av bc cm;go_loopw [4,11] (fun u i wx=>∃ (m:Nat) (v:Value) (seen:List Bs) (out:List (List Vl)),v=u∧m≤D.length∧i=FH FI m∧out.length≤m∧Hid (dc Tryz.prog 9 4 wx bm m seen)∧Hid (fX w wx w2.heap.size v out)∧Hid (aI (D.drop m) seen out=aI D [] [])∧aa [] w wx∧w2.heap.size≤wx.heap.size) (fun _ i _=>D.length-(intOf i).toNat)
 case atStart=>exact ⟨0,_,[],[],rfl,Fu _,rfl,Fm _,a0,fX.nil _ _ _,rfl,bX.out,Fm _⟩
 obtain ⟨m,v,seen,out,rfl,hm,rfl,c0,HS,HG,HD,hk,cg⟩:=hrel;have HK:=Fk hk;clear hk;by_cases a2:m<D.length
 ·obtain ⟨us,ci,b3,bv⟩:=HR.out
  have b4:m<us.length:=by omega
  have bk:=bv m b4 a2;obtain ⟨b7,o7,cd,_,cz,bq⟩:=b3.open' (by omega) (by omega);have d7:=bq (m*1) us[m] (by rw[Nat.mul_one];exact Fp b4);rw[Nat.mul_one] at d7;have O:D[m]∈D:=Fs a2;have Z:=tD D m a2 seen out;rw[HD.out] at Z;generalize D[m]=r at *;have be:=Fk bk;obtain ⟨Ar,cr,hu,cy,b1⟩:=bk;rw[hu] at be d7;have d8:=HK.out.cell_of d7 (by simp);subst cd;have aA:=Fk (HT.out r O Ar cr wr HK.out b1);have c3:=HL.out r O;have c1:(0:Int)≤(m:Int):=by omega
  have cx:(m:Int)<(D.length:Int):=by omega
  have bo:=Fk Z;clear Z hu ci b3 bv bq d7 b1 O;generalize bM r=tx at *;go_wp2_with fail
  refine aA.out.mono ?_;rintro e w5 ⟨rfl,M⟩;have ad:=Fk (HS.out.keep M (by simp));have bb:=Fk (HG.out.keep M);have bZ:=Fk (HK.out.trans M);have bj:=Ft cg M.size;clear M;have J:=ad.out.look (T:=125) Tryz.underlying125 Tryz.underlying9 Tryz.underlying4 (by kernel_rfl) tx (by simp only[maxLen];omega);by_cases I:tx∈seen
  ·rw[decide_eq_true I] at J
   have a3:Hid (aI (D.drop (m+1)) seen out=aI D [] []):=Fk (by rw[bo.out,if_pos I]);clear I aA;go_wp2;go_roundw
   case rel=>exact ⟨m+1,v,seen,out,rfl,by omega,by go_num,by omega,ad.out.mono (by omega),bb.out,a3,bZ.out,bj⟩
   case measure=>simp[intOf];omega
  rw[decide_eq_false I] at J;have a3:Hid (aI (D.drop (m+1)) (tx::seen) (out++[r])=aI D [] []):=Fk (by rw[bo.out,if_neg I]);obtain ⟨w6,cu,br,U⟩:=ad.out.store (T:=125) Tryz.underlying125 Tryz.underlying9 Tryz.underlying4 tx (by simp only[maxLen];omega) (by simp only[maxLen];omega);obtain ⟨uo,b5,a1,a8⟩:=bb.out;have a7:=fun g hg=>(a1.lt g hg).1
  have V:=a1.kept U (by
   cases hv:v.ownBlock with
   | none=>exact .inl rfl
   | some g=>exact .inr (fun e=>by
     injection e with e;have:=a7 g hv;omega))
  have a4:=Fk V;have cj:=Fk a8;have cq:=Fk b5;have ba:=Fk br;have ch:=Fk (bZ.out.grown U (fun g hg=> .inr (by injection hg with hg;omega)));have cn:=Ft bj U.size;have bt:=Fk (show out.length+1≤maxLen∧(out.length+1)*24≤140737488355328 by simp only[maxLen];omega);clear I aA a1 a8 b5 V br U a7;go_wp2_with (at_builtin;(refine wpList_append_lies _ rfl _ _ 52 rfl w2.heap.size 89 ir _ 1 24 Tryz.underlying52 b9 bz a5 a9 rfl (by decide) _ out.length uo rfl (a4.out.alloc _) ⟨w6.heap.size,0,none⟩ 1 1 [FD Ar r.length cr] rfl rfl (Fx (heap_alloc_new _ _)) (by simp[Value.oneCell']) (by decide) bt.out.1 bt.out.2 (by rw[ap];omega) _ rfl ?_);intro gw cv w8 N h b0 b6)
  have ce:=Fk ((ch.out.alloc (FG #[FD Ar r.length cr] 89)).grown h (fun g hg=> .inr (Ft (by omega) (a4.out.lt g hg).1)));have ca:=Fk (gZ cq.out cj.out be.out N);have co:=Fk (ba.out.of_block (w':=w8) (by
   rw[h.block bm (by rw[ap];omega) (fun e=>by have:=(a4.out.lt bm e.symm).1;omega)];exact (((Fz [] w6).alloc _).block bm ba.out.lt (by simp))))
  have b8:w2.heap.size≤w8.heap.size:=Ft (Ft cn (by rw[ap];omega)) h.size;clear N h b0 b6;go_wp2;go_roundw
  case rel=>exact ⟨m+1,_,_,_,rfl,by omega,by go_num,by simp;omega,co,ca,a3,ce.out,b8⟩
  case measure=>simp[intOf];omega
 obtain rfl:m=D.length:=by omega
 have hd:=HD.out;rw[List.drop_length] at hd;have HF:=Fk (HG.out.is HK.out);have a6:out=aI D [] []:=hd;rw[a6] at HF;clear hd a6 HD HG HS;go_wp2;go_ret;exact ⟨⟨_,rfl,HF.out⟩,HK.out⟩
end
section
open Go.RowKit Go.BigFrame
def iL (us:List (Value×Value)):List Value:=us.flatMap fun p=>[p.1,p.2]
theorem lz (l:List (Value×Value)) (k:Nat) (h:k<l.length):(iL l)[k*2]? = some l[k].1∧(iL l)[k*2+1]? = some l[k].2:=by
 induction l generalizing k with
 | nil=>simp at h
 | cons p l ih =>
  rcases k with _|k
  ·simp[iL]
  have:=ih k (by simpa using h);simpa[iL,Nat.succ_mul] using this
theorem vA (us:List (Value×Value)) (p:Value×Value):iL (us++[p])=iL us++[p.1,p.2]:=by simp[iL]
def pX (w:World) (u:Value×Value) (t:Tb):Prop:=gB w u.1 t.cols∧cC w u.2 t.rows
def eu (w:World) (A:Option Addr) (D:List Tb):Prop :=
 ∃ us:List (Value×Value),us.length=D.length∧Rd w [] 2 A D.length (iL us)∧∀ i (h:i<us.length) (h':i<D.length),pX w us[i] D[i]
structure AL (t:Tb):Prop where
 names:∀ x∈t.cols,x.name.length≤1000000000
 ln:t.cols.length≤4294967296
 lm:t.rows.length≤4294967296
 lr:∀ r∈t.rows,r.length≤4294967296
theorem pX.keep {w w':World} {u:Value×Value} {t:Tb} (h:pX w u t) (D:aa [] w w'):pX w' u t:=⟨h.1.keep D,h.2.keep D⟩
theorem eu.keep {w w':World} {A:Option Addr} {D:List Tb} (h:eu w A D) (H:aa [] w w'):eu w' A D:=by
 obtain ⟨us,M,J,I⟩:=h;exact ⟨us,M,J.keep H,fun i a b=>(I i a b).keep H⟩
def qJ (R:Except Int (List Tb)) (e:Ending) (w':World):Prop:=match R with
 | .error x=>e=FF (.tuple #[FD none 0 0,.iface 37 (FH FI x)])
 | .ok l=>∃ B d,e=FF (.tuple #[FD B l.length d,.nilIface])∧l.length≤d∧eu w' B l
theorem AM {out:List (List Cl)} {D:List (List (List Vl))} {i:Nat} (I:i<out.length) (H:i<D.length) (h:60<D[i].length):de out D= .error 12:=by
 induction D generalizing out i with
 | nil=>simp at H
 | cons r M ih =>
  cases out with
  | nil=>simp at I
  | cons c cs =>
   unfold de;split
   ·rfl
   rename_i J;rcases i with _|i
   ·exact absurd h J
   rw[ih (out:=cs) (i:=i) (by simpa using I) (by simpa using H) (by simpa using h)]
theorem yG {out:List (List Cl)} {D:List (List (List Vl))} (h:out.length=D.length) (H:∀ i (h:i<D.length),D[i].length≤60):de out D= .ok (List.zipWith Tb.mk out D):=by
 induction D generalizing out with
 | nil =>
  have:out=[]:=List.eq_nil_of_length_eq_zero (by simpa using h);rw[this];rfl
 | cons r J ih =>
  cases out with
  | nil=>simp at h
  | cons c cs =>
   unfold de;rw[if_neg (by have:=H 0 (by simp);simp at this;omega),ih (by simpa using h) (fun i I=>by have:=H (i+1) (by simpa using I);simpa using this)];rfl
theorem ju {j:Jb} {ins:List (List Cl)} {out:List (List Cl)} (h:aK j ins= .ok out):out.length=if j.code=9 then 2 else 1:=by
 unfold aK at h;split at h
 ·cases h
 split at h
 ·unfold aX at h
  split at h
  ·cases h
  split at h
  ·cases h
  split at h
  ·cases h
  injection h with h;rw[←h,List.length_replicate]
 rename_i H;rw[if_neg (fun e=>H (.inr e))];have D:∀ {c:List Cl},out=[c]→out.length=1:=fun e=>by rw[e];rfl
 split at h
 ·unfold jS at h
  split at h
  ·cases h
  split at h
  ·cases h
  split at h
  ·cases h
  injection h with h;exact D h.symm
 split at h
 ·unfold bW at h
  split at h
  ·cases h
  split at h
  ·cases h
  injection h with h;exact D h.symm
 split at h
 ·split at h
  ·cases h
  injection h with h;exact D h.symm
 split at h
 ·unfold dg at h
  split at h
  ·cases h
  split at h
  ·split at h
   ·cases h
   split at h
   ·cases h
   split at h
   ·cases h
   injection h with h;exact D h.symm
  cases h
 split at h
 ·unfold cF at h
  split at h
  ·cases h
  split at h
  ·split at h
   ·cases h
   split at h
   ·cases h
   injection h with h;exact D h.symm
  cases h
 injection h with h;exact D h.symm
theorem oM {j:Jb} {ins:List Tb} {out:List (List Cl)} {D:List (List (List Vl))} (J:out.length=if j.code=9 then 2 else 1) (h:bw j ins out= .ok D):out.length=D.length:=by
 have H:∀ {c:List (List Vl)},j.code≠9→D=[c]→out.length=D.length:=fun V e=>by rw[J,if_neg V,e];rfl
 unfold bw at h;simp only at h;by_cases N:j.code=4
 ·rw[if_pos N] at h;injection h with h;exact H (by omega) h.symm
 rw[if_neg N] at h;by_cases U:j.code=7
 ·rw[if_pos U] at h;injection h with h;exact H (by omega) h.symm
 rw[if_neg U] at h;by_cases O:j.code=8
 ·rw[if_pos O] at h
  split at h
  ·cases h
  injection h with h;exact H (by omega) h.symm
 rw[if_neg O] at h;unfold fo at h;simp only at h;split at h
 ·injection h with h
  rw[←h,Fw];show out.length=min out.length 2;rw[J];split<;>rfl
 rename_i M;rw[J,if_neg (fun e=>M (.inr e))];have I:∀ {c:List (List Vl)},D=[c]→1=D.length:=fun e=>by rw[e];rfl
 split at h
 ·split at h
  ·cases h
  injection h with h;exact I h.symm
 split at h
 ·injection h with h;exact I h.symm
 split at h
 ·injection h with h;exact I h.symm
 injection h with h;exact I h.symm
def mO (w W:World) (base:Nat) (v:Value) (D:List (List Cl)):Prop :=
 ∃ us:List Value,us.length=D.length∧W.ownsRow base 51 1 v D.length us∧∀ i (h:i<us.length) (h':i<D.length),gB w us[i] D[i]
theorem mO.nil (w W:World) (base:Nat):mO w W base (FD none 0 0) []:=⟨[],rfl,World.ownsRow_nil _ _ _ _,fun i h=>by simp at h⟩
theorem mO.is {w W:World} {base:Nat} {v:Value} {D:List (List Cl)} (h:mO w W base v D) (H:aa [] w W):∃ A c,v=FD A D.length c∧D.length≤c∧aU W A D:=by
 obtain ⟨us,J,I,N⟩:=h;obtain ⟨A,c,e,M,O⟩:=iD I;exact ⟨A,c,e,M,us,J,O,fun i a b=>(N i a b).keep H⟩
theorem vB {w W':World} {base gw cap:Nat} {us:List Value} {D:List (List Cl)} {l:List Cl} {u:Value} (J:us.length=D.length) (M:∀ i (h:i<us.length) (h':i<D.length),gB w us[i] D[i]) (N:gB w u l)
  (H:W'.ownsRow base 51 1 (FD (some ⟨gw,0,none⟩) (D.length+1) cap) (D.length+1) (us++[u])):mO w W' base (FD (some ⟨gw,0,none⟩) (D.length+1) cap) (D++[l]):=by
 refine ⟨us++[u],by simp[J],by simpa using H,fun i a b=>?_⟩;by_cases I:i<us.length
 ·rw[List.getElem_append_left I,List.getElem_append_left (by omega)]
  exact M i I (by omega)
 have hi':i=us.length:=by simp at a;omega
 subst hi';rw[List.getElem_append_right (Fm _),List.getElem_append_right (by omega)];simpa[J] using N
def g9 (w W:World) (base:Nat) (v:Value) (D:List Tb):Prop :=
 ∃ us:List (Value×Value),us.length=D.length∧W.ownsRow base 54 2 v D.length (iL us)∧∀ i (h:i<us.length) (h':i<D.length),pX w us[i] D[i]
theorem g9.nil (w W:World) (base:Nat):g9 w W base (FD none 0 0) []:=⟨[],rfl,World.ownsRow_nil _ _ _ _,fun i h=>by simp at h⟩
theorem g9.is {w W:World} {base:Nat} {v:Value} {D:List Tb} (h:g9 w W base v D) (H:aa [] w W):∃ A c,v=FD A D.length c∧D.length≤c∧eu W A D:=by
 obtain ⟨us,J,I,N⟩:=h;obtain ⟨A,c,e,M,O⟩:=iD I;exact ⟨A,c,e,M,us,J,O,fun i a b=>(N i a b).keep H⟩
theorem oN {w W':World} {base gw cap:Nat} {us:List (Value×Value)} {D:List Tb} {t:Tb} {u x:Value} (J:us.length=D.length) (M:∀ i (h:i<us.length) (h':i<D.length),pX w us[i] D[i]) (O:gB w u t.cols) (N:cC w x t.rows)
  (H:W'.ownsRow base 54 2 (FD (some ⟨gw,0,none⟩) (D.length+1) cap) (D.length+1) (iL us++[u,x])):g9 w W' base (FD (some ⟨gw,0,none⟩) (D.length+1) cap) (D++[t]):=by
 refine ⟨us++[(u,x)],by simp[J],by rw[vA];simpa using H,fun i a b=>?_⟩;by_cases I:i<us.length
 ·rw[List.getElem_append_left I,List.getElem_append_left (by omega)]
  exact M i I (by omega)
 have hi':i=us.length:=by simp at a;omega
 subst hi';rw[List.getElem_append_right (Fm _),List.getElem_append_right (by omega)];have:D.length=us.length:=J.symm;simp only[Nat.sub_self,this,List.getElem_cons_zero];exact ⟨O,N⟩
theorem oO {W:World} {b:Nat} {t:TypeId} {U v1 N v3 v4 v5 O V Z v9 J H D I M:Value} (h:ao W b t #[U,v1,N,v3,v4,v5,O,V,Z,v9,J,H,D,I,M]) :
  W.cell? ⟨b,0,none⟩=some U∧W.cell? ⟨b,1,none⟩=some v1∧W.cell? ⟨b,2,none⟩=some N∧W.cell? ⟨b,3,none⟩=some v3∧W.cell? ⟨b,4,none⟩=some v4∧W.cell? ⟨b,5,none⟩=some v5∧W.cell? ⟨b,6,none⟩=some O∧W.cell? ⟨b,7,none⟩=some V∧W.cell? ⟨b,8,none⟩=some Z∧W.cell? ⟨b,9,none⟩=some v9∧W.cell? ⟨b,10,none⟩=some J∧W.cell? ⟨b,11,none⟩=some H∧W.cell? ⟨b,12,none⟩=some D∧W.cell? ⟨b,13,none⟩=some I∧W.cell? ⟨b,14,none⟩=some M :=
 ⟨h.cell 0,h.cell 1,h.cell 2,h.cell 3,h.cell 4,h.cell 5,h.cell 6,h.cell 7,h.cell 8,h.cell 9,h.cell 10,h.cell 11,h.cell 12,h.cell 13,h.cell 14⟩
end
section
open Go.RowKit Go.BigFrame
attribute [local go_sem] ag ab ae af
attribute [local go_sem] KW.cell
theorem qP (a:Vl) (op:Bs) (b:Vl) (w:World) :
  Calls Tryz.prog 97 #[fV a,FC (bs op),fV b] w fun e w'=>e=FF (.bool (nK a op b))∧aa [] w w':=by
 obtain ⟨R,hR⟩:∃ R,nK a op b=R:=⟨_,rfl⟩
 rw[hR];have N:Hid (R=if op=[61] then !cH a b && !cH b a else if op=[60,62] then cH a b||cH b a else if op=[60] then cH a b else if op=[60,61] then !cH b a else if op=[62] then cH b a else !cH a b):=Fk hR.symm;clear hR;obtain ⟨h,ad⟩:∃ h,(w.alloc (FG #[FH FI a.kind,FH FI a.num,FC (bs a.word)] 46)).alloc (FG #[FH FI b.kind,FH FI b.num,FC (bs b.word)] 46)=h:=⟨_,rfl⟩
 have HK:Hid (aa [] w h):=Fk (by rw[←ad];exact ((Fz _ _).alloc _).alloc _);have ha:=(FA w 46 #[FH FI a.kind,FH FI a.num,FC (bs a.word)]).alloc (FG #[FH FI b.kind,FH FI b.num,FC (bs b.word)] 46);have hb:=FA (w.alloc (FG #[FH FI a.kind,FH FI a.num,FC (bs a.word)] 46)) 46 #[FH FI b.kind,FH FI b.num,FC (bs b.word)];rw[show (w.alloc (FG #[FH FI a.kind,FH FI a.num,FC (bs a.word)] 46)).heap.size=w.heap.size+1 from Array.size_push _] at hb;rw[ad] at ha hb;have C0:Hid (h.cell? ⟨w.heap.size,0,none⟩=some (FH FI a.kind)):=Fk (ha.cell 0);have C1:Hid (h.cell? ⟨w.heap.size,1,none⟩=some (FH FI a.num)):=Fk (ha.cell 1);have C2:Hid (h.cell? ⟨w.heap.size,2,none⟩=some (FC (bs a.word))):=Fk (ha.cell 2);have D0:Hid (h.cell? ⟨w.heap.size+1,0,none⟩=some (FH FI b.kind)):=Fk (hb.cell 0);have D1:Hid (h.cell? ⟨w.heap.size+1,1,none⟩=some (FH FI b.num)):=Fk (hb.cell 1);have D2:Hid (h.cell? ⟨w.heap.size+1,2,none⟩=some (FC (bs b.word))):=Fk (hb.cell 2);have L0:Hid (w.heap.size<h.heap.size):=Fk ha.lt;have L1:Hid (w.heap.size+1<h.heap.size):=Fk hb.lt;have HW:=Fk ad;have av:=Fk (fun W=>lC a b W);have aA:=Fk (fun W=>lC b a W);generalize cH a b=m at *;generalize cH b a=n at *;clear ha hb ad;obtain ⟨k1,n1,s1⟩:=a;obtain ⟨k2,n2,s2⟩:=b;have H:Hid (∀ W,aa [] h W→Calls Tryz.prog 138 #[.agg #[FH FI k1,FH FI n1,FC (bs s1)],.agg #[FH FI k2,FH FI n2,FC (bs s2)]] W fun e W'=>e=FF (.bool m)∧aa [] W W'):=Fk fun W _=>av.out W
 have D:Hid (∀ W,aa [] h W→Calls Tryz.prog 138 #[.agg #[FH FI k2,FH FI n2,FC (bs s2)],.agg #[FH FI k1,FH FI n1,FC (bs s1)]] W fun e W'=>e=FF (.bool n)∧aa [] W W'):=Fk fun W _=>aA.out W
 clear av aA;simp only at HW C0 C1 C2 D0 D1 D2 HK L0 L1;by_cases h0:op=[61]
 ·subst h0
  have J:Hid (R=(!m && !n)):=Fk (N.out.trans (if_pos rfl));clear N;cases m<;>cases n
  all_goals
   show Calls _ _ #[.agg #[FH FI k1,FH FI n1,FC (bs s1)],FC ⟨#[61]⟩,.agg #[FH FI k2,FH FI n2,FC (bs s2)]] w _;go_enter Tryz.func97,Tryz.ntmps97
   go_wp2_with fail
   have Z:=C0.out;have M:=C1.out;have c2:=C2.out;have V:=D0.out;have I:=D1.out;have U:=D2.out;have l0:=L0.out;have l1:=L1.out;rw[HW.out];refine ah (by kernel_rfl) (by kernel_rfl) ?_;repeat (go_big_quiet_step (first|with_reducible exact KW.of H.out _|with_reducible exact KW.of D.out _))
   refine wpQuiet_nil ?_;intro wx O;clear Z M c2 V I U;go_wp2;go_ret;exact ⟨by rw[J.out];rfl,HK.out.trans O⟩
 have t0:(op==[61])=false:=by rw[beq_eq_false_iff_ne];exact h0
 by_cases h1:op=[60,62]
 ·subst h1
  have J:Hid (R=(m||n)):=Fk (N.out.trans ((if_neg (show ¬(([60,62]:Bs)=[61]) by decide)).trans (if_pos rfl)));clear N;cases m<;>cases n
  all_goals
   show Calls _ _ #[.agg #[FH FI k1,FH FI n1,FC (bs s1)],FC ⟨#[60,62]⟩,.agg #[FH FI k2,FH FI n2,FC (bs s2)]] w _;go_enter Tryz.func97,Tryz.ntmps97
   go_wp2_with fail
   have Z:=C0.out;have M:=C1.out;have c2:=C2.out;have V:=D0.out;have I:=D1.out;have U:=D2.out;have l0:=L0.out;have l1:=L1.out;rw[HW.out];refine ah (by kernel_rfl) (by kernel_rfl) ?_;repeat (go_big_quiet_step (first|with_reducible exact KW.of H.out _|with_reducible exact KW.of D.out _))
   refine wpQuiet_nil ?_;intro wx O;clear Z M c2 V I U;go_wp2;go_ret;exact ⟨by rw[J.out];rfl,HK.out.trans O⟩
 have t1:(op==[60,62])=false:=by rw[beq_eq_false_iff_ne];exact h1
 by_cases h2:op=[60]
 ·subst h2
  have J:Hid (R=(m)):=Fk (N.out.trans ((if_neg (show ¬(([60]:Bs)=[61]) by decide)).trans ((if_neg (show ¬(([60]:Bs)=[60,62]) by decide)).trans (if_pos rfl))));clear N;show Calls _ _ #[.agg #[FH FI k1,FH FI n1,FC (bs s1)],FC ⟨#[60]⟩,.agg #[FH FI k2,FH FI n2,FC (bs s2)]] w _;go_enter Tryz.func97,Tryz.ntmps97
  go_wp2_with fail
  have Z:=C0.out;have M:=C1.out;have c2:=C2.out;have V:=D0.out;have I:=D1.out;have U:=D2.out;have l0:=L0.out;have l1:=L1.out;rw[HW.out];refine ah (by kernel_rfl) (by kernel_rfl) ?_;repeat (go_big_quiet_step (first|with_reducible exact KW.of H.out _|with_reducible exact KW.of D.out _))
  refine wpQuiet_nil ?_;intro wx O;clear Z M c2 V I U;go_wp2;go_ret;exact ⟨by rw[J.out];rfl,HK.out.trans O⟩
 have t2:(op==[60])=false:=by rw[beq_eq_false_iff_ne];exact h2
 by_cases h3:op=[60,61]
 ·subst h3
  have J:Hid (R=(!n)):=Fk (N.out.trans ((if_neg (show ¬(([60,61]:Bs)=[61]) by decide)).trans ((if_neg (show ¬(([60,61]:Bs)=[60,62]) by decide)).trans ((if_neg (show ¬(([60,61]:Bs)=[60]) by decide)).trans (if_pos rfl)))));clear N;show Calls _ _ #[.agg #[FH FI k1,FH FI n1,FC (bs s1)],FC ⟨#[60,61]⟩,.agg #[FH FI k2,FH FI n2,FC (bs s2)]] w _;go_enter Tryz.func97,Tryz.ntmps97
  go_wp2_with fail
  have Z:=C0.out;have M:=C1.out;have c2:=C2.out;have V:=D0.out;have I:=D1.out;have U:=D2.out;have l0:=L0.out;have l1:=L1.out;rw[HW.out];refine ah (by kernel_rfl) (by kernel_rfl) ?_;repeat (go_big_quiet_step (first|with_reducible exact KW.of H.out _|with_reducible exact KW.of D.out _))
  refine wpQuiet_nil ?_;intro wx O;clear Z M c2 V I U;go_wp2;go_ret;exact ⟨by rw[J.out];rfl,HK.out.trans O⟩
 have t3:(op==[60,61])=false:=by rw[beq_eq_false_iff_ne];exact h3
 by_cases h4:op=[62]
 ·subst h4
  have J:Hid (R=(n)):=Fk (N.out.trans ((if_neg (show ¬(([62]:Bs)=[61]) by decide)).trans ((if_neg (show ¬(([62]:Bs)=[60,62]) by decide)).trans ((if_neg (show ¬(([62]:Bs)=[60]) by decide)).trans ((if_neg (show ¬(([62]:Bs)=[60,61]) by decide)).trans (if_pos rfl))))));clear N;show Calls _ _ #[.agg #[FH FI k1,FH FI n1,FC (bs s1)],FC ⟨#[62]⟩,.agg #[FH FI k2,FH FI n2,FC (bs s2)]] w _;go_enter Tryz.func97,Tryz.ntmps97
  go_wp2_with fail
  have Z:=C0.out;have M:=C1.out;have c2:=C2.out;have V:=D0.out;have I:=D1.out;have U:=D2.out;have l0:=L0.out;have l1:=L1.out;rw[HW.out];refine ah (by kernel_rfl) (by kernel_rfl) ?_;repeat (go_big_quiet_step (first|with_reducible exact KW.of H.out _|with_reducible exact KW.of D.out _))
  refine wpQuiet_nil ?_;intro wx O;clear Z M c2 V I U;go_wp2;go_ret;exact ⟨by rw[J.out];rfl,HK.out.trans O⟩
 have t4:(op==[62])=false:=by rw[beq_eq_false_iff_ne];exact h4
 have J:Hid (R= !m):=Fk (by rw[N.out,if_neg h0,if_neg h1,if_neg h2,if_neg h3,if_neg h4]);clear h0 h1 h2 h3 h4;show Calls _ _ #[.agg #[FH FI k1,FH FI n1,FC (bs s1)],FC (bs op),.agg #[FH FI k2,FH FI n2,FC (bs s2)]] w _;go_enter Tryz.func97,Tryz.ntmps97
 go_wp2_with fail
 have Z:=C0.out;have M:=C1.out;have c2:=C2.out;have V:=D0.out;have I:=D1.out;have U:=D2.out;have l0:=L0.out;have l1:=L1.out;rw[HW.out];refine ah (by kernel_rfl) (by kernel_rfl) ?_;repeat (go_big_quiet_step (first|with_reducible exact KW.of H.out _|with_reducible exact KW.of D.out _))
 refine wpQuiet_nil ?_;intro wx O;clear Z M c2 V I U;go_wp2;go_ret;exact ⟨by rw[J.out];rfl,HK.out.trans O⟩
def fO (a:Ar) (l:List Cl) (r:List Vl):Prop:=a.col=[]∨∃ k,an l a.col=some k∧k<r.length
theorem eN (a:Ar) (l:List Cl) (r:List Vl) (A B:Option Addr) (c d:Nat) (w:World) (hA:Rd w [] 2 A l.length (ai l)) (hl:l.length≤4294967296) (hB:Rd w [] 3 B r.length (al r)) (O:fO a l r) :
  Calls Tryz.prog 98 #[Ey a,FD A l.length c,FD B r.length d] w fun e w'=>e=FF (fV (bB a l r))∧aa [] w w':=by
 obtain ⟨nm,v⟩:=a;show Calls _ _ #[.agg #[FC (bs nm),FH FI v.kind,FH FI v.num,FC (bs v.word)],FD A l.length c,FD B r.length d] w _;have U:aa [] w ((w.alloc (FG #[FC (bs nm),FH FI v.kind,FH FI v.num,FC (bs v.word)] 48)).alloc (FG #[FH FI 0,FH FI 0,FC ⟨#[]⟩] 46)):=((Fz [] w).alloc _).alloc _;have I:=Fk U;obtain ⟨R,Z⟩:∃ R,bB ⟨nm,v⟩ l r=R:=⟨_,rfl⟩
 rw[Z];have HR:=Fk Z
 cases nm with
 | nil =>
  have N:Hid (R=v):=Fk (by rw[←HR.out];unfold bB;rw[if_pos rfl]);clear HR Z hA hB O U;go_enter Tryz.func98,Tryz.ntmps98
  go_wp2;refine bodyPost_ret (v:= .agg #[FH FI v.kind,FH FI v.num,FC (bs v.word)]) (by simp[results,Tryz.results98,go_sem]) rfl ⟨by rw[N.out];rfl,?_⟩;repeat first|exact Fz _ _|refine aa.alloc ?_ _|refine aa.setCell ?_ (.inr (by simp)) _
 | cons x tl =>
  obtain ⟨k,hk,J⟩:∃ k,an l (x::tl)=some k∧k<r.length:=by
   rcases O with h|h
   ·cases h
   exact h
  have V:r.getD k zV=r[k]:=by rw[Fy,Fp J];rfl
  have N:Hid (R=r[k]):=Fk (by rw[←HR.out,←V];unfold bB;rw[if_neg (by simp)];simp only[hk]);have HF:=Fk (fun W (q:aa [] w W)=>bQ l (x::tl) A c W (hA.keep q) hl);rw[hk] at HF;obtain ⟨b,o,a0,_,hb,M⟩:=hB.open' (by omega) (by omega);subst a0;have d0:=M (k*3) _ (ay r k J).1;have d1:=M (k*3+1) _ (ay r k J).2.1;have d2:=M (k*3+2) _ (ay r k J).2.2;rw[←Nat.add_assoc] at d1 d2;have a3:(0:Int)≤(k:Int):=by omega
  have a2:(k:Int)<(r.length:Int):=by omega
  generalize r[k]=u at *;have a1:=Fk d0;have av:=Fk d1;have ad:=Fk d2;clear HR Z hA hB O U V M hk d0 d1 d2;go_enter Tryz.func98,Tryz.ntmps98
  go_wp2_with fail
  refine (HF.out _ I.out).mono ?_;rintro e w2 ⟨rfl,H⟩;simp only[eG];have e0:=(I.out.trans H).cell_of a1.out (by simp);have e1:=(I.out.trans H).cell_of av.out (by simp);have e2:=(I.out.trans H).cell_of ad.out (by simp);have D:=(FA (w.alloc (FG #[FC (bs (x::tl)),FH FI v.kind,FH FI v.num,FC (bs v.word)] 48)) 46 #[FH FI 0,FH FI 0,FC ⟨#[]⟩]).keep H (by simp);rw[show (w.alloc (FG #[FC (bs (x::tl)),FH FI v.kind,FH FI v.num,FC (bs v.word)] 48)).heap.size=w.heap.size+1 from Array.size_push _] at D;have c0:w2.cell? ⟨w.heap.size+1,0,none⟩=some (FH FI 0):=D.cell 0;have c1:w2.cell? ⟨w.heap.size+1,1,none⟩=some (FH FI 0):=D.cell 1;have c2:w2.cell? ⟨w.heap.size+1,2,none⟩=some (FC ⟨#[]⟩):=D.cell 2;have f0:=D.frozen 0;have f1:=D.frozen 1;have f2:=D.frozen 2;have aA:=Fk (I.out.trans H);clear H D;go_wp2;refine bodyPost_ret (v:= .agg #[FH FI u.kind,FH FI u.num,FC (bs u.word)]) (by simp[results,Tryz.results98,go_sem,c0,c1,c2]) rfl ⟨by rw[N.out];rfl,?_⟩;exact ((aA.out.setCell (.inr (by simp)) _).setCell (.inr (by simp)) _).setCell (.inr (by simp)) _
end
section
open Go.RowKit Go.BigFrame
attribute [local go_sem] ag ab ae af
theorem Df:(Tryz.prog.info? 54).map (fun i=>(i.zero,i.size,i.bytes))=some (some (.agg #[FD none 0 0,FD none 0 0]),2,48):=by kernel_rfl
theorem EI:(Tryz.prog.info? 51).map (fun i=>(i.zero,i.size,i.bytes))=some (some (FD none 0 0),1,24):=by kernel_rfl
theorem AX {α:Type} {p:α→Prop} {l:List α} {m:Nat} (h:m<l.length) (I:∀ x∈l.take m,p x) (H:p l[m]):∀ x∈l.take (m+1),p x:=fun x D=>by
 rw[List.take_succ_eq_append_getElem h,List.mem_append] at D;rcases D with D|D
 ·exact I x D
 rw[List.mem_singleton] at D;rw[D];exact H
theorem rX (j:Jb) (Ao:Option Addr) (co:Nat) (Ai:Option Addr) (ni ci:Nat) (Ac:Option Addr) (cc:Nat) (ins:List Tb) (AT:Option Addr) (ct:Nat) (w:World) (hI:eu w AT ins) (hB:∀ t∈ins,AL t) (hl:ins.length≤4294967296)
  (hC:∀ W,aa [] w W→∀ AH ch,aU W AH (ins.map (·.cols))→Calls Tryz.prog 22 #[eH j Ao co Ai ni ci Ac cc,FD AH (ins.map (·.cols)).length ch] W fun e w'=>aP (aK j (ins.map (·.cols))) e w'∧aa [] W w')
  (hM:∀ out,(∀ t∈ins,ak t=true)→aK j (ins.map (·.cols))= .ok out→∀ W,aa [] w W→∀ OA od,Calls Tryz.prog 64 #[eH j Ao co Ai ni ci Ac cc,FD AT ins.length ct,FD OA out.length od] W fun e w'=>dw (bw j ins out) e w'∧aa [] W w') :
  Calls Tryz.prog 24 #[eH j Ao co Ai ni ci Ac cc,FD AT ins.length ct] w fun e w'=>qJ (j6 j ins) e w'∧aa [] w w':=by
 obtain ⟨ih,ff,dv,dz,el⟩:=info_parts EI;obtain ⟨it,g0,eA,dt,e2⟩:=info_parts Df;obtain ⟨R,hR⟩:∃ R,j6 j ins=R:=⟨_,rfl⟩
 have d6:Hid (∀ t∈ins,ak t=false→R= .error 1):=Fk fun t ht hr=>by
  rw[←hR];unfold j6;rw[if_pos (List.any_eq_true.2 ⟨t,ht,by rw[hr];rfl⟩)]
 have bo:Hid ((∀ t∈ins,ak t=true)→R=match aK j (ins.map (·.cols)) with
  | .error e=> .error e
  | .ok out=>match bw j ins out with
   | .error e=> .error e
   | .ok D=>de out D):=Fk fun h=>by
  rw[←hR];unfold j6;rw[if_neg (by rw[List.any_eq_true];rintro ⟨t,ht,hn⟩;rw[h t ht] at hn;cases hn)]
  cases aK j (ins.map (·.cols)) with
  | error e=>rfl
  | ok out=>cases bw j ins out<;>rfl
 rw[hR];have bZ:=Fk (fun out (h:aK j (ins.map (·.cols))= .ok out)=>ju h);have b1:=Fk (fun out D (h:out.length=if j.code=9 then 2 else 1) (h2:bw j ins out= .ok D)=>oM h h2);obtain ⟨CJ,d3⟩:∃ C,aK j (ins.map (·.cols))=C:=⟨_,rfl⟩
 rw[d3] at hC hM bo bZ;obtain ⟨MJ,eY⟩:∃ M,bw j ins=M:=⟨_,rfl⟩
 rw[eY] at hM bo b1;obtain ⟨CD,d4⟩:∃ c,j.code=c:=⟨_,rfl⟩
 rw[d4] at bZ b1;obtain ⟨U,code,outs,js,cols,op,⟨lc,lk,ln,lw⟩,⟨rc,rk,rn,O⟩,H⟩:=j;obtain ⟨no,b3⟩:∃ n,outs.length=n:=⟨_,rfl⟩
 obtain ⟨nc,ce⟩:∃ n,cols.length=n:=⟨_,rfl⟩
 have HC:Hid (∀ W,aa [] w W→∀ AH ch,aU W AH (ins.map (·.cols))→Calls Tryz.prog 22 #[.agg #[FH FI U,FH FI code,FD Ao no co,FD Ai ni ci,FD Ac nc cc,FC (bs op),FC (bs lc),FH FI lk,FH FI ln,FC (bs lw),FC (bs rc),FH FI rk,FH FI rn,FC (bs O),FH FI H],FD AH ins.length ch] W fun e w'=>aP CJ e w'∧aa [] W w'):=Fk (by rw[←b3,←ce];simp only[List.length_map] at hC;exact hC);have HM:Hid (∀ out,(∀ t∈ins,ak t=true)→CJ= .ok out→∀ W,aa [] w W→∀ OA od,Calls Tryz.prog 64 #[.agg #[FH FI U,FH FI code,FD Ao no co,FD Ai ni ci,FD Ac nc cc,FC (bs op),FC (bs lc),FH FI lk,FH FI ln,FC (bs lw),FC (bs rc),FH FI rk,FH FI rn,FC (bs O),FH FI H],FD AT ins.length ct,FD OA out.length od] W fun e w'=>dw (MJ out) e w'∧aa [] W w'):=Fk (by rw[←b3,←ce];exact hM);show Calls _ _ #[.agg #[FH FI U,FH FI code,FD Ao outs.length co,FD Ai ni ci,FD Ac cols.length cc,FC (bs op),FC (bs lc),FH FI lk,FH FI ln,FC (bs lw),FC (bs rc),FH FI rk,FH FI rn,FC (bs O),FH FI H],FD AT ins.length ct] w _;rw[b3,ce];have HI:=Fk hI;have bt:=Fk hB;clear hI hB hC hM hR d3 eY d4 b3 ce;have ey:Hid (aa [] w (w.alloc (FG #[FH FI U,FH FI code,FD Ao no co,FD Ai ni ci,FD Ac nc cc,FC (bs op),FC (bs lc),FH FI lk,FH FI ln,FC (bs lw),FC (bs rc),FH FI rk,FH FI rn,FC (bs O),FH FI H] 50))):=Fk ((Fz _ _).alloc _);have b5:=Fk (FA w 50 #[FH FI U,FH FI code,FD Ao no co,FD Ai ni ci,FD Ac nc cc,FC (bs op),FC (bs lc),FH FI lk,FH FI ln,FC (bs lw),FC (bs rc),FH FI rk,FH FI rn,FC (bs O),FH FI H]);go_enter Tryz.func24,Tryz.ntmps24
 go_wp2;obtain ⟨w2,er⟩:∃ w2,(w.alloc (FG #[FH FI U,FH FI code,FD Ao no co,FD Ai ni ci,FD Ac nc cc,FC (bs op),FC (bs lc),FH FI lk,FH FI ln,FC (bs lw),FC (bs rc),FH FI rk,FH FI rn,FC (bs O),FH FI H] 50))=w2:=⟨_,rfl⟩
 rw[er] at ey b5 ⊢;obtain ⟨bx,d1⟩:∃ bx,w.heap.size=bx:=⟨_,rfl⟩
 rw[d1] at b5 ⊢;clear er d1;go_loopw [6,17] (fun u i wx=>∃ (m:Nat) (v:Value),v=u∧m≤ins.length∧i=FH FI m∧Hid (mO w wx w2.heap.size v ((ins.take m).map (·.cols)))∧Hid (∀ t∈ins.take m,ak t=true)∧aa [] w2 wx) (fun _ i _=>ins.length-(intOf i).toNat)
 case atStart=>exact ⟨0,_,rfl,Fu _,rfl,mO.nil _ _ _,by rw[List.take_zero];exact Fk (fun t ht=>by cases ht),Fz _ _⟩
 obtain ⟨m,v,rfl,hm,rfl,HG,cx,hk⟩:=hrel;have HK:=Fk hk;have V:=Fk (ey.out.trans hk);clear hk;by_cases ad:m<ins.length
 ·obtain ⟨us,cD,bc,a8⟩:=HI.out
  have a4:m<us.length:=by omega
  obtain ⟨hh,hw⟩:=a8 m a4 ad;obtain ⟨b7,o7,cv,_,f3,a3⟩:=bc.open' (by omega) (by omega);have d7:=a3 _ _ (lz us m a4).1;have d8:=a3 _ _ (lz us m a4).2;rw[←Nat.add_assoc] at d8;subst cv;have aA:ins[m]∈ins:=Fs ad;have HH:=Fk hh;have e3:(ins.take (m+1)).map (·.cols)=(ins.take m).map (·.cols)++[ins[m].cols]:=by rw[List.take_succ_eq_append_getElem ad,List.map_append];rfl
  have b6:=Fk e3;have cz:=Fk (fun (h:ak ins[m]=true)=>AX ad cx.out h);have ds:((ins.take m).map (·.cols)).length=m:=by rw[List.length_map,Fw];omega
  generalize ins[m]=t at *;obtain ⟨A,c,bk,en,hA⟩:=hh;obtain ⟨B,d,a5,dB,bX⟩:=hw;rw[bk] at d7 HH;rw[a5] at d8;have e7:=V.out.cell_of d7 (by simp);have e8:=V.out.cell_of d8 (by simp);have cj:aY w t A B c d:=⟨hA,en,bX,dB,(bt.out t aA).names,(bt.out t aA).ln,(bt.out t aA).lm,(bt.out t aA).lr⟩;have b0:=Fk (fun W (q:aa [] w W)=>(cj.quiet q).right);have b4:=Fk (d6.out t aA);have gf:(0:Int)≤(m:Int):=by omega
  have f2:(m:Int)<(ins.length:Int):=by omega
  clear e3 cD bc a8 a3 d7 d8 cj hA bX bk a5
  cases hr:ak t with
  | false =>
   rw[hr] at b0 b4;have HF:=Fk (b4.out rfl);clear hr b4;go_wp2_with fail
   refine (b0.out _ (V.out.alloc _)).mono ?_;rintro e w3 ⟨rfl,J⟩;go_wp2;go_ret2;exact ⟨by rw[HF.out];rfl,(V.out.alloc _).trans J⟩
  | true =>
   rw[hr] at b0 cz;have br:=Fk (cz.out rfl);clear hr b4 cz;go_wp2_with fail
   refine (b0.out _ (V.out.alloc _)).mono ?_;rintro e w3 ⟨rfl,J⟩;have d5:=Fk ((HK.out.alloc (FG #[FD A t.cols.length c,FD B t.rows.length d] 54)).trans J);have x0:=J.cell_of (p:=⟨wr.heap.size,0,none⟩) (v:=FD A t.cols.length c) ((FA _ _ _).cell 0) (by simp);have x1:=J.cell_of (p:=⟨wr.heap.size,1,none⟩) (v:=FD B t.rows.length d) ((FA _ _ _).cell 1) (by simp);obtain ⟨hs,a6,a1,a7⟩:=HG.out;rw[ds] at a1;have HO:=Fk (aE (a1.alloc (FG #[FD A t.cols.length c,FD B t.rows.length d] 54)) J (fun _ _=>by simp));have c9:=Fk a7;have c1:=Fk a6;have Z:=Fk ds;have f9:w2.heap.size≤w3.heap.size:=d5.out.size;have bm:=Fk (show m+1≤maxLen∧(m+1)*24≤140737488355328 by simp only[maxLen];omega);clear J a1 a7 a6 ds;go_wp2_with (at_builtin;(refine wpList_append_lies _ rfl _ _ 80 rfl w2.heap.size 51 ih _ 1 24 Tryz.underlying80 ff dv dz el rfl (by decide) _ m hs rfl (HO.out.alloc _) ⟨w3.heap.size,0,none⟩ 1 1 [FD A t.cols.length c] rfl rfl (Fx (heap_alloc_new _ _)) (by simp[Value.oneCell']) (by decide) bm.out.1 bm.out.2 (by rw[ap];omega) _ rfl ?_);intro gw av w8 N I a9 be)
   have cu:=Fk ((d5.out.alloc (FG #[FD A t.cols.length c] 51)).grown I (fun g hg=> .inr (HO.out.lt g hg).1));have cr:Hid (mO w w8 w2.heap.size (FD (some ⟨gw,0,none⟩) (m+1) av) ((ins.take (m+1)).map (·.cols))):=Fk (by
    rw[b6.out];have h:=vB (w:=w) (W':=w8) (base:=w2.heap.size) (gw:=gw) (cap:=av) c1.out c9.out HH.out (by rw[Z.out];exact N);rw[Z.out] at h;exact h)
   clear N I a9 be;go_wp2;go_roundw
   case rel=>exact ⟨m+1,_,rfl,by omega,by go_num,cr,br,cu.out⟩
   case measure=>simp[intOf];omega
 obtain rfl:m=ins.length:=by omega
 have a0:=cx.out;rw[List.take_length] at a0;have hg:=HG.out;rw[List.take_length] at hg;obtain ⟨AH,ch,hv,gi,ez⟩:=hg.is V.out;rw[List.length_map] at hv gi;subst hv;have b8:=Fk (bo.out a0);have bv:=Fk (HC.out wr V.out AH ch ez);obtain ⟨y0,y1,y2,y3,y4,y5,y6,y7,y8,y9,f7,f6,f5,fn,gz⟩:=oO (b5.out.keep HK.out (by simp));have fr:=Fk (b5.out.keep HK.out (by simp));have cn:=Fk a0;clear a0 hg ez d6 bo HC HG cx
 cases CJ with
 | error x =>
  have a2:Hid (R= .error x):=b8;have bz:Hid (Calls Tryz.prog 22 #[.agg #[FH FI U,FH FI code,FD Ao no co,FD Ai ni ci,FD Ac nc cc,FC (bs op),FC (bs lc),FH FI lk,FH FI ln,FC (bs lw),FC (bs rc),FH FI rk,FH FI rn,FC (bs O),FH FI H],FD AH ins.length ch] wr fun e w'=>e=FF (.tuple #[FD none 0 0,.iface 37 (FH FI x)])∧aa [] wr w'):=bv;clear b8 bv;go_wp2_with fail
  with_reducible refine bz.out.mono ?_
  rintro e w3 ⟨rfl,J⟩;go_wp2;go_ret2;exact ⟨by rw[a2.out];rfl,V.out.trans J⟩
 | ok out =>
  have a2:Hid (R=match MJ out with
   | .error e=> .error e
   | .ok D=>de out D):=b8
  have bz:Hid (Calls Tryz.prog 22 #[.agg #[FH FI U,FH FI code,FD Ao no co,FD Ai ni ci,FD Ac nc cc,FC (bs op),FC (bs lc),FH FI lk,FH FI ln,FC (bs lw),FC (bs rc),FH FI rk,FH FI rn,FC (bs O),FH FI H],FD AH ins.length ch] wr fun e w'=>(∃ B d,e=FF (.tuple #[FD B out.length d,.nilIface])∧out.length≤d∧aU w' B out)∧aa [] wr w'):=bv;have cy:=Fk (bZ.out out rfl);have e5:=Fk (HM.out out cn.out rfl);have Z:=Fk (fun D=>b1.out out D cy.out);clear b8 bv HM bZ b1 cn;go_wp2_with fail
  with_reducible refine bz.out.mono ?_
  rintro e w3 ⟨⟨OA,od,rfl,g8,e0⟩,J⟩;have dq:=Fk (V.out.trans J);have et:=Fk e0;obtain ⟨z0,z1,z2,z3,z4,z5,z6,z7,z8,z9,fS,f8,gl,fs,g1⟩:=oO (fr.out.keep J (by simp));have bq:=Fk (e5.out w3 dq.out OA od);clear J e0 e5 bz y0 y1 y2 y3 y4 y5 y6 y7 y8 y9 f7 f6 f5 fn gz;generalize MJ out=MO at *
  cases MO with
  | error x =>
   have ca:Hid (R= .error x):=a2;have cd:Hid (Calls Tryz.prog 64 #[.agg #[FH FI U,FH FI code,FD Ao no co,FD Ai ni ci,FD Ac nc cc,FC (bs op),FC (bs lc),FH FI lk,FH FI ln,FC (bs lw),FC (bs rc),FH FI rk,FH FI rn,FC (bs O),FH FI H],FD AT ins.length ct,FD OA out.length od] w3 fun e w'=>e=FF (.tuple #[FD none 0 0,.iface 37 (FH FI x)])∧aa [] w3 w'):=bq;clear a2 bq Z;go_wp2_with fail
   with_reducible refine cd.out.mono ?_
   rintro e w4 ⟨rfl,bj⟩;go_wp2;go_ret2;exact ⟨by rw[ca.out];rfl,dq.out.trans bj⟩
  | ok D =>
   have ca:Hid (R=de out D):=a2;have cd:Hid (Calls Tryz.prog 64 #[.agg #[FH FI U,FH FI code,FD Ao no co,FD Ai ni ci,FD Ac nc cc,FC (bs op),FC (bs lc),FH FI lk,FH FI ln,FC (bs lw),FC (bs rc),FH FI rk,FH FI rn,FC (bs O),FH FI H],FD AT ins.length ct,FD OA out.length od] w3 fun e w'=>(∃ B d,e=FF (.tuple #[FD B D.length d,.nilIface])∧D.length≤d∧fk w' B D)∧aa [] w3 w'):=bq;have bb:=Fk (Z.out D rfl);have g4:D.length≤2:=by
    have h1:=bb.out;have h2:=cy.out;split at h2<;>omega
   clear a2 bq Z cy;go_wp2_with fail
   with_reducible refine cd.out.mono ?_
   rintro e w4 ⟨⟨RA,rd,rfl,g6,d2⟩,bj⟩;have gm:=Fk (dq.out.trans bj);have g3:=Fk d2;have f1:=Fk (et.out.keep bj);clear bj d2 cd z0 z1 z2 z3 z4 z5 z6 z7 z8 z9 fS f8 gl fs g1 et;go_wp2;go_loopw [12,52] (fun u i wx=>∃ (m:Nat) (v:Value),v=u∧m≤D.length∧i=FH FI m∧Hid (g9 w4 wx w4.heap.size v (List.zipWith Tb.mk (out.take m) (D.take m)))∧Hid (∀ i (h:i<D.length),i<m→D[i].length≤60)∧aa [] w4 wx) (fun _ i _=>D.length-(intOf i).toNat)
   case atStart=>exact ⟨0,_,rfl,Fu _,rfl,g9.nil _ _ _,Fk (fun i _ h=>absurd h (by omega)),Fz _ _⟩
   obtain ⟨m,v,rfl,hm,rfl,HG,c4,hk⟩:=hrel;have ba:=Fk hk;have ex:=Fk (gm.out.trans hk);clear hk;by_cases ad:m<D.length
   ·obtain ⟨us,cD,bc,a8⟩:=g3.out
    have a4:m<us.length:=by omega
    have eb:=a8 m a4 ad;obtain ⟨b7,o7,cv,_,f3,a3⟩:=bc.open' (by omega) (by omega);have d7:=a3 (m*1) us[m] (by rw[Nat.mul_one];exact Fp a4);rw[Nat.mul_one] at d7;subst cv;obtain ⟨es,ev,cg,cm⟩:=f1.out;have eB:=bb.out;have hux':m<es.length:=by omega
    have e4:=cm m hux' (by omega);obtain ⟨b9,o9,e1,_,g7,cq⟩:=cg.open' (by omega) (by omega);have d9:=cq (m*1) es[m] (by rw[Nat.mul_one];exact Fp hux');rw[Nat.mul_one] at d9;subst e1;have e6:List.zipWith Tb.mk (out.take (m+1)) (D.take (m+1))=List.zipWith Tb.mk (out.take m) (D.take m)++[⟨out[m]'(by omega),D[m]⟩]:=by
     rw[List.take_succ_eq_append_getElem ad,List.take_succ_eq_append_getElem (by omega:m<out.length),List.zipWith_append (by simp;omega)];rfl
    have f0:=Fk e6;have dr:(List.zipWith Tb.mk (out.take m) (D.take m)).length=m:=by simp;omega
    have br:=Fk (fun (h:60<D[m].length)=>AM (out:=out) (by omega) ad h);have b6:Hid (D[m].length≤60→∀ i (h:i<D.length),i<m+1→D[i].length≤60):=Fk (fun h i hi hj=>by
     by_cases he:i=m
     ·subst he;exact h
     exact c4.out i hi (by omega))
    have c8:=e4;have c0:=eb;generalize fb:D[m]=r at *;generalize fc:out[m]'(by omega)=l at *;obtain ⟨A,c,bk,en,hA⟩:=e4;obtain ⟨B,d,a5,dB,bX⟩:=eb;rw[bk] at d9 c8;rw[a5] at d7 c0;have gk:=Fk c8;have fz:=Fk c0;have e9:=ba.out.cell_of d9 (by simp);have e7:=ba.out.cell_of d7 (by simp);have gf:(0:Int)≤(m:Int):=by omega
    have f2:(m:Int)<(D.length:Int):=by omega
    have g5:(m:Int)<(out.length:Int):=by omega
    clear e6 cD bc a8 a3 d7 ev cg cm cq d9 hA bX bk a5 c8 c0 fb fc;by_cases c3:60<r.length
    ·have gc:decide ((60:Int)<(r.length:Int))=true:=decide_eq_true (by omega)
     have c6:Hid (R= .error 12):=Fk (ca.out.trans (br.out c3));clear c3 eB;go_wp2;go_ret2;exact ⟨by rw[c6.out];rfl,ex.out⟩
    have gc:decide ((60:Int)<(r.length:Int))=false:=decide_eq_false (by omega);have f4:=Fk (b6.out (by omega));obtain ⟨hs,a6,a1,a7⟩:=HG.out;rw[dr] at a1;have HO:=Fk a1;have c9:=Fk a7;have c1:=Fk a6;have Z:=Fk dr;have f9:w4.heap.size≤wr.heap.size:=ba.out.size;have bm:=Fk (show m+1≤maxLen∧(m+1)*48≤140737488355328 by simp only[maxLen];omega);clear a1 a7 a6 dr c3 eB br b6;go_wp2_with (at_builtin;(refine wpList_append_lies _ rfl _ _ 84 rfl w4.heap.size 54 it _ 2 48 Tryz.underlying84 g0 eA dt e2 rfl (by decide) _ m (iL hs) rfl (HO.out.alloc _) ⟨wr.heap.size,0,none⟩ 1 1 [FD A l.length c,FD B r.length d] rfl rfl (Fx (heap_alloc_new _ _)) (by simp[Value.oneCell']) (by decide) bm.out.1 bm.out.2 (by rw[ap];omega) _ rfl ?_);intro gw av w8 N I a9 be)
    have cu:=Fk ((ba.out.alloc (FG #[FD A l.length c,FD B r.length d] 54)).grown I (fun g hg=> .inr (HO.out.lt g hg).1));have cr:Hid (g9 w4 w8 w4.heap.size (FD (some ⟨gw,0,none⟩) (m+1) av) (List.zipWith Tb.mk (out.take (m+1)) (D.take (m+1)))):=Fk (by
     rw[f0.out];have h:=oN (w:=w4) (W':=w8) (base:=w4.heap.size) (gw:=gw) (cap:=av) (t:=⟨l,r⟩) c1.out c9.out gk.out fz.out (by rw[Z.out];exact N);rw[Z.out] at h;exact h)
    clear N I a9 be;go_wp2;go_roundw
    case rel=>exact ⟨m+1,_,rfl,by omega,by go_num,cr,f4,cu.out⟩
    case measure=>simp[intOf];omega
   obtain rfl:m=D.length:=by omega
   have hg:=HG.out;rw[List.take_length,←bb.out,List.take_length] at hg;obtain ⟨TA,td,hv,c5,a0⟩:=hg.is ba.out;have c6:Hid (R= .ok (List.zipWith Tb.mk out D)):=Fk (ca.out.trans (yG bb.out (fun i hi=>c4.out i hi hi)));have d0:=Fk a0;have c7:(List.zipWith Tb.mk out D).length=D.length:=by rw[List.length_zipWith,bb.out,Nat.min_self]
   rw[c7] at hv c5;have eX:=Fk c7;have g2:=Fk c5;subst hv;clear hg c5 a0 HG c4 c7;go_wp2;go_ret2;exact ⟨by rw[c6.out];exact ⟨TA,td,by rw[eX.out];rfl,by rw[eX.out];exact g2.out,d0.out⟩,ex.out⟩
end
section
open Go.RowKit Go.BigFrame
attribute [local go_sem] ag ab ae af
attribute [local go_sem] KW.cell
theorem df {p:List Vl→Bool} {D:List (List Vl)} {n:Nat} (h:n<D.length):(D.take (n+1)).filter p=if p D[n]=true then (D.take n).filter p++[D[n]] else (D.take n).filter p:=by
 rw[List.take_succ_eq_append_getElem h,List.filter_append];cases H:p D[n]<;>simp[H]
theorem lD {u v:Value} (h:∀ g,u.ownBlock=some g→v.ownBlock≠some g):u.ownBlock=none∨u.ownBlock≠v.ownBlock:=by
 cases D:u.ownBlock with
 | none=>exact .inl rfl
 | some g=>exact .inr fun e=>h g D e.symm
theorem dH {u v:Value} (h:∀ g,u.ownBlock=some g→v.ownBlock≠some g):∀ g,v.ownBlock=some g→u.ownBlock≠some g:=fun g D H=>h g H D
theorem gg {w W:World} {base gw n cap H:Nat} {v v':Value} {N:List (List Vl)} (h:∀ g,v.ownBlock=some g→v'.ownBlock≠some g) (D:v.ownBlock=some gw∨gw=H) (O:fX w W base v' N) (V:W.heap.size≤H):∀ g,(Value.slice (some ⟨gw,0,none⟩) n cap).ownBlock=some g→v'.ownBlock≠some g:=fun g I=>by
 have e:gw=g:=by simpa[Value.ownBlock] using I
 subst e;rcases D with M|rfl
 ·exact h _ M
 intro J;obtain ⟨us,_,U,_⟩:=O;have:=(U.lt _ J).2;omega
theorem qQ (A:Option Addr) (m d n:Nat) (h:n≤d) (W:World):(Instr.slice 136 (FD A m d) none (some (FH FI (n:Int))) none).run Tryz.prog W= .ok (FD A n d) W:=by
 have I:=Tryz.underlying136;have H:(0:Int)≤(n:Int):=by omega
 have D:(n:Int)≤(d:Int):=by omega
 cases A with
 | none=>go_simp
 | some a=>go_simp
theorem tX {w:World} {u v:Value} {l m:List (List Vl)} (M:cC w u l) (J:cC w v m) (n:Nat) (O:n≤2) (t:TypeId):fk (w.alloc (FG #[u,v] t)) (some ⟨w.heap.size,0,none⟩) ([l,m].take n):=by
 have D:aa [] w (w.alloc (FG #[u,v] t)):=(Fz _ _).alloc _;refine wM (us:=[u,v].take n) (by simp) (FA _ _ _).lt (fun j x h=>?_) (fun i I N=>?_)
 ·rw[(FA w t #[u,v]).cell j]
  rw[List.getElem?_take] at h;split at h
  ·rename_i U
   match j,h with
   | 0,h=>simpa using h
   | 1,h=>simpa using h
   | j+2,h=>simp at h
  cases h
 have H:i<2:=by simp at I;omega
 match i,H with
 | 0,_=>simpa using M.keep D
 | 1,_=>simpa using J.keep D
theorem D8 (t:Tb) (no:Nat) (cd:no≤2) (OA:Option Addr) (od:Nat) (b o:Nat) (nt ct:Nat) (A B:Option Addr) (c d:Nat) (eX:1≤nt) (U H V Z rk rn:Int) (outs js cols:List Bs) (op lc lw rc I:Bs) (Ao:Option Addr) (co:Nat) (Ai:Option Addr) (ni ci:Nat) (Ac:Option Addr) (cc:Nat) (w:World)
  (d2:w.cell? ⟨b,o,none⟩=some (FD A t.cols.length c)) (es:w.cell? ⟨b,o+1,none⟩=some (FD B t.rows.length d)) (hT:aY w t A B c d)
  (c9:∀ r∈t.rows,fO ⟨lc,⟨V,Z,lw⟩⟩ t.cols r) (c0:∀ r∈t.rows,fO ⟨rc,⟨rk,rn,I⟩⟩ t.cols r) :
  Calls Tryz.prog 64 #[.agg #[FH FI U,FH FI 1,FD Ao outs.length co,FD Ai ni ci,FD Ac cols.length cc,FC (bs op),FC (bs lc),FH FI V,FH FI Z,FC (bs lw),FC (bs rc),FH FI rk,FH FI rn,FC (bs I),FH FI H],FD (some ⟨b,o,none⟩) nt ct,FD OA no od] w fun e w'=>dw (.ok ([t.rows.filter (cZ (⟨U,1,outs,js,cols,op,⟨lc,V,Z,lw⟩,⟨rc,rk,rn,I⟩,H⟩:Jb) t),t.rows.filter fun r=> !cZ (⟨U,1,outs,js,cols,op,⟨lc,V,Z,lw⟩,⟨rc,rk,rn,I⟩,H⟩:Jb) t r].take no)) e w'∧aa [] w w':=by
 obtain ⟨ir,cx,bZ,bv,bz⟩:=info_parts jt;have hP:Hid (∀ r,cZ (⟨U,1,outs,js,cols,op,⟨lc,V,Z,lw⟩,⟨rc,rk,rn,I⟩,H⟩:Jb) t r=nK (bB ⟨lc,⟨V,Z,lw⟩⟩ t.cols r) op (bB ⟨rc,⟨rk,rn,I⟩⟩ t.cols r)):=Fk fun r=>rfl
 obtain ⟨O,cD⟩:∃ p,cZ (⟨U,1,outs,js,cols,op,⟨lc,V,Z,lw⟩,⟨rc,rk,rn,I⟩,H⟩:Jb) t=p:=⟨_,rfl⟩
 rw[cD] at hP ⊢;obtain ⟨aA,ch⟩:∃ p:List Vl→Bool,(fun r=> !O r)=p:=⟨_,rfl⟩
 rw[ch];have d4:Hid (∀ r,aA r= !O r):=Fk fun r=>by rw[←ch]
 clear cD ch;have d9:(0:Int)<(nt:Int):=by omega
 have HT:=Fk hT;have et:=hT.lm;have d3:=Fk c9;have d5:=Fk c0;have eA:b<w.heap.size:=Fq _ _ d2;have c8:Hid (aa [] w ((w.alloc (FG #[FH FI U,FH FI 1,FD Ao outs.length co,FD Ai ni ci,FD Ac cols.length cc,FC (bs op),FC (bs lc),FH FI V,FH FI Z,FC (bs lw),FC (bs rc),FH FI rk,FH FI rn,FC (bs I),FH FI H] 50)).alloc (FG #[FD A t.cols.length c,FD B t.rows.length d] 54))):=Fk (((Fz _ _).alloc _).alloc _);have cj:=Fk (ao.alloc (FA w 50 #[FH FI U,FH FI 1,FD Ao outs.length co,FD Ai ni ci,FD Ac cols.length cc,FC (bs op),FC (bs lc),FH FI V,FH FI Z,FC (bs lw),FC (bs rc),FH FI rk,FH FI rn,FC (bs I),FH FI H]) (FG #[FD A t.cols.length c,FD B t.rows.length d] 54));have br:=Fk (FA (w.alloc (FG #[FH FI U,FH FI 1,FD Ao outs.length co,FD Ai ni ci,FD Ac cols.length cc,FC (bs op),FC (bs lc),FH FI V,FH FI Z,FC (bs lw),FC (bs rc),FH FI rk,FH FI rn,FC (bs I),FH FI H] 50)) 54 #[FD A t.cols.length c,FD B t.rows.length d]);rw[ap] at br;clear hT c9 c0;go_enter Tryz.func64,Tryz.ntmps64
 go_wp2;obtain ⟨w2,c4⟩:∃ w2,((w.alloc (FG #[FH FI U,FH FI 1,FD Ao outs.length co,FD Ai ni ci,FD Ac cols.length cc,FC (bs op),FC (bs lc),FH FI V,FH FI Z,FC (bs lw),FC (bs rc),FH FI rk,FH FI rn,FC (bs I),FH FI H] 50)).alloc (FG #[FD A t.cols.length c,FD B t.rows.length d] 54))=w2:=⟨_,rfl⟩
 rw[c4] at c8 cj br ⊢;obtain ⟨bx,cz⟩:∃ bx,w.heap.size=bx:=⟨_,rfl⟩
 rw[cz] at cj br ⊢;clear c4 cz;go_loopw [9,10,30] (fun u1 u2 i wx=>∃ (m:Nat) (vy vn:Value),vy=u1∧vn=u2∧m≤t.rows.length∧i=FH FI m∧Hid (fX w wx w2.heap.size vy ((t.rows.take m).filter O))∧Hid (fX w wx w2.heap.size vn ((t.rows.take m).filter aA))∧(∀ g,vy.ownBlock=some g→vn.ownBlock≠some g)∧aa [] w2 wx) (fun _ _ i _=>t.rows.length-(intOf i).toNat)
 case atStart=>exact ⟨0,_,_,rfl,rfl,Fu _,rfl,fX.nil _ _ _,fX.nil _ _ _,(fun g (h:(Value.slice none 0 0).ownBlock=some g)=>by simp[Value.ownBlock] at h),Fz _ _⟩
 obtain ⟨m,vy,vn,rfl,rfl,hm,rfl,a3,a2,a0,hk⟩:=hrel;have ba:=dH a0;have HK:=Fk hk;have ad:=Fk (c8.out.trans hk);clear hk;by_cases a4:m<t.rows.length
 ·obtain ⟨us,dB,dr,c7⟩:=HT.out.rows
  have ds:m<us.length:=by omega
  have ca:=c7 m ds a4;obtain ⟨b7,o7,dt,_,er,c5⟩:=dr.open' (by omega) (by have:=HT.out.lm;omega);have d7:=c5 (m*1) us[m] (by rw[Nat.mul_one];exact Fp ds);rw[Nat.mul_one] at d7;have bm:t.rows[m]∈t.rows:=Fs a4;obtain ⟨r,hr⟩:∃ r,t.rows[m]=r:=⟨_,rfl⟩
  rw[hr] at ca bm;have b8:=Fk ca;obtain ⟨Ar,cr,hu,en,dq⟩:=ca;rw[hu] at b8 d7;have d8:=ad.out.cell_of d7 (by simp);subst dt;have cv:Hid (∀ W,aa [] wr W→Calls Tryz.prog 98 #[.agg #[FC (bs lc),FH FI V,FH FI Z,FC (bs lw)],FD A t.cols.length c,FD Ar r.length cr] W fun e w'=>e=FF (fV (bB ⟨lc,⟨V,Z,lw⟩⟩ t.cols r))∧aa [] W w'):=Fk fun W q=>eN ⟨lc,⟨V,Z,lw⟩⟩ t.cols r A Ar c cr W (HT.out.cols.keep (ad.out.trans q)) HT.out.ln (dq.keep (ad.out.trans q)) (d3.out r bm)
  have cm:Hid (∀ W,aa [] wr W→Calls Tryz.prog 98 #[.agg #[FC (bs rc),FH FI rk,FH FI rn,FC (bs I)],FD A t.cols.length c,FD Ar r.length cr] W fun e w'=>e=FF (fV (bB ⟨rc,⟨rk,rn,I⟩⟩ t.cols r))∧aa [] W w'):=Fk fun W q=>eN ⟨rc,⟨rk,rn,I⟩⟩ t.cols r A Ar c cr W (HT.out.cols.keep (ad.out.trans q)) HT.out.ln (dq.keep (ad.out.trans q)) (d5.out r bm)
  have ce:=hP.out r;obtain ⟨X,hX⟩:∃ X,bB ⟨lc,⟨V,Z,lw⟩⟩ t.cols r=X:=⟨_,rfl⟩
  obtain ⟨Y,hY⟩:∃ Y,bB ⟨rc,⟨rk,rn,I⟩⟩ t.cols r=Y:=⟨_,rfl⟩
  rw[hX,hY] at ce;rw[hX] at cv;rw[hY] at cm;have b1:=Fk (fun W=>qP X op Y W);rw[←ce] at b1;have bq:=d4.out r;clear hX hY ce hu dB dr c7 c5 d7;obtain ⟨xk,xn,xw⟩:=X;obtain ⟨yk,yn,yw⟩:=Y;have HAA':Hid (∀ W,aa [] wr W→Calls Tryz.prog 98 #[.agg #[FC (bs lc),FH FI V,FH FI Z,FC (bs lw)],FD A t.cols.length c,FD Ar r.length cr] W fun e w'=>e=FF (.agg #[FH FI xk,FH FI xn,FC (bs xw)])∧aa [] W w'):=cv;have HAB':Hid (∀ W,aa [] wr W→Calls Tryz.prog 98 #[.agg #[FC (bs rc),FH FI rk,FH FI rn,FC (bs I)],FD A t.cols.length c,FD Ar r.length cr] W fun e w'=>e=FF (.agg #[FH FI yk,FH FI yn,FC (bs yw)])∧aa [] W w'):=cm;have HHO':Hid (∀ W,aa [] wr W→Calls Tryz.prog 97 #[.agg #[FH FI xk,FH FI xn,FC (bs xw)],FC (bs op),.agg #[FH FI yk,FH FI yn,FC (bs yw)]] W fun e w'=>e=FF (.bool (O r))∧aa [] W w'):=Fk fun W _=>b1.out W
  clear cv cm b1;have N:=Fk (cj.out.keep HK.out (by simp));have c3:=Fk (br.out.keep HK.out (by simp));have y5:wr.cell? ⟨bx,5,none⟩=some (FC (bs op)):=N.out.cell 5;have y6:wr.cell? ⟨bx,6,none⟩=some (FC (bs lc)):=N.out.cell 6;have y7:wr.cell? ⟨bx,7,none⟩=some (FH FI V):=N.out.cell 7;have y8:wr.cell? ⟨bx,8,none⟩=some (FH FI Z):=N.out.cell 8;have y9:wr.cell? ⟨bx,9,none⟩=some (FC (bs lw)):=N.out.cell 9;have ez:wr.cell? ⟨bx,10,none⟩=some (FC (bs rc)):=N.out.cell 10;have ey:wr.cell? ⟨bx,11,none⟩=some (FH FI rk):=N.out.cell 11;have ex:wr.cell? ⟨bx,12,none⟩=some (FH FI rn):=N.out.cell 12;have d6:wr.cell? ⟨bx,13,none⟩=some (FC (bs I)):=N.out.cell 13;have z0:wr.cell? ⟨bx+1,0,none⟩=some (FD A t.cols.length c):=c3.out.cell 0;have eY:bx<wr.heap.size:=N.out.lt;have eb:bx+1<wr.heap.size:=c3.out.lt;have eB:(0:Int)≤(m:Int):=by omega
  have el:(m:Int)<(t.rows.length:Int):=by omega
  cases bt:O r with
  | true =>
   rw[bt] at HHO' bq;go_wp2_with fail
   refine ah (by kernel_rfl) (by kernel_rfl) ?_;repeat (go_big_quiet_step (first|with_reducible exact KW.of HAA'.out _|with_reducible exact KW.of HAB'.out _|with_reducible exact KW.of HHO'.out _))
   refine wpQuiet_nil ?_;intro w5 J;obtain ⟨c1,be,a9,a6⟩:=a3.out;have a1:=Fk (aE a9 J (fun _ _=>by simp));have a7:=Fk a6;have a5:=Fk (a2.out.keep J);have bc:=Fk be;have dz:w2.heap.size≤w5.heap.size:=Ft HK.out.size J.size;have cg:=Fk (HK.out.trans J);have a8:=Fk (show ((t.rows.take m).filter O).length≤4294967296 from Ft (List.length_filter_le _ _) (by rw[Fw];have:=HT.out.lm;omega));have bb:=Fk (df (p:=O) a4);have b4:=Fk (df (p:=aA) a4);obtain ⟨qs,b3⟩:∃ qs,(t.rows.take m).filter O=qs:=⟨_,rfl⟩
   rw[b3] at a1 a7 bc a8 bb;have bo:=Fk (show qs.length+1≤maxLen∧(qs.length+1)*24≤140737488355328 by have:=a8.out;simp only[maxLen];omega);clear a9 a6 be J;go_wp2_with (at_builtin;(refine wpList_append_lies _ rfl _ _ 52 rfl w2.heap.size 89 ir _ 1 24 Tryz.underlying52 cx bZ bv bz rfl (by decide) _ qs.length c1 rfl (a1.out.alloc _) ⟨w5.heap.size,0,none⟩ 1 1 [FD Ar r.length cr] rfl rfl (Fx (heap_alloc_new _ _)) (by simp[Value.oneCell']) (by decide) bo.out.1 bo.out.2 (by simp;omega) _ rfl ?_);intro gw bk w8 M D av bj)
   have b6:=Fk ((cg.out.alloc (FG #[FD Ar r.length cr] 89)).grown D (fun g hg=> .inr (a1.out.lt g hg).1));have b5:=Fk (gZ bc.out a7.out b8.out M);have b9:=Fk ((a5.out.keep ((Fz [] w5).alloc _)).kept D (lD (dH a0)));have cq:=Fk (gg (n:=qs.length+1) (cap:=bk) a0 av a5.out (by rw[ap];omega));clear M D av bj;go_wp2;go_roundw
   case rel=>exact ⟨m+1,_,vn,rfl,rfl,by omega,by go_num,Fk (by rw[bb.out,hr,bt,if_pos rfl];exact b5.out),Fk (by rw[b4.out,hr,bq,if_neg (by decide)];exact b9.out),cq.out,b6.out⟩
   case measure=>simp[intOf];omega
  | false =>
   rw[bt] at HHO' bq;go_wp2_with fail
   refine ah (by kernel_rfl) (by kernel_rfl) ?_;repeat (go_big_quiet_step (first|with_reducible exact KW.of HAA'.out _|with_reducible exact KW.of HAB'.out _|with_reducible exact KW.of HHO'.out _))
   refine wpQuiet_nil ?_;intro w5 J;obtain ⟨c6,be,a9,a6⟩:=a2.out;have a1:=Fk (aE a9 J (fun _ _=>by simp));have a7:=Fk a6;have a5:=Fk (a3.out.keep J);have bc:=Fk be;have dz:w2.heap.size≤w5.heap.size:=Ft HK.out.size J.size;have cg:=Fk (HK.out.trans J);have a8:=Fk (show ((t.rows.take m).filter aA).length≤4294967296 from Ft (List.length_filter_le _ _) (by rw[Fw];have:=HT.out.lm;omega));have bb:=Fk (df (p:=aA) a4);have b4:=Fk (df (p:=O) a4);obtain ⟨qs,b3⟩:∃ qs,(t.rows.take m).filter aA=qs:=⟨_,rfl⟩
   rw[b3] at a1 a7 bc a8 bb;have bo:=Fk (show qs.length+1≤maxLen∧(qs.length+1)*24≤140737488355328 by have:=a8.out;simp only[maxLen];omega);clear a9 a6 be J;go_wp2_with (at_builtin;(refine wpList_append_lies _ rfl _ _ 52 rfl w2.heap.size 89 ir _ 1 24 Tryz.underlying52 cx bZ bv bz rfl (by decide) _ qs.length c6 rfl (a1.out.alloc _) ⟨w5.heap.size,0,none⟩ 1 1 [FD Ar r.length cr] rfl rfl (Fx (heap_alloc_new _ _)) (by simp[Value.oneCell']) (by decide) bo.out.1 bo.out.2 (by simp;omega) _ rfl ?_);intro gw bk w8 M D av bj)
   have b6:=Fk ((cg.out.alloc (FG #[FD Ar r.length cr] 89)).grown D (fun g hg=> .inr (a1.out.lt g hg).1));have b5:=Fk (gZ bc.out a7.out b8.out M);have b9:=Fk ((a5.out.keep ((Fz [] w5).alloc _)).kept D (lD (dH ba)));have cq:=Fk (gg (n:=qs.length+1) (cap:=bk) ba av a5.out (by rw[ap];omega));clear M D av bj;go_wp2;go_roundw
   case rel=>exact ⟨m+1,vy,_,rfl,rfl,by omega,by go_num,Fk (by rw[b4.out,hr,bt,if_neg (by decide)];exact b9.out),Fk (by rw[bb.out,hr,bq,if_pos (by rfl)];exact b5.out),dH cq.out,b6.out⟩
   case measure=>simp[intOf];omega
 have b0:=Fk (a3.out.is ad.out);have cu:=Fk (a2.out.is ad.out);obtain rfl:m=t.rows.length:=by omega
 rw[List.take_length] at b0 cu;clear a3 a2;obtain ⟨Ay,cy,d1,_,_⟩:=b0.out;obtain ⟨An,cn,d0,_,_⟩:=cu.out;subst d1 d0;have bX:([t.rows.filter O,t.rows.filter aA].take no).length=no:=by rw[Fw];show min no 2=no;omega
 have ev:=qQ (some ⟨wr.heap.size,0,none⟩) 2 2 no cd;have dv:=Fk (tX b0.out cu.out no cd 52);go_wp2;go_ret2;exact ⟨⟨some ⟨wr.heap.size,0,none⟩,2,by rw[bX];rfl,by rw[bX];exact cd,dv.out⟩,ad.out.alloc _⟩
theorem D9 (t:Tb) (no:Nat) (cd:no≤2) (OA:Option Addr) (od:Nat) (b o:Nat) (nt ct:Nat) (A B:Option Addr) (c d:Nat) (eX:1≤nt) (U H V Z rk rn:Int) (outs js cols:List Bs) (op lc lw rc I:Bs) (Ao:Option Addr) (co:Nat) (Ai:Option Addr) (ni ci:Nat) (Ac:Option Addr) (cc:Nat) (w:World)
  (d2:w.cell? ⟨b,o,none⟩=some (FD A t.cols.length c)) (es:w.cell? ⟨b,o+1,none⟩=some (FD B t.rows.length d)) (hT:aY w t A B c d)
  (c9:∀ r∈t.rows,fO ⟨lc,⟨V,Z,lw⟩⟩ t.cols r) (c0:∀ r∈t.rows,fO ⟨rc,⟨rk,rn,I⟩⟩ t.cols r) :
  Calls Tryz.prog 64 #[.agg #[FH FI U,FH FI 9,FD Ao outs.length co,FD Ai ni ci,FD Ac cols.length cc,FC (bs op),FC (bs lc),FH FI V,FH FI Z,FC (bs lw),FC (bs rc),FH FI rk,FH FI rn,FC (bs I),FH FI H],FD (some ⟨b,o,none⟩) nt ct,FD OA no od] w fun e w'=>dw (.ok ([t.rows.filter (cZ (⟨U,9,outs,js,cols,op,⟨lc,V,Z,lw⟩,⟨rc,rk,rn,I⟩,H⟩:Jb) t),t.rows.filter fun r=> !cZ (⟨U,9,outs,js,cols,op,⟨lc,V,Z,lw⟩,⟨rc,rk,rn,I⟩,H⟩:Jb) t r].take no)) e w'∧aa [] w w':=by
 obtain ⟨ir,cx,bZ,bv,bz⟩:=info_parts jt;have hP:Hid (∀ r,cZ (⟨U,9,outs,js,cols,op,⟨lc,V,Z,lw⟩,⟨rc,rk,rn,I⟩,H⟩:Jb) t r=nK (bB ⟨lc,⟨V,Z,lw⟩⟩ t.cols r) op (bB ⟨rc,⟨rk,rn,I⟩⟩ t.cols r)):=Fk fun r=>rfl
 obtain ⟨O,cD⟩:∃ p,cZ (⟨U,9,outs,js,cols,op,⟨lc,V,Z,lw⟩,⟨rc,rk,rn,I⟩,H⟩:Jb) t=p:=⟨_,rfl⟩
 rw[cD] at hP ⊢;obtain ⟨aA,ch⟩:∃ p:List Vl→Bool,(fun r=> !O r)=p:=⟨_,rfl⟩
 rw[ch];have d4:Hid (∀ r,aA r= !O r):=Fk fun r=>by rw[←ch]
 clear cD ch;have d9:(0:Int)<(nt:Int):=by omega
 have HT:=Fk hT;have et:=hT.lm;have d3:=Fk c9;have d5:=Fk c0;have eA:b<w.heap.size:=Fq _ _ d2;have c8:Hid (aa [] w ((w.alloc (FG #[FH FI U,FH FI 9,FD Ao outs.length co,FD Ai ni ci,FD Ac cols.length cc,FC (bs op),FC (bs lc),FH FI V,FH FI Z,FC (bs lw),FC (bs rc),FH FI rk,FH FI rn,FC (bs I),FH FI H] 50)).alloc (FG #[FD A t.cols.length c,FD B t.rows.length d] 54))):=Fk (((Fz _ _).alloc _).alloc _);have cj:=Fk (ao.alloc (FA w 50 #[FH FI U,FH FI 9,FD Ao outs.length co,FD Ai ni ci,FD Ac cols.length cc,FC (bs op),FC (bs lc),FH FI V,FH FI Z,FC (bs lw),FC (bs rc),FH FI rk,FH FI rn,FC (bs I),FH FI H]) (FG #[FD A t.cols.length c,FD B t.rows.length d] 54));have br:=Fk (FA (w.alloc (FG #[FH FI U,FH FI 9,FD Ao outs.length co,FD Ai ni ci,FD Ac cols.length cc,FC (bs op),FC (bs lc),FH FI V,FH FI Z,FC (bs lw),FC (bs rc),FH FI rk,FH FI rn,FC (bs I),FH FI H] 50)) 54 #[FD A t.cols.length c,FD B t.rows.length d]);rw[ap] at br;clear hT c9 c0;go_enter Tryz.func64,Tryz.ntmps64
 go_wp2;obtain ⟨w2,c4⟩:∃ w2,((w.alloc (FG #[FH FI U,FH FI 9,FD Ao outs.length co,FD Ai ni ci,FD Ac cols.length cc,FC (bs op),FC (bs lc),FH FI V,FH FI Z,FC (bs lw),FC (bs rc),FH FI rk,FH FI rn,FC (bs I),FH FI H] 50)).alloc (FG #[FD A t.cols.length c,FD B t.rows.length d] 54))=w2:=⟨_,rfl⟩
 rw[c4] at c8 cj br ⊢;obtain ⟨bx,cz⟩:∃ bx,w.heap.size=bx:=⟨_,rfl⟩
 rw[cz] at cj br ⊢;clear c4 cz;go_loopw [9,10,30] (fun u1 u2 i wx=>∃ (m:Nat) (vy vn:Value),vy=u1∧vn=u2∧m≤t.rows.length∧i=FH FI m∧Hid (fX w wx w2.heap.size vy ((t.rows.take m).filter O))∧Hid (fX w wx w2.heap.size vn ((t.rows.take m).filter aA))∧(∀ g,vy.ownBlock=some g→vn.ownBlock≠some g)∧aa [] w2 wx) (fun _ _ i _=>t.rows.length-(intOf i).toNat)
 case atStart=>exact ⟨0,_,_,rfl,rfl,Fu _,rfl,fX.nil _ _ _,fX.nil _ _ _,(fun g (h:(Value.slice none 0 0).ownBlock=some g)=>by simp[Value.ownBlock] at h),Fz _ _⟩
 obtain ⟨m,vy,vn,rfl,rfl,hm,rfl,a3,a2,a0,hk⟩:=hrel;have ba:=dH a0;have HK:=Fk hk;have ad:=Fk (c8.out.trans hk);clear hk;by_cases a4:m<t.rows.length
 ·obtain ⟨us,dB,dr,c7⟩:=HT.out.rows
  have ds:m<us.length:=by omega
  have ca:=c7 m ds a4;obtain ⟨b7,o7,dt,_,er,c5⟩:=dr.open' (by omega) (by have:=HT.out.lm;omega);have d7:=c5 (m*1) us[m] (by rw[Nat.mul_one];exact Fp ds);rw[Nat.mul_one] at d7;have bm:t.rows[m]∈t.rows:=Fs a4;obtain ⟨r,hr⟩:∃ r,t.rows[m]=r:=⟨_,rfl⟩
  rw[hr] at ca bm;have b8:=Fk ca;obtain ⟨Ar,cr,hu,en,dq⟩:=ca;rw[hu] at b8 d7;have d8:=ad.out.cell_of d7 (by simp);subst dt;have cv:Hid (∀ W,aa [] wr W→Calls Tryz.prog 98 #[.agg #[FC (bs lc),FH FI V,FH FI Z,FC (bs lw)],FD A t.cols.length c,FD Ar r.length cr] W fun e w'=>e=FF (fV (bB ⟨lc,⟨V,Z,lw⟩⟩ t.cols r))∧aa [] W w'):=Fk fun W q=>eN ⟨lc,⟨V,Z,lw⟩⟩ t.cols r A Ar c cr W (HT.out.cols.keep (ad.out.trans q)) HT.out.ln (dq.keep (ad.out.trans q)) (d3.out r bm)
  have cm:Hid (∀ W,aa [] wr W→Calls Tryz.prog 98 #[.agg #[FC (bs rc),FH FI rk,FH FI rn,FC (bs I)],FD A t.cols.length c,FD Ar r.length cr] W fun e w'=>e=FF (fV (bB ⟨rc,⟨rk,rn,I⟩⟩ t.cols r))∧aa [] W w'):=Fk fun W q=>eN ⟨rc,⟨rk,rn,I⟩⟩ t.cols r A Ar c cr W (HT.out.cols.keep (ad.out.trans q)) HT.out.ln (dq.keep (ad.out.trans q)) (d5.out r bm)
  have ce:=hP.out r;obtain ⟨X,hX⟩:∃ X,bB ⟨lc,⟨V,Z,lw⟩⟩ t.cols r=X:=⟨_,rfl⟩
  obtain ⟨Y,hY⟩:∃ Y,bB ⟨rc,⟨rk,rn,I⟩⟩ t.cols r=Y:=⟨_,rfl⟩
  rw[hX,hY] at ce;rw[hX] at cv;rw[hY] at cm;have b1:=Fk (fun W=>qP X op Y W);rw[←ce] at b1;have bq:=d4.out r;clear hX hY ce hu dB dr c7 c5 d7;obtain ⟨xk,xn,xw⟩:=X;obtain ⟨yk,yn,yw⟩:=Y;have HAA':Hid (∀ W,aa [] wr W→Calls Tryz.prog 98 #[.agg #[FC (bs lc),FH FI V,FH FI Z,FC (bs lw)],FD A t.cols.length c,FD Ar r.length cr] W fun e w'=>e=FF (.agg #[FH FI xk,FH FI xn,FC (bs xw)])∧aa [] W w'):=cv;have HAB':Hid (∀ W,aa [] wr W→Calls Tryz.prog 98 #[.agg #[FC (bs rc),FH FI rk,FH FI rn,FC (bs I)],FD A t.cols.length c,FD Ar r.length cr] W fun e w'=>e=FF (.agg #[FH FI yk,FH FI yn,FC (bs yw)])∧aa [] W w'):=cm;have HHO':Hid (∀ W,aa [] wr W→Calls Tryz.prog 97 #[.agg #[FH FI xk,FH FI xn,FC (bs xw)],FC (bs op),.agg #[FH FI yk,FH FI yn,FC (bs yw)]] W fun e w'=>e=FF (.bool (O r))∧aa [] W w'):=Fk fun W _=>b1.out W
  clear cv cm b1;have N:=Fk (cj.out.keep HK.out (by simp));have c3:=Fk (br.out.keep HK.out (by simp));have y5:wr.cell? ⟨bx,5,none⟩=some (FC (bs op)):=N.out.cell 5;have y6:wr.cell? ⟨bx,6,none⟩=some (FC (bs lc)):=N.out.cell 6;have y7:wr.cell? ⟨bx,7,none⟩=some (FH FI V):=N.out.cell 7;have y8:wr.cell? ⟨bx,8,none⟩=some (FH FI Z):=N.out.cell 8;have y9:wr.cell? ⟨bx,9,none⟩=some (FC (bs lw)):=N.out.cell 9;have ez:wr.cell? ⟨bx,10,none⟩=some (FC (bs rc)):=N.out.cell 10;have ey:wr.cell? ⟨bx,11,none⟩=some (FH FI rk):=N.out.cell 11;have ex:wr.cell? ⟨bx,12,none⟩=some (FH FI rn):=N.out.cell 12;have d6:wr.cell? ⟨bx,13,none⟩=some (FC (bs I)):=N.out.cell 13;have z0:wr.cell? ⟨bx+1,0,none⟩=some (FD A t.cols.length c):=c3.out.cell 0;have eY:bx<wr.heap.size:=N.out.lt;have eb:bx+1<wr.heap.size:=c3.out.lt;have eB:(0:Int)≤(m:Int):=by omega
  have el:(m:Int)<(t.rows.length:Int):=by omega
  cases bt:O r with
  | true =>
   rw[bt] at HHO' bq;go_wp2_with fail
   refine ah (by kernel_rfl) (by kernel_rfl) ?_;repeat (go_big_quiet_step (first|with_reducible exact KW.of HAA'.out _|with_reducible exact KW.of HAB'.out _|with_reducible exact KW.of HHO'.out _))
   refine wpQuiet_nil ?_;intro w5 J;obtain ⟨c1,be,a9,a6⟩:=a3.out;have a1:=Fk (aE a9 J (fun _ _=>by simp));have a7:=Fk a6;have a5:=Fk (a2.out.keep J);have bc:=Fk be;have dz:w2.heap.size≤w5.heap.size:=Ft HK.out.size J.size;have cg:=Fk (HK.out.trans J);have a8:=Fk (show ((t.rows.take m).filter O).length≤4294967296 from Ft (List.length_filter_le _ _) (by rw[Fw];have:=HT.out.lm;omega));have bb:=Fk (df (p:=O) a4);have b4:=Fk (df (p:=aA) a4);obtain ⟨qs,b3⟩:∃ qs,(t.rows.take m).filter O=qs:=⟨_,rfl⟩
   rw[b3] at a1 a7 bc a8 bb;have bo:=Fk (show qs.length+1≤maxLen∧(qs.length+1)*24≤140737488355328 by have:=a8.out;simp only[maxLen];omega);clear a9 a6 be J;go_wp2_with (at_builtin;(refine wpList_append_lies _ rfl _ _ 52 rfl w2.heap.size 89 ir _ 1 24 Tryz.underlying52 cx bZ bv bz rfl (by decide) _ qs.length c1 rfl (a1.out.alloc _) ⟨w5.heap.size,0,none⟩ 1 1 [FD Ar r.length cr] rfl rfl (Fx (heap_alloc_new _ _)) (by simp[Value.oneCell']) (by decide) bo.out.1 bo.out.2 (by simp;omega) _ rfl ?_);intro gw bk w8 M D av bj)
   have b6:=Fk ((cg.out.alloc (FG #[FD Ar r.length cr] 89)).grown D (fun g hg=> .inr (a1.out.lt g hg).1));have b5:=Fk (gZ bc.out a7.out b8.out M);have b9:=Fk ((a5.out.keep ((Fz [] w5).alloc _)).kept D (lD (dH a0)));have cq:=Fk (gg (n:=qs.length+1) (cap:=bk) a0 av a5.out (by rw[ap];omega));clear M D av bj;go_wp2;go_roundw
   case rel=>exact ⟨m+1,_,vn,rfl,rfl,by omega,by go_num,Fk (by rw[bb.out,hr,bt,if_pos rfl];exact b5.out),Fk (by rw[b4.out,hr,bq,if_neg (by decide)];exact b9.out),cq.out,b6.out⟩
   case measure=>simp[intOf];omega
  | false =>
   rw[bt] at HHO' bq;go_wp2_with fail
   refine ah (by kernel_rfl) (by kernel_rfl) ?_;repeat (go_big_quiet_step (first|with_reducible exact KW.of HAA'.out _|with_reducible exact KW.of HAB'.out _|with_reducible exact KW.of HHO'.out _))
   refine wpQuiet_nil ?_;intro w5 J;obtain ⟨c6,be,a9,a6⟩:=a2.out;have a1:=Fk (aE a9 J (fun _ _=>by simp));have a7:=Fk a6;have a5:=Fk (a3.out.keep J);have bc:=Fk be;have dz:w2.heap.size≤w5.heap.size:=Ft HK.out.size J.size;have cg:=Fk (HK.out.trans J);have a8:=Fk (show ((t.rows.take m).filter aA).length≤4294967296 from Ft (List.length_filter_le _ _) (by rw[Fw];have:=HT.out.lm;omega));have bb:=Fk (df (p:=aA) a4);have b4:=Fk (df (p:=O) a4);obtain ⟨qs,b3⟩:∃ qs,(t.rows.take m).filter aA=qs:=⟨_,rfl⟩
   rw[b3] at a1 a7 bc a8 bb;have bo:=Fk (show qs.length+1≤maxLen∧(qs.length+1)*24≤140737488355328 by have:=a8.out;simp only[maxLen];omega);clear a9 a6 be J;go_wp2_with (at_builtin;(refine wpList_append_lies _ rfl _ _ 52 rfl w2.heap.size 89 ir _ 1 24 Tryz.underlying52 cx bZ bv bz rfl (by decide) _ qs.length c6 rfl (a1.out.alloc _) ⟨w5.heap.size,0,none⟩ 1 1 [FD Ar r.length cr] rfl rfl (Fx (heap_alloc_new _ _)) (by simp[Value.oneCell']) (by decide) bo.out.1 bo.out.2 (by simp;omega) _ rfl ?_);intro gw bk w8 M D av bj)
   have b6:=Fk ((cg.out.alloc (FG #[FD Ar r.length cr] 89)).grown D (fun g hg=> .inr (a1.out.lt g hg).1));have b5:=Fk (gZ bc.out a7.out b8.out M);have b9:=Fk ((a5.out.keep ((Fz [] w5).alloc _)).kept D (lD (dH ba)));have cq:=Fk (gg (n:=qs.length+1) (cap:=bk) ba av a5.out (by rw[ap];omega));clear M D av bj;go_wp2;go_roundw
   case rel=>exact ⟨m+1,vy,_,rfl,rfl,by omega,by go_num,Fk (by rw[b4.out,hr,bt,if_neg (by decide)];exact b9.out),Fk (by rw[bb.out,hr,bq,if_pos (by rfl)];exact b5.out),dH cq.out,b6.out⟩
   case measure=>simp[intOf];omega
 have b0:=Fk (a3.out.is ad.out);have cu:=Fk (a2.out.is ad.out);obtain rfl:m=t.rows.length:=by omega
 rw[List.take_length] at b0 cu;clear a3 a2;obtain ⟨Ay,cy,d1,_,_⟩:=b0.out;obtain ⟨An,cn,d0,_,_⟩:=cu.out;subst d1 d0;have bX:([t.rows.filter O,t.rows.filter aA].take no).length=no:=by rw[Fw];show min no 2=no;omega
 have ev:=qQ (some ⟨wr.heap.size,0,none⟩) 2 2 no cd;have dv:=Fk (tX b0.out cu.out no cd 52);go_wp2;go_ret2;exact ⟨⟨some ⟨wr.heap.size,0,none⟩,2,by rw[bX];rfl,by rw[bX];exact cd,dv.out⟩,ad.out.alloc _⟩
end
section
open Go.RowKit
theorem gh {t:Tb} (h:ak t=true):∀ r∈t.rows,r.length=t.cols.length:=fun r D=>by
 have:=(aF.1 h).2.2 r D;unfold ft at this;simp only[Bool.and_eq_true,decide_eq_true_eq] at this;exact this.1
theorem tY {l:List Cl} {nm:Bs} {k:Nat} (h:an l nm=some k):k<l.length:=(List.findIdx?_eq_some_iff_getElem.1 h).1
theorem AY {t:Tb} (h:ak t=true) {k:Nat} (D:k<t.cols.length):(t.cols.getD k zC).kind=1∨(t.cols.getD k zC).kind=2:=by
 rw[Fy,Fp D];exact (sn (aF.1 h).1 D).2
theorem pf {a:Ar} {t:Tb} {k:Nat} (D:ak t=true) (h:an t.cols a.col=some k):∀ r∈t.rows,fO a t.cols r:=fun r H=> .inr ⟨k,h,by rw[gh D r H];exact tY h⟩
theorem kH {a:Ar} {t:Tb} (I:ak t=true) (D:dR a t.cols≠0):∀ r∈t.rows,fO a t.cols r:=fun r J=>by
 by_cases H:a.col=[]
 ·exact .inl H
 unfold dR at D;rw[if_neg H] at D
 cases h:an t.cols a.col with
 | none=>rw[h] at D;exact absurd rfl D
 | some k=>exact pf I h r J
theorem eu.first {w:World} {A:Option Addr} {M:List Tb} {t:Tb} {k:Nat} (h:eu w A M) (hk:k<M.length) (ht:M[k]=t) (I:AL t):∃ b o A1 J H c2,A=some ⟨b,o,none⟩∧w.cell? ⟨b,o+k*2,none⟩=some (FD A1 t.cols.length J)∧w.cell? ⟨b,o+k*2+1,none⟩=some (FD H t.rows.length c2)∧aY w t A1 H J c2:=by
 obtain ⟨us,ad,N,O⟩:=h;obtain ⟨b,o,hA,_,_,D⟩:=N.open' (by omega) (by omega);have d0:=D _ _ (lz us k (by omega)).1;have U:=D _ _ (lz us k (by omega)).2;obtain ⟨⟨A1,J,e1,Z,V⟩,⟨H,c2,e2,h3,h4⟩⟩:=O k (by omega) hk;rw[ht] at e1 Z V e2 h3 h4;rw[e1] at d0;rw[e2,←Nat.add_assoc] at U;exact ⟨b,o,A1,J,H,c2,hA,d0,U,⟨V,Z,h4,h3,I.names,I.ln,I.lm,I.lr⟩⟩
theorem eu.heads {w:World} {A:Option Addr} {D:List Tb} (h:eu w A D) (i:Nat) (J:i<D.length):∃ u,gB w u D[i].cols:=by
 obtain ⟨us,M,I,H⟩:=h;exact ⟨_,(H i (by omega) J).1⟩
theorem yQ {j:Jb} {a:List Cl} {out:List (List Cl)} (h:aX j a= .ok out):∃ k,an a j.left.col=some k∧dR j.right a=(a.getD k zC).kind:=by
 unfold aX at h;split at h
 ·cases h
 cases D:an a j.left.col with
 | none=>rw[D] at h;cases h
 | some k =>
  rw[D] at h;simp only at h;split at h
  ·cases h
  rename_i H;exact ⟨k,rfl,Decidable.not_not.1 H⟩
theorem ph {j:Jb} {ins:List (List Cl)} {out:List (List Cl)} (h:aK j ins= .ok out):ins.length=(aw j.code).1:=by
 unfold aK at h;split at h
 ·cases h
 rename_i D;simp only[not_or,Decidable.not_not] at D;exact D.2.1
theorem Ea (j:Jb) (D:j.code=1∨j.code=9) (N:Option Addr) (M:Nat) (Ai:Option Addr) (ni ci:Nat) (U:Option Addr) (cc:Nat) (ins:List Tb) (AT:Option Addr) (ct:Nat) (w:World) (hE:mi w) (hJ:gT w j N M U cc) (hI:eu w AT ins) (hB:∀ t∈ins,AL t) (hl:ins.length≤4294967296) :
  Calls Tryz.prog 24 #[eH j N M Ai ni ci U cc,FD AT ins.length ct] w fun e w'=>qJ (j6 j ins) e w'∧aa [] w w':=by
 refine rX j N M Ai ni ci U cc ins AT ct w hI hB hl (fun W q AH ch hH=>?_) (fun out hr O W q OA od=>?_)
 ·refine ot j N M Ai ni ci U cc (ins.map (·.cols)) AH ch W (hE.quiet q).c (hJ.quiet q) hH (fun l hm=>?_) (by omega) (fun h=>by omega)
  obtain ⟨t,ht,rfl⟩:=List.mem_map.1 hm;exact (hB t ht).ln
 have h1:ins.length=1:=by
  have:=ph O;rw[List.length_map] at this;rw[this];rcases D with h|h<;>rw[h]<;>rfl
 have a0:=ju O;have I:out.length≤2:=by rw[a0];split<;>omega
 obtain ⟨t,rfl⟩:∃ t,ins=[t]:=by
  match ins,h1 with
  | [t],_=>exact ⟨t,rfl⟩
 have J:ak t=true:=hr t (by simp);have a1:aX j t.cols= .ok out:=by
  unfold aK at O;split at O
  ·cases O
  exact O
 obtain ⟨k,hk,aA⟩:=yQ a1;have av:=pf (a:=j.left) J hk;have Z:=kH (a:=j.right) J (by
  rw[aA];rcases AY J (tY hk) with h|h<;>rw[h]<;>decide)
 obtain ⟨b,o,A1,c1,A2,c2,rfl,d0,d1,hT⟩:=(hI.keep q).first (k:=0) (by simp) rfl (hB t (by simp));rw[Nat.zero_mul,Nat.add_zero] at d0 d1;have a2:bw j [t] out= .ok ([t.rows.filter (cZ j t),t.rows.filter fun r=> !cZ j t r].take out.length):=by
  rw[gL (by omega) (by omega) (by omega)];unfold fo;rw[if_pos D];rfl
 rw[a2];obtain ⟨ad,code,outs,js,cols,op,⟨lc,lk,ln,lw⟩,⟨rc,rk,rn,V⟩,H⟩:=j;rcases D with rfl|rfl
 ·exact D8 t out.length I OA od b o 1 ct A1 A2 c1 c2 (by omega) ad H lk ln rk rn outs js cols op lc lw rc V N M Ai ni ci U cc W d0 d1 hT av Z
 exact D9 t out.length I OA od b o 1 ct A1 A2 c1 c2 (by omega) ad H lk ln rk rn outs js cols op lc lw rc V N M Ai ni ci U cc W d0 d1 hT av Z
end
section
def mj:Tb:=⟨[],[]⟩
abbrev Tm:=List (Bs×Tb)
def getT (m:Tm) (n:Bs):Tb:=(m.lookup n).getD mj
def eZ (gv:Bs→Option Tb):List In→Tm→Except (Int×Int) Tm
 | [],h=> .ok h
 | x::l,h=>match gv x.name with
  | none=> .error (7,-1)
  | some t=>if t.cols=x.cols∧ak t=true then eZ gv l ((x.name,t)::h) else .error (13,-1)
def putT:List Bs→List Tb→Tm→Tm
 | n::ns,c::cs,m=>putT ns cs ((n,c)::m)
 | _,_,m=>m
def dI (f:Fl):List Nat→Tm→Except (Int×Int) Tm
 | [],h=> .ok h
 | k::H,h=>match j6 (jb f k) ((jb f k).ins.map (getT h)) with
  | .error e=> .error (e,(k:Int))
  | .ok D=>dI f H (putT (jb f k).outs D h)
def fa (l:List Pb) (h:Tm):Tm:=l.foldl (fun o x=>(x.name,getT h x.src)::o) []
def fP (f:Fl) (gv:Bs→Option Tb):Except (Int×Int) Tm:=match cN f with
 | .error e=> .error (e.1,-1)
 | .ok _=>match eZ gv f.ins [] with
  | .error e=> .error e
  | .ok h=>match cM f with
   | .error e=> .error (e.1,-1)
   | .ok l=>match dI f l h with
    | .error e=> .error e
    | .ok h'=> .ok (fa f.outs h')
theorem pr {j:Jb} {ins l:List Tb} (h:j6 j ins= .ok l):∃ out D,(∀ t∈ins,ak t=true)∧aK j (ins.map (·.cols))= .ok out∧bw j ins out= .ok D∧de out D= .ok l:=by
 obtain ⟨I,out,D,M,J,H⟩:=Da.1 h;exact ⟨out,D,I,M,J,H⟩
theorem mm:∀ {out:List (List Cl)} {D:List (List (List Vl))} {l:List Tb},out.length≤D.length→de out D= .ok l→l.map (·.cols)=out
 | [],_,l,_,h=>by
  unfold de at h;cases h;rfl
 | c::cs,[],l,H,_=>by simp at H
 | c::cs,r::J,l,H,h=>by
  unfold de at h;split at h
  ·cases h
  cases I:de cs J with
  | error e=>rw[I] at h;cases h
  | ok q =>
   rw[I] at h;injection h with h;rw[←h,List.map_cons,mm (by simpa using H) I]
theorem pt {j:Jb} {ins l:List Tb} (h:j6 j ins= .ok l):l.length=j.outs.length:=by
 obtain ⟨out,D,_,H,M,I⟩:=pr h;have J:=oM (ju H) M;have:=mm (Nat.le_of_eq J) I;rw[←gO H,←this,List.length_map]
theorem CA {j:Jb} {ins l:List Tb} (h:j6 j ins= .ok l):aK j (ins.map (·.cols))= .ok (l.map (·.cols)):=by
 obtain ⟨out,D,_,H,J,I⟩:=pr h;rw[mm (Nat.le_of_eq (oM (ju H) J)) I];exact H
theorem yU {j:Jb} {ins:List Tb} {out:List (List Cl)} (h:aK j (ins.map (·.cols))= .ok out):ins.length=(aw j.code).1:=by
 unfold aK at h;split at h
 ·cases h
 rename_i D;rw[List.length_map] at D;exact Classical.byContradiction fun H=>D (.inr (.inl H))
theorem yV {l:List Tb} (h:l.length=1):∃ t,l=[t]:=by
 match l,h with
 | [t],_=>exact ⟨t,rfl⟩
theorem EJ {l:List Tb} (h:l.length=2):∃ t v,l=[t,v]:=by
 match l,h with
 | [t,v],_=>exact ⟨t,v,rfl⟩
theorem Ed {j:Jb} {ins:List Tb} {e:Int} (h:j6 j ins= .error e):e≠0:=by
 have N:∀ (a:List Cl) (ns seen:List Bs) (acc:List Cl) (e:Int),cW a seen ns acc= .error e→e≠0:=fun a ns=>by
  induction ns with
  | nil=>intro seen acc e h;cases h
  | cons n ns ih =>
   intro seen acc e h;unfold cW at h;split at h
   ·cases h;decide
   split at h
   ·cases h;decide
   exact ih _ _ _ h
 have J:∀ (cs:List (List Cl)) (e:Int),aK j cs= .error e→e≠0:=fun cs e h=>by
  unfold aK at h;split at h
  ·cases h;decide
  split at h
  ·unfold aX at h
   split at h
   ·cases h;decide
   split at h
   ·cases h;decide
   split at h
   ·cases h;decide
   cases h
  split at h
  ·unfold jS at h
   split at h
   ·cases h;decide
   split at h
   ·cases h;decide
   split at h
   ·cases h;decide
   cases h
  split at h
  ·unfold bW at h
   split at h
   ·cases h;decide
   split at h
   ·rename_i O I
    cases h
    exact N _ _ _ _ _ I
   cases h
  split at h
  ·split at h
   ·cases h;decide
   cases h
  split at h
  ·unfold dg at h
   split at h
   ·cases h;decide
   split at h
   ·split at h
    ·cases h;decide
    split at h
    ·cases h;decide
    split at h
    ·cases h;decide
    cases h
   cases h;decide
  split at h
  ·unfold cF at h
   split at h
   ·cases h;decide
   split at h
   ·split at h
    ·cases h;decide
    split at h
    ·cases h;decide
    cases h
   cases h;decide
  cases h
 have H:∀ (out:List (List Cl)) (e:Int),bw j ins out= .error e→e≠0:=fun out e h=>by
  unfold bw at h;simp only at h;split at h
  ·cases h
  split at h
  ·cases h
  split at h
  ·split at h
   ·cases h;decide
   cases h
  unfold fo at h;simp only at h;split at h
  ·cases h
  split at h
  ·split at h
   ·cases h;decide
   cases h
  split at h
  ·cases h
  split at h
  ·cases h
  cases h
 have M:∀ (out:List (List Cl)) (D:List (List (List Vl))) (e:Int),de out D= .error e→e≠0:=fun out=>by
  induction out with
  | nil=>intro D e h;unfold de at h;cases h
  | cons c cs ih =>
   intro D e h
   cases D with
   | nil=>unfold de at h;cases h
   | cons r U =>
    unfold de at h;split at h
    ·cases h;decide
    split at h
    ·rename_i O I
     cases h
     exact ih _ _ I
    cases h
 unfold j6 at h;split at h
 ·cases h;decide
 split at h
 ·rename_i O I
  cases h
  exact J _ _ I
 split at h
 ·rename_i O I
  cases h
  exact H _ _ I
 exact M _ _ _ h
theorem ua {j:Jb} {ins l:List Tb} (h:j6 j ins= .ok l):∀ t∈l,ak t=true:=by
 obtain ⟨out,V,H,M,h2,h3⟩:=pr h;have O:=pt h;by_cases h9:j.code=9
 ·-- two parts
  have Z:ins.length=1∧j.outs.length=2:=by
   unfold aK aw at M;rw[h9] at M;simp only[show ¬((9:Int)=5∨(9:Int)=7) by decide,if_false,if_true] at M;split at M
   ·cases M
   rename_i hn;simp only[List.length_map] at hn;omega
  obtain ⟨t,rfl⟩:∃ t,ins=[t]:=by
   match ins,Z.1 with
   | [t],_=>exact ⟨t,rfl⟩
  rw[Ae j t h9 Z.2] at h;rw[if_pos (H t (by simp))] at h;split at h
  ·cases h
  injection h with h;rw[←h];intro u hu;simp only[List.mem_cons,List.not_mem_nil,or_false] at hu;rcases hu with rfl|rfl
  ·exact lq j (H t (by simp))
  exact jL (H t (by simp)) (Ft (List.length_filter_le _ _) (bg (H t (by simp)))) fun r H=>(List.mem_filter.1 H).1
 have ad:=ju M;rw[if_neg h9] at ad;have av:l.length=1:=by rw[O,←gO M,ad]
 obtain ⟨u,rfl⟩:∃ u,l=[u]:=by
  match l,av with
  | [u],_=>exact ⟨u,rfl⟩
 have N:j.code=1∨j.code=2∨j.code=3∨j.code=4∨j.code=5∨j.code=6∨j.code=7∨j.code=8:=by
  refine Classical.byContradiction fun hn=>?_
  unfold aK at M;rw[if_pos] at M
  ·cases M
  left
  unfold aw;rw[if_neg (by omega),if_neg (by omega),if_neg (by omega)]
 have h0:j.code / 9=0:=by omega
 have ho:j.outs.length=1:=by rw[←O,av]
 have D:kq j ins=some u:=by
  refine (ge h0).2 ⟨H,out,V,?_,?_,h3⟩
  ·rw[←M]
   have e1:∀ a,aX { j with outs:=[[120]] } a=aX j a:=fun a=>rfl
   unfold aK;simp only[ho,Fv,List.length_nil,Nat.zero_add];rfl
  rw[←h2];have aA:∀ (a:Tb) U acc,aO { j with outs:=[[120]] } a U acc=aO j a U acc:=fun a U=>by
   induction U with
   | nil=>intro acc;rfl
   | cons r U ih =>
    intro acc;unfold aO;have:bp { j with outs:=[[120]] } a r=bp j a r:=rfl;rw[this]
    cases bp j a r with
    | none=>rfl
    | some x=>exact ih _
  unfold bw fo;simp only[aA];rfl
 intro t ht;rw[List.mem_singleton.1 ht];have I:=yU M;rcases N with J|J|J|h4|J|J|h7|h8
 ·rw[J] at I
  obtain ⟨t,rfl⟩:=yV I;rw[u9 j t J] at D;split at D
  ·rename_i hh
   injection D with D;rw[←D];exact lq j hh.1
  cases D
 ·rw[J] at I
  obtain ⟨t,rfl⟩:=yV I;obtain ⟨H,⟨k,hk⟩,l,hl,rfl⟩:=(Cc J).1 D;exact yp H hk hl
 ·rw[J] at I
  obtain ⟨t,rfl⟩:=yV I;obtain ⟨H,hp,rfl⟩:=(Af J).1 D;exact ve H hp
 ·rw[h4] at I
  obtain ⟨t,rfl⟩:=yV I;obtain ⟨H,_,rfl⟩:=(AZ h4).1 D;exact vO H
 ·rw[J] at I
  obtain ⟨t,v,rfl⟩:=EJ I;obtain ⟨H,hv,a0,hl,rfl⟩:=(yo J).1 D;exact tp H hv a0 hl
 ·rw[J] at I
  obtain ⟨t,rfl⟩:=yV I;obtain ⟨H,rfl⟩:=(Ak J).1 D;exact vd H
 ·rw[h7] at I
  obtain ⟨t,v,rfl⟩:=EJ I;exact vP h7 D
 rw[h8] at I;obtain ⟨t,rfl⟩:=yV I;exact tZ h8 D
theorem jC:∀ {ns:List Bs} {cs:List Tb} {m:Tm},ns.length=cs.length→ns.Nodup→(∀ i (h:i<ns.length) (h':i<cs.length),(putT ns cs m).lookup ns[i]=some cs[i])∧(∀ n,n∉ns→(putT ns cs m).lookup n=m.lookup n)
 | [],[],m,_,_=>⟨fun i h=>absurd h (by simp),fun _ _=>rfl⟩
 | n::ns,c::cs,m,J,D=>by
  rw[List.nodup_cons] at D;obtain ⟨a,b⟩:=jC (ns:=ns) (cs:=cs) (m:=(n,c)::m) (by simpa using J) D.2;refine ⟨fun i h h'=>?_,fun x H=>?_⟩
  ·cases i with
   | zero =>
    show (putT ns cs ((n,c)::m)).lookup n=some c;rw[b n D.1,List.lookup_cons];simp
   | succ i=>exact a i (by simpa using h) (by simpa using h')
  rw[List.mem_cons] at H;show (putT ns cs ((n,c)::m)).lookup x=m.lookup x;rw[b x (fun I=>H (.inr I)),List.lookup_cons];have:(x==n)=false:=by simpa using fun e=>H (.inl e)
  rw[this]
theorem rY {gv:Bs→Option Tb}:∀ {l:List In} {m D:Tm},eZ gv l m= .ok D→(l.map (·.name)).Nodup→(∀ x∈l,∃ t,gv x.name=some t∧t.cols=x.cols∧ak t=true∧D.lookup x.name=some t)∧(∀ n,n∉l.map (·.name)→D.lookup n=m.lookup n)
 | [],m,D,h,_=>by cases h;exact ⟨fun x h=>(by cases h),fun _ _=>rfl⟩
 | x::l,m,D,h,M=>by
  unfold eZ at h
  cases J:gv x.name with
  | none=>rw[J] at h;cases h
  | some t =>
   rw[J] at h;simp only at h;by_cases H:t.cols=x.cols∧ak t=true
   ·rw[if_pos H] at h
    rw[List.map_cons,List.nodup_cons] at M;obtain ⟨a,b⟩:=rY h M.2;refine ⟨fun y N=>?_,fun n I=>?_⟩
    ·rcases List.mem_cons.1 N with rfl|N
     ·refine ⟨t,J,H.1,H.2,?_⟩
      rw[b _ M.1,List.lookup_cons];simp
     exact a y N
    rw[List.map_cons,List.mem_cons] at I;rw[b n (fun O=>I (.inr O)),List.lookup_cons];have:(n==x.name)=false:=by simpa using fun e=>I (.inl e)
    rw[this]
   rw[if_neg H] at h;cases h
theorem pu {gv:Bs→Option Tb}:∀ {l:List In} {m:Tm} {x:Int×Int},eZ gv l m= .error x→x.2= -1∧x.1≠0
 | [],m,x,h=>by cases h
 | y::l,m,x,h=>by
  unfold eZ at h
  cases D:gv y.name with
  | none=>rw[D] at h;cases h;exact ⟨rfl,by decide⟩
  | some t =>
   rw[D] at h;simp only at h;by_cases H:t.cols=y.cols∧ak t=true
   ·rw[if_pos H] at h;exact pu h
   rw[if_neg H] at h;cases h;exact ⟨rfl,by decide⟩
theorem pv {gv gv':Bs→Option Tb}:∀ {l:List In} {m:Tm},(∀ x∈l,gv' x.name=gv x.name)→eZ gv' l m=eZ gv l m
 | [],m,_=>rfl
 | x::l,m,h=>by
  unfold eZ;rw[h x (List.mem_cons_self ..)]
  cases gv x.name with
  | none=>rfl
  | some t =>
   simp only;split
   ·exact pv fun y D=>h y (List.mem_cons_of_mem _ D)
   rfl
structure Bc (f:Fl) (gv:Bs→Option Tb) (F:Bs→Option Tb):Prop where
 ins:∀ x∈f.ins,∃ t,gv x.name=some t∧t.cols=x.cols∧ak t=true∧F x.name=some t
 jobs:∀ j∈f.jobs,∃ ts,j6 j (j.ins.map fun n=>(F n).getD mj)= .ok ts∧∀ i (h:i<j.outs.length) (h':i<ts.length),F j.outs[i]=some ts[i]
 none:∀ n,n∉aW f→F n=none
def vQ (f:Fl) (F:Bs→Option Tb) (done:List Nat) (m:Tm):Prop:=(∀ n,gP f done n→m.lookup n=F n)∧(∀ n,¬gP f done n→m.lookup n=none)
theorem ub {f:Fl} (Z:fW f) {F:Bs→Option Tb} {done:List Nat} {m:Tm} {k:Nat} {cs:List Tb} (V:vQ f F done m) (O:k<f.jobs.length)
  (hl:cs.length=(jb f k).outs.length) (N:∀ i (h:i<(jb f k).outs.length) (h':i<cs.length),F (jb f k).outs[i]=some cs[i]):vQ f F (done++[k]) (putT (jb f k).outs cs m):=by
 obtain ⟨a,b⟩:=V;obtain ⟨p1,M⟩:=jC (ns:=(jb f k).outs) (cs:=cs) (m:=m) hl.symm (fM Z O);have D:∀ n,gP f (done++[k]) n↔gP f done n∨n∈(jb f k).outs:=fun n=>by
  unfold gP;constructor
  ·rintro (h|⟨x,H,h⟩)
   ·exact .inl (.inl h)
   rcases List.mem_append.1 H with H|H
   ·exact .inl (.inr ⟨x,H,h⟩)
   rw[List.mem_singleton.1 H] at h;exact .inr h
  rintro ((h|⟨x,H,h⟩)|h)
  ·exact .inl h
  ·exact .inr ⟨x,List.mem_append_left _ H,h⟩
  exact .inr ⟨k,List.mem_append_right _ (List.mem_singleton.2 rfl),h⟩
 refine ⟨fun n h=>?_,fun n h=>?_⟩
 ·by_cases I:n∈(jb f k).outs
  ·obtain ⟨i,J,rfl⟩:=List.getElem_of_mem I
   rw[p1 i J (by omega),N i J (by omega)]
  rw[M n I];exact a n (((D n).1 h).resolve_right I)
 rw[M n fun I=>h ((D n).2 (.inr I))];exact b n fun U=>h ((D n).2 (.inl U))
theorem qS {f:Fl} {gv:Bs→Option Tb} (M:fW f) {F:Bs→Option Tb} (H:Bc f gv F):∀ (l done:List Nat) (m:Tm),dO f (done++l)→vQ f F done m→∃ h,dI f l m= .ok h∧vQ f F (done++l) h
 | [],done,m,_,D=>⟨m,rfl,by rw[List.append_nil];exact D⟩
 | k::l,done,m,O,D=>by
  obtain ⟨hr,I,N,hd⟩:=O.at;obtain ⟨cs,J,V⟩:=H.jobs (jb f k) (by rw[ea I];exact Fs _);have e:(jb f k).ins.map (getT m)=(jb f k).ins.map fun n=>(F n).getD mj:=List.map_congr_left fun n N=>by
   unfold getT;rw[D.1 n (jK hr n N)]
  have hA':=ub M D I (pt J) V;obtain ⟨h,Z,U⟩:=qS M H l (done++[k]) _ (by rw[List.append_assoc];exact O) hA';refine ⟨h,?_,by rw[List.append_assoc] at U;exact U⟩;unfold dI;rw[e,J];exact Z
theorem px {f:Fl} (M:fW f):∀ (l done:List Nat) (m H:Tm),dO f (done++l)→(∀ n,¬gP f done n→m.lookup n=none)→dI f l m= .ok H →
  (∀ n,gP f done n→H.lookup n=m.lookup n)∧∀ k∈l,∃ cs,j6 (jb f k) ((jb f k).ins.map (getT H))= .ok cs∧∀ i (h:i<(jb f k).outs.length) (h':i<cs.length),H.lookup (jb f k).outs[i]=some cs[i]
 | [],done,m,H,_,_,h=>by cases h;exact ⟨fun _ _=>rfl,fun k J=>(by cases J)⟩
 | k::l,done,m,H,hv,hb,h=>by
  obtain ⟨hr,J,hn,hd⟩:=hv.at;unfold dI at h
  cases U:j6 (jb f k) ((jb f k).ins.map (getT m)) with
  | error e=>rw[U] at h;cases h
  | ok cs =>
   rw[U] at h;have hl:=pt U;obtain ⟨p1,p2⟩:=jC (ns:=(jb f k).outs) (cs:=cs) (m:=m) hl.symm (fM M J);have hA:vQ f (fun n=>(putT (jb f k).outs cs m).lookup n) (done++[k]) (putT (jb f k).outs cs m):=by
    have V:vQ f (fun n=>(putT (jb f k).outs cs m).lookup n) done m:=⟨fun n I=>(p2 n fun Z=>ld M J hd hn Z I).symm,hb⟩;exact ub M V J hl p1
   obtain ⟨q1,q2⟩:=px M l (done++[k]) _ H (by rw[List.append_assoc];exact hv) hA.2 h;have D:∀ n,gP f done n→H.lookup n=m.lookup n:=fun n N=>by
    rw[q1 n (by
     rcases N with h|⟨x,O,h⟩
     ·exact .inl h
     exact .inr ⟨x,List.mem_append_left _ O,h⟩)]
    exact p2 n fun Z=>ld M J hd hn Z N
   refine ⟨D,fun x O=>?_⟩;rcases List.mem_cons.1 O with rfl|O
   ·refine ⟨cs,?_,fun i hi hi'=>?_⟩
    ·rw[←U]
     congr 1
     exact List.map_congr_left fun n I=>by unfold getT;rw[D n (jK hr n I)]
    rw[q1 _ (.inr ⟨x,List.mem_append_right _ (List.mem_singleton.2 rfl),Fs hi⟩),p1 i hi hi']
   exact q2 x O
theorem mn {f:Fl}:∀ {l:List Nat} {m:Tm} {x:Int×Int},dI f l m= .error x→0≤x.2∧x.1≠0
 | [],m,x,h=>by cases h
 | k::l,m,x,h=>by
  unfold dI at h
  cases D:j6 (jb f k) ((jb f k).ins.map (getT m)) with
  | error e =>
   rw[D] at h;injection h with h;rw[←h];exact ⟨by show (0:Int)≤(k:Int);omega,Ed D⟩
  | ok cs=>rw[D] at h;exact mn h
theorem kJ (l:List Pb) (x:Pb) (h:Tm):fa (l++[x]) h=(x.name,getT h x.src)::fa l h:=by
 unfold fa;rw[List.foldl_append];rfl
theorem ug {h h':Tm}:∀ {l:List Pb},(∀ x∈l,getT h x.src=getT h' x.src)→fa l h=fa l h':=fun {l}=>by
 refine fJ (p:=fun l=>(∀ x∈l,getT h x.src=getT h' x.src)→fa l h=fa l h') (fun _=>rfl) (fun l x ih D=>?_) l;rw[kJ,kJ,ih fun y H=>D y (by simp[H]),D x (by simp)]
theorem wa {h:Tm}:∀ {l:List Pb},(l.map (·.name)).Nodup→∀ x∈l,(fa l h).lookup x.name=some (getT h x.src):=fun {l}=>by
 refine fJ (p:=fun l=>(l.map (·.name)).Nodup→∀ x∈l,(fa l h).lookup x.name=some (getT h x.src)) (fun _ x D=>by cases D) (fun l y ih I x D=>?_) l;rw[List.map_append,List.nodup_append] at I;obtain ⟨M,_,J⟩:=I;rw[kJ,List.lookup_cons];rcases List.mem_append.1 D with D|D
 ·have H:x.name≠y.name:=J x.name (List.mem_map.2 ⟨x,D,rfl⟩) y.name (by simp)
  have:(x.name==y.name)=false:=by simpa using H
  rw[this];exact ih M x D
 rw[List.mem_singleton.1 D];simp
theorem jD {f:Fl} {m:Cm} (H:cN f= .ok m) {gv:Bs→Option Tb}:∃ l,cM f= .ok l∧dO f l∧l.length=f.jobs.length∧fP f gv=match eZ gv f.ins [] with
  | .error e=> .error e
  | .ok h=>match dI f l h with
   | .error e=> .error e
   | .ok h'=> .ok (fa f.outs h'):=by
 obtain ⟨_,l,_,_,D,_⟩:=mG H;obtain ⟨J,I⟩:=gN D;refine ⟨l,D,J,I,?_⟩;unfold fP;rw[H];simp only
 cases eZ gv f.ins [] with
 | error e=>rfl
 | ok h =>
  simp only[D];all_goals (cases dI f l h<;>rfl)
theorem qW {f:Fl} (h:fW f):(f.ins.map (·.name)).Nodup:=by
 have:=h.nodup;unfold aW at this;rw[List.nodup_append] at this;exact this.1
theorem ER {f:Fl} {gv:Bs→Option Tb} (Z:fW f) {F:Bs→Option Tb} (J:∀ x∈f.ins,∃ t,gv x.name=some t∧t.cols=x.cols∧ak t=true∧F x.name=some t) {I:Tm} (h:eZ gv f.ins []= .ok I):vQ f F [] I:=by
 obtain ⟨a,b⟩:=rY h (qW Z);refine ⟨fun n hd=>?_,fun n hd=>?_⟩
 ·rcases hd with hd|⟨k,M,_⟩
  ·obtain ⟨x,H,rfl⟩:=List.mem_map.1 hd
   obtain ⟨t,U,_,_,O⟩:=a x H;obtain ⟨u,D,_,_,V⟩:=J x H;rw[U] at D;injection D with D;rw[O,V,D]
  cases M
 exact b n fun N=>hd (.inl N)
theorem pH {f:Fl} {gv:Bs→Option Tb} (I:fW f) {l:List Nat} (J:dO f l) (hl:l.length=f.jobs.length) {N D:Tm} (h0:eZ gv f.ins []= .ok N) (h:dI f l N= .ok D):Bc f gv fun n=>if n∈aW f then D.lookup n else none:=by
 obtain ⟨a,b⟩:=rY h0 (qW I);obtain ⟨q1,q2⟩:=px I l [] N D J (fun n hd=>b n fun hh=>hd (.inl hh)) h;have U:∀ x∈f.ins,x.name∈aW f:=fun x H=>by unfold aW;exact List.mem_append_left _ (List.mem_map.2 ⟨x,H,rfl⟩)
 refine ⟨fun x H=>?_,fun j V=>?_,fun n hn=>by show (if n∈aW f then D.lookup n else none)=none;rw[if_neg hn]⟩
 ·obtain ⟨t,h1,h2,h3,h4⟩:=a x H
  refine ⟨t,h1,h2,h3,?_⟩;show (if x.name∈aW f then D.lookup x.name else none)=some t;rw[if_pos (U x H),q1 _ (.inl (List.mem_map.2 ⟨x,H,rfl⟩)),h4]
 obtain ⟨k,hk,rfl⟩:=List.getElem_of_mem V;obtain ⟨cs,e1,e2⟩:=q2 k (k4 J.nodup J.lt hl k hk);have O:=ea hk;rw[O] at e1;refine ⟨cs,?_,fun i Z hi'=>?_⟩
 ·rw[←e1]
  congr 1
  exact List.map_congr_left fun n M=>by
   unfold getT;rw[if_pos (I.ins _ V n M)]
 have:=e2 i (by rw[O];exact Z) hi';show (if f.jobs[k].outs[i]∈aW f then D.lookup f.jobs[k].outs[i] else none)=some cs[i];rw[if_pos (by unfold aW;exact List.mem_append_right _ (List.mem_flatMap.2 ⟨_,V,Fs Z⟩))];simpa only[O] using this
theorem uh {f:Fl} {gv:Bs→Option Tb} (I:fW f) {l:List Nat} (J:dO f l) (U:l.length=f.jobs.length) {D:Tm} (M:eZ gv f.ins []= .ok D) {F:Bs→Option Tb} (H:Bc f gv F):∃ h,dI f l D= .ok h∧∀ n∈aW f,h.lookup n=F n:=by
 obtain ⟨h,N,V⟩:=qS I H l [] D J (ER I H.ins M);exact ⟨h,N,fun n O=>V.1 n (sS J U O)⟩
theorem qX {f g:Fl} {gv gv':Bs→Option Tb} (I:g.ins=f.ins) (J:g.jobs.Perm f.jobs) (H:∀ x∈f.ins,gv' x.name=gv x.name) {F:Bs→Option Tb} (h:Bc f gv F):Bc g gv' F:=by
 have hp:(aW g).Perm (aW f):=by
  unfold aW;rw[I];exact (qw J).append_left _
 refine ⟨fun x D=>?_,fun j U=>h.jobs j (J.mem_iff.1 U),fun n V=>h.none n fun M=>V (hp.mem_iff.2 M)⟩;rw[I] at D;obtain ⟨t,O,N,Z,h4⟩:=h.ins x D;exact ⟨t,(H x D).trans O,N,Z,h4⟩
theorem wb {f g:Fl} {m:Cm} (hc:cN f= .ok m) (J:g.ins=f.ins) (ho:g.outs=f.outs) (hj:g.jobs.Perm f.jobs) {gv gv':Bs→Option Tb} (H:∀ x∈f.ins,gv' x.name=gv x.name) :
  (∃ a,fP f gv= .ok a∧fP g gv'= .ok a)∨∃ x y:Int×Int,fP f gv= .error x∧fP g gv'= .error y∧x.1≠0∧y.1≠0∧(x.2<0↔y.2<0):=by
 obtain ⟨l,h3,hv,hl,he⟩:=jD hc (gv:=gv);have Z:=(lh hc).names;obtain ⟨m',l',a1,a2,a3,a4,_,_⟩:=uN hc J ho hj;obtain ⟨l2,b3,bv,bl,be⟩:=jD a1 (gv:=gv');have D:=(lh a1).names;have h:eZ gv' g.ins []=eZ gv f.ins []:=by
  rw[J];exact pv H
 rw[he,be,h];have hins':=h
 cases M:eZ gv f.ins [] with
 | error x =>
  right
  exact ⟨x,x,rfl,rfl,(pu M).2,(pu M).2,Iff.rfl⟩
 | ok m0 =>
  rw[M] at hins';simp only
  cases U:dI f l m0 with
  | ok q =>
   have O:=qX (gv':=gv') J hj H (pH Z hv hl M U);obtain ⟨q',N,e2⟩:=uh D bv bl hins' O;rw[N];left
   refine ⟨_,rfl,?_⟩;rw[ho];show Except.ok (fa f.outs q')=Except.ok (fa f.outs q);congr 1
   refine ug fun x I=>?_
   have hs:x.src∈aW f:=Z.src x I;have V:x.src∈aW g:=D.src x (ho ▸ I);unfold getT;rw[e2 _ V,if_pos hs]
  | error x =>
   cases h2:dI g l2 m0 with
   | ok q =>
    have O:=qX (f:=g) (g:=f) (gv:=gv') (gv':=gv) J.symm hj.symm (fun x I=>(H x (J ▸ I)).symm) (pH D bv bl hins' h2);obtain ⟨q',N,_⟩:=uh Z hv hl M O;rw[U] at N;cases N
   | error y =>
    right
    have I:=mn U;have hy:=mn h2;exact ⟨x,y,rfl,rfl,I.2,hy.2,by omega⟩
theorem zo {f:Fl} {m:Cm} (hc:cN f= .ok m) {gv:Bs→Option Tb} {a:Tm} (D:fP f gv= .ok a):∀ x∈f.outs,∃ t,a.lookup x.name=some t∧ak t=true∧t.cols=dM m x.src:=by
 obtain ⟨l,h3,hv,hl,he⟩:=jD hc (gv:=gv);obtain ⟨c1,V,c3,c4,c5⟩:=lh hc;rw[he] at D
 cases h0:eZ gv f.ins [] with
 | error x=>rw[h0] at D;cases D
 | ok m0 =>
  rw[h0] at D;simp only at D
  cases h1:dI f l m0 with
  | error x=>rw[h1] at D;cases D
  | ok q =>
   rw[h1] at D;injection D with D;have U:=pH V hv hl h0 h1;have hC:Ev f fun n=>(if n∈aW f then q.lookup n else none).map (·.cols):=by
    refine ⟨fun x hx=>?_,fun j hj=>?_,fun n Z=>?_⟩
    ·obtain ⟨t,N,M,I,O⟩:=U.ins x hx
     show Option.map _ (if x.name∈aW f then q.lookup x.name else none)=_;have g4':(if x.name∈aW f then q.lookup x.name else none)=some t:=O;rw[g4',Option.map_some,M]
    ·obtain ⟨H,N,M⟩:=U.jobs j hj
     have I:=CA N;refine ⟨H.map (·.cols),?_,fun i h h'=>?_⟩
     ·rw[←I,List.map_map]
      congr 1
      refine List.map_congr_left fun n Z=>?_
      simp only[Function.comp];cases (if n∈aW f then q.lookup n else none)<;>rfl
     have h'':i<H.length:=by simpa using h'
     have O:(if j.outs[i]∈aW f then q.lookup j.outs[i] else none)=some H[i]:=M i h h'';show Option.map _ (if j.outs[i]∈aW f then q.lookup j.outs[i] else none)=_;rw[O,Option.map_some,List.getElem_map]
    show Option.map _ (if n∈aW f then q.lookup n else none)=none;rw[if_neg Z];rfl
   obtain ⟨m2,l2,e1,_,_,_,e2,_⟩:=sT c1 V c3 hC;rw[hc] at e1;injection e1 with e1;subst e1;intro x hx;have J:x.src∈aW f:=V.src x hx;have hr:∃ t,q.lookup x.src=some t∧ak t=true:=by
    unfold aW at J;rcases List.mem_append.1 J with J|J
    ·obtain ⟨y,hy,e⟩:=List.mem_map.1 J
     obtain ⟨t,N,M,I,O⟩:=U.ins y hy;have hm:y.name∈aW f:=by unfold aW;exact List.mem_append_left _ (List.mem_map.2 ⟨y,hy,rfl⟩)
     have g4':(if y.name∈aW f then q.lookup y.name else none)=some t:=O;rw[if_pos hm] at g4';exact ⟨t,e ▸ g4',I⟩
    obtain ⟨j,hj,Z⟩:=List.mem_flatMap.1 J;obtain ⟨i,hi,e⟩:=List.getElem_of_mem Z;obtain ⟨H,N,M⟩:=U.jobs j hj;have hi':i<H.length:=by rw[pt N];exact hi
    have hm:j.outs[i]∈aW f:=by unfold aW;exact List.mem_append_right _ (List.mem_flatMap.2 ⟨_,hj,Fs hi⟩)
    have I:(if j.outs[i]∈aW f then q.lookup j.outs[i] else none)=some H[i]:=M i hi hi';rw[if_pos hm] at I;exact ⟨H[i],e ▸ I,ua N _ (Fs hi')⟩
   obtain ⟨t,ht,ad⟩:=hr;refine ⟨t,?_,ad,?_⟩
   ·rw[←D,wa V.told x hx]
    unfold getT;rw[ht];rfl
   have h5:=e2 x.src;rw[if_pos J,ht,Option.map_some] at h5;unfold dM;rw[h5];rfl
end
end Go.Proofs.YtecpeogejjibaaaGreatDoor
