/- The reference's Check. -/
import Derived.Test.YtpagiajlefejcaaGreatDoorPfiM8
import Derived.Test.YtpagiajlefejcaaGreatDoorPfiM15
import Derived.Test.YtpagiajlefejcaaGreatDoorPfiM11
import Derived.Test.YtpagiajlefejcaaGreatDoorPfiM6
import Derived.Deep.CutRange
import Derived.Deep.CutBlock
set_option linter.unusedSimpArgs false
set_option linter.unusedVariables false
set_option maxRecDepth 100000
set_option maxHeartbeats 16000000
namespace Go.Proofs.YtpagiajlefejcaaGreatDoor
open Go.Lib renaming hid → zx
open Go.Proofs.Tryz renaming prog → zy
open _root_.Nat renaming le_refl → zz, le_trans → zA, zero_le → zE
open Go.World renaming block_lt_of_cell? → zB, news_of_block → zJ
open _root_.List renaming mem_singleton → zD, length_append → zF, length_cons → zG, getElem_mem → zH, getElem?_eq_getElem → zI
open aa renaming refl → zN
open ap renaming new → zO
open Go.Value renaming string → zQ, slice → zR, int → zW
open Go.Ending renaming returned → zT
open Go.Obj renaming cells → zU
open Go.IntKind renaming i64 → zX
section
open Go.RowKit Go.BigFrame
attribute [local go_sem] ag ab ae af
structure eH (w:World) (X b:Nat) (fl:Array Value) (mv:List (Bs×Value)) (m:Cm) (W:World):Prop where
 k:aa [] w W
 fb:ap W X 79 fl
 qb:ap W (X+1) 47 #[zW zX 0,zW zX 0]
 mp:cz zy 9 W b mv
 cv:jo W mv m
 hx:w.heap.size≤X
 hb:b=X+2
section
variable {w W W':World} {X b bm k:Nat} {fl:Array Value} {mv:List (Bs×Value)} {m:Cm} {s:List Bs} {n:Bs}
theorem eH.keep (h:eH w X b fl mv m W) (A:aa [] W W'):eH w X b fl mv m W' :=
 ⟨h.k.trans A,h.fb.keep A (by simp),h.qb.keep A (by simp),h.mp.keep A (by simp),h.cv.keep A,h.hx,h.hb⟩
theorem eH.side (h:eH w X b fl mv m W) {J:Array MapEntry} {cl:Nat} (D:W.heap[bm]? = some (.map J cl)) (M:b<bm) (A:aa [bm] W W'):eH w X b fl mv m W':=by
 have U:=h.hx;have O:=h.hb;exact ⟨h.k.trans' A (fun x B I=>by rw[zD.1 B] at I;omega),h.fb.keep A (by simp;omega),h.qb.keep A (by simp;omega),h.mp.keep A (by simp;omega),h.cv.keepM D A,U,O⟩
theorem eH.err (h:eH w X b fl mv m W):W.cell? ⟨X+1,0,none⟩=some (zW zX 0)∧W.cell? ⟨X+1,1,none⟩=some (zW zX 0)∧W.frozen? ⟨X+1,0,none⟩=false∧W.frozen? ⟨X+1,1,none⟩=false∧Hid (∀ A B,ap ((W.drew.setCell ⟨X+1,0,none⟩ A).setCell ⟨X+1,1,none⟩ B) (X+1) 47 #[A,B]∧aa [] w ((W.drew.setCell ⟨X+1,0,none⟩ A).setCell ⟨X+1,1,none⟩ B)) :=
 ⟨h.qb.cell 0,h.qb.cell 1,h.qb.frozen 0,h.qb.frozen 1,zx fun A B=>ox h.qb.drew h.k.drew (Nat.le_succ_of_le h.hx) A B⟩
theorem eH.put (h:eH w X b fl mv m W) {v:Value} {c:List Cl} (J:e8 W v c) (O:cz zy 9 W' b ((n,v)::mv)) (A:aa [b] W W'):eH w X b fl ((n,v)::mv) ((n,c)::m) W':=by
 obtain ⟨Z,cl,I⟩:=h.mp.isM;have U:=h.hx;have D:=h.hb;exact ⟨h.k.trans' A (fun x B M=>by rw[zD.1 B] at M;omega),h.fb.keep A (by simp;omega),h.qb.keep A (by simp;omega),O,⟨rfl,J.keepM I A,h.cv.keepM I A⟩,U,D⟩
theorem e8.keepF {Y:Nat} {i j:Int} {v:Value} {l:List Cl} (hb:ap W Y 47 #[zW zX i,zW zX j]) (J:aa [Y] W W') (h:e8 W v l):e8 W' v l:=by
 obtain ⟨h0,A,c,h1,Z,I⟩:=h;refine ⟨h0,A,c,h1,Z,I.1,fun U=>?_⟩;obtain ⟨ad,e,e1,e2,e3⟩:=I.2 U;obtain ⟨b2,O,B,_,_,h4⟩:=Rd.open' I U (by decide);rw[e] at B;injection B with B;subst B;have D:b2≠Y:=fun hh=>by
  subst hh;have M:=h4 0 _ (al l 0 (by omega)).1;rw[hb.cell] at M;rcases O with _|_|O<;>simp at M
 exact ⟨_,e,e1,Nat.lt_of_lt_of_le e2 J.size,fun j u hu=>(J.cell (by rw[dt];exact e2) (by rw[dt];simpa using D)).trans (e3 j u hu)⟩
theorem jo.keepF {Y:Nat} {i j:Int} (B:ap W Y 47 #[zW zX i,zW zX j]) (A:aa [Y] W W'):∀ {mv:List (Bs×Value)} {m:Cm},jo W mv m→jo W' mv m
 | [],[],_=>trivial
 | _::_,_::_,h=>⟨h.1,h.2.1.keepF B A,jo.keepF B A h.2.2⟩
theorem cX.isM {c:Bs→Nat} (h:cX W bm k c):∃ B cl,W.heap[bm]? = some (.map B cl):=by
 obtain ⟨mv,A,_⟩:=h;exact A.isM
theorem qL (I:cX W bm k (eM s)) (U:n.length≤1000) (J:k≤1000000) (O:n∉s) :
  (Instr.lookup 116 (.map (some bm)) (zQ (bs n)) false).run zy W= .ok (zW zX 0) W∧∃ W',(Instr.mapUpdate 116 (.map (some bm)) (zQ (bs n)) (zW zX 1)).run zy W= .ok () W'∧cX W' bm (k+1) (eM (n::s))∧(Instr.lookup 116 (.map (some bm)) (zQ (bs n)) false).run zy W'= .ok (zW zX 1) W'∧aa [bm] W W':=by
 have B:=I.look n (by omega);rw[oe O] at B;obtain ⟨W',M,A,h⟩:=I.put n (by omega) J 1;rw[si] at A;have D:=A.look n (by omega);rw[od (List.mem_cons_self ..)] at D;exact ⟨B,W',M,A,D,(zN [bm] W).grown h (fun g h=> .inl (by injection h with h;simp[h]))⟩
theorem qM (D:cX W bm k (eM s)) (U:n.length≤1000) (I:k≤1000000) (O:n∈s) :
  (Instr.lookup 116 (.map (some bm)) (zQ (bs n)) false).run zy W= .ok (zW zX 1) W∧∃ W',(Instr.mapUpdate 116 (.map (some bm)) (zQ (bs n)) (zW zX 2)).run zy W= .ok () W'∧(Instr.lookup 116 (.map (some bm)) (zQ (bs n)) false).run zy W'= .ok (zW zX 2) W'∧aa [bm] W W':=by
 have A:=D.look n (by omega);rw[od O] at A;obtain ⟨W',M,J,h⟩:=D.put n (by omega) I 2;have B:=J.look n (by omega);rw[if_pos rfl] at B;exact ⟨A,W',M,B,(zN [bm] W).grown h (fun g h=> .inl (by injection h with h;simp[h]))⟩
theorem wO (A:cX W bm k (eM s)) (D:n.length≤1000) (B:n∈s):(Instr.lookup 116 (.map (some bm)) (zQ (bs n)) false).run zy W= .ok (zW zX 1) W:=by
 have h:=A.look n (by omega);rw[od B] at h;exact h
theorem wP (A:cX W bm k (eM s)) (D:n.length≤1000) (B:n∉s):(Instr.lookup 116 (.map (some bm)) (zQ (bs n)) false).run zy W= .ok (zW zX 0) W:=by
 have h:=A.look n (by omega);rw[oe B] at h;exact h
theorem cX.zero (w:World):cX (w.alloc (.map #[] 0)) w.heap.size 0 (eM []):=by
 have h:=cX.made w;have e:(fun _:Bs=>0)=eM []:=by funext x;exact (oe (by simp)).symm
 rwa [e] at h
end
def wu (f:Fl) (M:Cm):Except (Int×Int) Cm:=dl (bO f) fun l=>cR f l M
def yT (f:Fl) (M:Cm) (s:List Bs):Except (Int×Int) Cm:=dl (bu s f.outs []) fun _=>wu f M
def ym (f:Fl) (M:Cm) (s:List Bs):Except (Int×Int) Cm:=dl (aV s f.jobs) fun _=>yT f M s
def zm (f:Fl) (M:Cm) (s:List Bs):Except (Int×Int) Cm:=dl (aK (aZ f.jobs) s) (ym f M)
def yV (f:Fl) (M:Cm):Except (Int×Int) Cm:=dl (aK (f.ins.map fun x=>(x.name,x.at_)) []) (zm f M)
def ww (R:Except (Int×Int) Cm) (h:Nat) (e:Ending) (w':World):Prop:=match R with
 | .ok m=>∃ b mv,e=zT (.tuple #[.map (some b),sR (0,-1)])∧cz zy 9 w' b mv∧jo w' mv m∧h≤b
 | .error x=>e=zT (.tuple #[.map none,sR x])
theorem qN (f:Fl) (v0 v1 v2:Value) (w:World) (hF:iw w v0 v1 v2 f) (hS:gS f) (hJ:tL f) (hE:gH w) (g1:∀ x∈f.ins,x.cols.length≤1000000∧∀ c∈x.cols,c.name.length≤1000000) :
  Calls zy 39 #[.agg #[v0,v1,v2]] w fun e w'=>ww (eg f) w.heap.size e w'∧aa [] w w':=by
 have q8:= @run_makeMap zy;obtain ⟨i0,mB,ni,mY,m9⟩:=info_parts tH;obtain ⟨R,hR⟩:∃ R,eg f=R:=⟨_,rfl⟩
 rw[hR];rw[og] at hR;have HF:=zx hF;obtain ⟨q5,A0,c0,rfl,o3,hw⟩:=hF.i0;obtain ⟨pg,A1,c1,rfl,pe,hB⟩:=hF.i1;obtain ⟨g0,A2,c2,rfl,q3,hG⟩:=hF.i2;have H0:=zx hw;have H1:=zx hB;have H2:=zx hG;have HR:=zx hR;have HS:=zx hS;have na:=zx hJ;have HE:=zx hE;have HCL:=zx g1;have f7:eH w w.heap.size (w.heap.size+2) #[zR A0 f.ins.length c0,zR A1 f.jobs.length c1,zR A2 f.outs.length c2] [] [] (((w.alloc (zU #[zR A0 f.ins.length c0,zR A1 f.jobs.length c1,zR A2 f.outs.length c2] 79)).alloc (zU #[zW zX 0,zW zX 0] 47)).alloc (.map #[] 0)):=by
  have hm:=cz.made (P:=zy) (S:=9) ((w.alloc (zU #[zR A0 f.ins.length c0,zR A1 f.jobs.length c1,zR A2 f.outs.length c2] 79)).alloc (zU #[zW zX 0,zW zX 0] 47));rw[gh,gh] at hm;have hq:=zO (w.alloc (zU #[zR A0 f.ins.length c0,zR A1 f.jobs.length c1,zR A2 f.outs.length c2] 79)) 47 #[zW zX 0,zW zX 0];rw[gh] at hq;exact ⟨(((zN _ _).alloc _).alloc _).alloc _,((zO _ _ _).alloc _).alloc _,hq.alloc _,hm,trivial,zz _,rfl⟩
 have cq:=zx f7;have en:=hS.all;unfold cG at en;rw[zF,List.length_map] at en;have hO:=zx en;have pb:f.ins.length≤100000:=by omega
 clear hF hR hS hJ hw hB hG f7 hE g1 en;obtain ⟨X,hX⟩:∃ X,w.heap.size=X:=⟨_,rfl⟩
 go_enter Tryz.func39,Tryz.ntmps39
 go_upto_block 0 with (fail)
 rw[hX] at cq;generalize (((w.alloc (zU #[zR A0 f.ins.length c0,zR A1 f.jobs.length c1,zR A2 f.outs.length c2] 79)).alloc (zU #[zW zX 0,zW zX 0] 47)).alloc (.map #[] 0))=y0 at cq ⊢;generalize kl:X+2=b at cq ⊢;have p5:=zx kl;have o1:=zx hX;clear kl hX;go_cut [6] from 37 to 49 (fun _ wx=>Hid (eH w X b #[zR A0 f.ins.length c0,zR A1 f.jobs.length c1,zR A2 f.outs.length c2] [] [] wx)∧Hid (∀ x∈f.ins,cN x.cols=true)∧Hid (yV f (oa f.ins [])=R))
 case first =>
  as_aux_lemma =>
   have p0:y0.cell? ⟨X,0,none⟩=some (zR A0 f.ins.length c0):=cq.out.fb.cell 0;have pl:=cq.out.fb.lt;go_wp2_with fail
   clear p0 pl;go_loopw [37] (fun i wr=>∃ (j:Nat) (m:Cm),j≤f.ins.length∧i=zW zX j∧Hid (eH w X b #[zR A0 f.ins.length c0,zR A1 f.jobs.length c1,zR A2 f.outs.length c2] [] [] wr)∧Hid (∀ i (h:i<f.ins.length),i<j→cN f.ins[i].cols=true)∧Hid (oa (f.ins.drop j) m=oa f.ins [])∧Hid (dl (f9 (f.ins.drop j) m) (yV f)=R)) (fun i _=>f.ins.length-(intOf i).toNat)
   case atStart=>exact ⟨0,[],zE _,rfl,cq,zx (fun i _ h=>absurd h (by omega)),zx rfl,HR⟩
   clear cq HR;obtain ⟨j,m,hj,rfl,D,et,c8,HG⟩:=hrel;obtain ⟨wj,rfl⟩:∃ z:World,z=wr:=⟨_,rfl⟩
   by_cases a0:j<f.ins.length
   ·have b0:(j:Int)<(f.ins.length:Int):=by omega
    obtain ⟨g,cs,rfl,hg,-,⟨vc,rfl,⟨g1,Ac,cc,rfl,kd,cx⟩⟩,hc⟩:=H0.out j a0;have d0:=D.out.k.cell_of (hc 0 _ rfl) (by simp);have d1:=D.out.k.cell_of (hc 1 _ rfl) (by simp);have d2:=D.out.k.cell_of (hc 2 _ rfl) (by simp);rw[Nat.add_zero] at d0;have ho:=HCL.out _ (zH a0);have I:=HG.out;rw[List.drop_eq_getElem_cons a0,jD] at I;have a2:=c8.out;rw[List.drop_eq_getElem_cons a0,nq] at a2;have gs:Hid (cN f.ins[j].cols=true→∀ i (h:i<f.ins.length),i<j+1→cN f.ins[i].cols=true):=zx (fun hh i h hi=>by
     by_cases e:i<j
     ·exact et.out i h e
     obtain rfl:i=j:=by omega
     exact hh)
    obtain ⟨x,hx⟩:∃ x,f.ins[j]=x:=⟨_,rfl⟩
    rw[hx] at d0 d1 d2 I a2 g1 kd cx ho gs;have a1:=zx I;have fz:=zx a2;have HC:Hid (∀ W,aa [] wj W→Calls zy 11 #[zR Ac x.cols.length cc] W fun e w'=>e=zT (.bool (cN x.cols))∧aa [] W w'):=zx fun W z=>ma x.cols Ac cc W (cx.keep (D.out.k.trans z)) ho.2 ho.1
    clear I a2 hx hc cx ho et c8 HG
    cases a9:cN x.cols with
    | true =>
     have aA:Hid (dl (f9 (f.ins.drop (j+1)) ((x.name,x.cols)::m)) (yV f)=R):=zx (by
      have:=a1.out;rw[if_pos a9] at this;exact this)
     have gw:=zx (gs.out a9);rw[a9] at HC;clear a9 gs;go_wp2_with fail
     refine (HC.out _ ((zN _ _).alloc _)).mono ?_;rintro e w5 ⟨rfl,k5⟩;have h8:=zx (D.out.keep (((zN _ _).alloc (zU #[zW zX x.at_,zQ (bs x.name),zR Ac x.cols.length cc] 173)).trans k5));clear k5;go_wp2;go_roundw
     case rel=>exact ⟨j+1,_,by omega,by go_num,h8,gw,fz,aA⟩
     case measure=>simp[intOf];omega
    | false =>
     have a4:Hid (R= .error (3,x.at_)):=zx (by
      have:=a1.out;rw[a9] at this;exact this.symm)
     rw[a9] at HC;clear a9;go_wp2_with fail
     refine (HC.out _ ((zN _ _).alloc _)).mono ?_;rintro e w5 ⟨rfl,k5⟩;have b5:=(zO wj 173 #[zW zX x.at_,zQ (bs x.name),zR Ac x.cols.length cc]).keep k5 (by simp);have e0:w5.cell? ⟨wj.heap.size,0,none⟩=some (zW zX x.at_):=b5.cell 0;have el:=b5.lt;have h8:=zx (D.out.keep (((zN _ _).alloc (zU #[zW zX x.at_,zQ (bs x.name),zR Ac x.cols.length cc] 173)).trans k5));clear b5 k5;obtain ⟨z0,z1,f0,f1,A⟩:=h8.out.err;go_wp2_with fail
     go_region
     all_goals
      go_wp2
      (try simp only[Exit.inBlock,Exit.then])
      refine bodyPost_ret (bH rfl _ _ (X+1) _ _ _ rfl (A.out _ _).1 Tryz.underlying47 rfl (by kernel_rfl)) rfl ?_;exact ⟨by rw[a4.out];rfl,(A.out _ _).2⟩
   have b0:¬(j:Int)<(f.ins.length:Int):=by omega
   have aA:Hid (yV f (oa f.ins [])=R):=zx (by
    have h1:=HG.out;have h2:=c8.out;rw[List.drop_of_length_le (by omega)] at h1 h2;rw[←h2];exact h1)
   have gw:Hid (∀ x∈f.ins,cN x.cols=true):=zx (fun x hx=>by
    obtain ⟨i,hi,rfl⟩:=List.mem_iff_getElem.1 hx;exact et.out i hi (by omega))
   go_wp2;go_meet
   case rel=>exact ⟨D,gw,aA⟩
 obtain ⟨f5,et,g6⟩:=hcut;obtain ⟨y1,rfl⟩:∃ z:World,z=wc:=⟨_,rfl⟩
 clear cq HR;obtain ⟨MI,hP⟩:∃ M,oa f.ins []=M:=⟨_,rfl⟩
 rw[hP] at g6;have mb:=zx hP;have hc0':=cX.zero y1;have c7:b<y1.heap.size:=f5.out.mp.lt;have bj:=zx (f5.out.keep ((zN _ _).alloc (.map #[] 0)));clear hP;have p0:y1.cell? ⟨X,0,none⟩=some (zR A0 f.ins.length c0):=f5.out.fb.cell 0;have pl:=f5.out.fb.lt;go_upto_block 2 with (fail)
 clear p0 pl;obtain ⟨bm,hA⟩:∃ z,y1.heap.size=z:=⟨_,rfl⟩
 rw[hA] at hc0' c7 ⊢;generalize y1.alloc (.map #[] 0)=y2 at bj hc0' ⊢;have h7:=zx hc0';have c6:=zx c7;clear hc0' c7 hA f5;go_cut [9] from 53 to 76 (fun _ wx=>∃ (mv:List (Bs×Value)) (s:List Bs),s.length≤f.ins.length∧Hid (eH w X b #[zR A0 f.ins.length c0,zR A1 f.jobs.length c1,zR A2 f.outs.length c2] mv MI wx)∧Hid (cX wx bm s.length (eM s))∧Hid (n9 MI)∧MI.length≤f.ins.length∧Hid (dl (aK (aZ f.jobs) s) (ym f MI)=R))
 case first =>
  as_aux_lemma =>
   have p0:y2.cell? ⟨X,0,none⟩=some (zR A0 f.ins.length c0):=bj.out.fb.cell 0;have pl:=bj.out.fb.lt;go_wp2_with fail
   clear p0 pl;go_loopw [53] (fun i wr=>∃ (j:Nat) (mv:List (Bs×Value)) (m:Cm) (s:List Bs),j≤f.ins.length∧i=zW zX j∧s.length≤j∧m.length≤j∧Hid (n9 m)∧Hid (eH w X b #[zR A0 f.ins.length c0,zR A1 f.jobs.length c1,zR A2 f.outs.length c2] mv m wr)∧Hid (cX wr bm s.length (eM s))∧Hid (oa (f.ins.drop j) m=MI)∧Hid (dl (aK ((f.ins.map fun x=>(x.name,x.at_)).drop j) s) (zm f MI)=R)) (fun i _=>f.ins.length-(intOf i).toNat)
   case atStart=>exact ⟨0,[],[],[],zE _,rfl,zz _,zz _,zx (fun q hq=>by cases hq),bj,h7,mb,g6⟩
   clear bj h7 g6;obtain ⟨j,mv,m,s,hj,rfl,bn,nw,bd,D,HC,c8,HG⟩:=hrel;obtain ⟨wj,rfl⟩:∃ z:World,z=wr:=⟨_,rfl⟩
   by_cases a0:j<f.ins.length
   ·have b0:(j:Int)<(f.ins.length:Int):=by omega
    obtain ⟨g,cs,rfl,hg,-,⟨vc,rfl,ga⟩,hc⟩:=H0.out j a0;have fn:=ga;obtain ⟨g1,Ac,cc,rfl,kd,cx⟩:=ga;have d0:=D.out.k.cell_of (hc 0 _ rfl) (by simp);have d1:=D.out.k.cell_of (hc 1 _ rfl) (by simp);have d2:=D.out.k.cell_of (hc 2 _ rfl) (by simp);rw[Nat.add_zero] at d0;have hl:(f.ins[j]).name.length≤1000:=HS.out.names _ (by unfold cG;exact List.mem_append_left _ (List.mem_map.2 ⟨_,zH a0,rfl⟩));have a9:=nl.1 (et.out _ (zH a0));have f7:(f.ins.map fun x=>(x.name,x.at_)).drop j=(f.ins[j].name,f.ins[j].at_)::(f.ins.map fun x=>(x.name,x.at_)).drop (j+1):=by
     rw[List.drop_eq_getElem_cons (by simpa using a0),List.getElem_map]
    have I:=HG.out;rw[f7,dR] at I;have a2:=c8.out;rw[List.drop_eq_getElem_cons a0,nq] at a2;obtain ⟨x,hx⟩:∃ x,f.ins[j]=x:=⟨_,rfl⟩
    rw[hx] at d0 d1 d2 hl I a2 fn a9;have a1:=zx I;have fz:=zx a2;have ek:=zx (bd.out.put (n:=x.name) a9.2.1 a9.2.2.2);have bB:bm<wj.heap.size:=HC.out.lt;have ad:aa [] wj (wj.alloc (zU #[zW zX x.at_,zQ (bs x.name),zR Ac x.cols.length cc] 173)):=(zN _ _).alloc _;have bb:=zx (D.out.keep ad);have a5:=zx (HC.out.keep ad (by simp));have a8:ap (wj.alloc (zU #[zW zX x.at_,zQ (bs x.name),zR Ac x.cols.length cc] 173)) wj.heap.size 173 #[zW zX x.at_,zQ (bs x.name),zR Ac x.cols.length cc]:=zO _ _ _;have f3:=fn.keep (D.out.k.trans ad);clear f7 I a2 hx hc cx fn a9 c8 HG bd ad;by_cases O:x.name∈s
    ·obtain ⟨k1,W2,bq,k2,k3⟩:=qM a5.out hl (by omega) O
     have a4:Hid (R= .error (9,x.at_)):=zx (by
      have:=a1.out;rw[if_pos O] at this;exact this.symm)
     obtain ⟨es,cl,U⟩:=a5.out.isM;have bA:=zx (bb.out.side U c6.out k3);have Z:=a8.keep k3 (by simp;omega);have e0:W2.cell? ⟨wj.heap.size,0,none⟩=some (zW zX x.at_):=Z.cell 0;have e1:W2.cell? ⟨wj.heap.size,1,none⟩=some (zQ (bs x.name)):=Z.cell 1;have el:=Z.lt;clear O k3 U Z a8 bB f3;obtain ⟨z0,z1,f0,f1,A⟩:=bA.out.err;go_wp2_with fail
     go_region
     all_goals
      go_wp2
      (try simp only[Exit.inBlock,Exit.then])
      refine bodyPost_ret (bH rfl _ _ (X+1) _ _ _ rfl (A.out _ _).1 Tryz.underlying47 rfl (by kernel_rfl)) rfl ?_;exact ⟨by rw[a4.out];rfl,(A.out _ _).2⟩
    obtain ⟨k1,W2,bq,a3,k2,k3⟩:=qL a5.out hl (by omega) O;have aA:Hid (dl (aK ((f.ins.map fun x=>(x.name,x.at_)).drop (j+1)) (x.name::s)) (zm f MI)=R):=zx (by
     have:=a1.out;rw[if_neg O] at this;exact this)
    obtain ⟨es,cl,U⟩:=a5.out.isM;have g0:=bb.out.side U c6.out k3;have Z:=a8.keep k3 (by simp;omega);have e1:W2.cell? ⟨wj.heap.size,1,none⟩=some (zQ (bs x.name)):=Z.cell 1;have e2:W2.cell? ⟨wj.heap.size,2,none⟩=some (zR Ac x.cols.length cc):=Z.cell 2;have el:=Z.lt;obtain ⟨W3,m5,jc,lr⟩:=g0.mp.put x.name (zR Ac x.cols.length cc) hl (by rw[g0.cv.len];omega);have i5:aa [b] W2 W3:=(zN [b] _).grown lr (fun g hg=> .inl (by injection hg with hg;simp[hg]));have m6:=zx (g0.put (f3.keepM U k3) jc i5);have ie:Hid (cX W3 bm (x.name::s).length (eM (x.name::s))):=zx (a3.keep i5 (by have:=c6.out;simp;omega));clear O k3 U Z a8 bB f3 g0 jc lr i5 a3;go_wp2_with fail
    go_roundw
    case rel=>exact ⟨j+1,_,_,x.name::s,by omega,by go_num,by simp only[zG];omega,by simp only[zG];omega,ek,m6,ie,fz,aA⟩
    case measure=>simp[intOf];omega
   have b0:¬(j:Int)<(f.ins.length:Int):=by omega
   have m2:m=MI:=by
    have:=c8.out;rw[List.drop_of_length_le (by omega)] at this;exact this
   have aA:Hid (dl (aK (aZ f.jobs) s) (ym f MI)=R):=zx (by
    have:=HG.out;rw[List.drop_of_length_le (by simp;omega)] at this;exact this)
   subst m2;go_wp2;go_meet
   case rel=>exact ⟨mv,s,by omega,D,HC,bd,by omega,aA⟩
 obtain ⟨mv,s,bn,D,HC,bd,l4,HG⟩:=hcut;obtain ⟨y3,rfl⟩:∃ z:World,z=wc:=⟨_,rfl⟩
 clear bj h7 g6 mb et;have p1:y3.cell? ⟨X,1,none⟩=some (zR A1 f.jobs.length c1):=D.out.fb.cell 1;have pl:=D.out.fb.lt;go_upto_block 4 with (fail)
 clear p1 pl;go_cut [11,13] from 79 to 103 (fun _ _ wx=>∃ s:List Bs,s.length≤100000∧Hid ((f.jobs.flatMap (·.outs)).Nodup)∧Hid (eH w X b #[zR A0 f.ins.length c0,zR A1 f.jobs.length c1,zR A2 f.outs.length c2] mv MI wx)∧Hid (cX wx bm s.length (eM s))∧Hid (dl (aV s f.jobs) (fun _=>yT f MI s)=R))
 case first =>
  as_aux_lemma =>
   go_wp2_with fail
   go_loopw [79] (fun i wr=>∃ (j:Nat) (s:List Bs),j≤f.jobs.length∧i=zW zX j∧s.length+((f.jobs.drop j).flatMap (·.outs)).length≤100000∧Hid (eH w X b #[zR A0 f.ins.length c0,zR A1 f.jobs.length c1,zR A2 f.outs.length c2] mv MI wr)∧Hid (cX wr bm s.length (eM s))∧Hid (∃ s0,aK (aZ f.jobs) s0=aK (aZ (f.jobs.drop j)) s)∧Hid (dl (aK (aZ (f.jobs.drop j)) s) (ym f MI)=R)) (fun i _=>f.jobs.length-(intOf i).toNat)
   case atStart=>exact ⟨0,s,zE _,rfl,by rw[List.drop_zero];have:=hO.out;omega,D,HC,zx ⟨s,rfl⟩,HG⟩
   clear D HC HG bn;obtain ⟨j,s,hj,rfl,bn,D,HC,HQ,HG⟩:=hrel;obtain ⟨wj,rfl⟩:∃ z:World,z=wr:=⟨_,rfl⟩
   by_cases a0:j<f.jobs.length
   ·have b0:(j:Int)<(f.jobs.length:Int):=by omega
    obtain ⟨g,cs,rfl,hg,-,⟨_,_,_,rfl,⟨fc,B2,e2,rfl,ff,bk⟩,⟨-,B3,e3,rfl,-,-⟩,⟨-,B4,e4,rfl,-,-⟩⟩,hc⟩:=H1.out j a0;obtain ⟨d0,d1,d2,d3,d4,d5,d6,d7,d8,d9,c4,cf,cp,b4,c3⟩:=yU (fun k u h=>D.out.k.cell_of (hc k u h) (by simp));have ba:∀ n∈f.jobs[j].outs,n.length≤1000:=fun n hn=>HS.out.names n (by unfold cG;exact List.mem_append_right _ (List.mem_flatMap.2 ⟨_,zH a0,hn⟩))
    have I:=HG.out;rw[List.drop_eq_getElem_cons a0] at I bn;rw[gU] at I;have b1:=HQ.out;rw[List.drop_eq_getElem_cons a0,gU] at b1;rw[List.flatMap_cons,zF] at bn;obtain ⟨x,hx⟩:∃ x,f.jobs[j]=x:=⟨_,rfl⟩
    rw[hx] at d0 d1 d2 d3 d4 d5 d6 d7 d8 d9 c4 cf cp b4 c3 ba I b1 bn fc ff bk;have a1:=zx I;have hr:=zx b1;have e5:=zx bk;have ft:=zx ba;have ad:aa [] wj (wj.alloc (zU (jC x B2 e2 B3 e3 B4 e4) 59)):=(zN _ _).alloc _;have bb:=zx (D.out.keep ad);have a5:=zx (HC.out.keep ad (by simp));have J:=zx (zO wj 59 (jC x B2 e2 B3 e3 B4 e4));have bB:bm<wj.heap.size:=HC.out.lt;clear I b1 hx hc bk ba ad D HC HG HQ;go_upto_block 6 with (fail)
    generalize fS:wj.alloc (zU (jC x B2 e2 B3 e3 B4 e4) 59)=y4 at *;generalize fv:wj.heap.size=xb at *;have km:=zx (show xb≠bm by omega);have p2:y4.cell? ⟨xb,2,none⟩=some (zR B2 x.outs.length e2):=J.out.cell 2;have pl:=J.out.lt;clear fS fv d0 d1 d2 d3 d4 d5 d6 d7 d8 d9 c4 cf cp b4 c3 bB;go_wp2_with fail
    clear p2 pl;go_loopw [86] (fun i wr=>∃ (k:Nat) (s:List Bs),k≤x.outs.length∧i=zW zX k∧s.length+(x.outs.length-k)+((f.jobs.drop (j+1)).flatMap (·.outs)).length≤100000∧Hid (eH w X b #[zR A0 f.ins.length c0,zR (some ⟨g,0,none⟩) f.jobs.length c1,zR A2 f.outs.length c2] mv MI wr)∧Hid (cX wr bm s.length (eM s))∧Hid (ap wr xb 59 (jC x B2 e2 B3 e3 B4 e4))∧Hid (∃ s0,aK (aZ f.jobs) s0=aK ((x.outs.map fun n=>(n,x.at_)).drop k++aZ (f.jobs.drop (j+1))) s)∧Hid (dl (aK ((x.outs.map fun n=>(n,x.at_)).drop k++aZ (f.jobs.drop (j+1))) s) (ym f MI)=R)) (fun i _=>x.outs.length-(intOf i).toNat)
    case atStart=>exact ⟨0,s,zE _,rfl,by omega,bb,a5,J,hr,a1⟩
    clear bb a5 J a1 hr bn;obtain ⟨k,s,hk,rfl,bn,D,HC,J,HQ,HG⟩:=hrel;obtain ⟨wm,rfl⟩:∃ z:World,z=wr:=⟨_,rfl⟩
    by_cases ci:k<x.outs.length
    ·have g3:(k:Int)<(x.outs.length:Int):=by omega
     obtain ⟨bo,oo,rfl,-,nv,dv⟩:=(e5.out.keep D.out.k).open' (by omega) (by omega);have q0:=dv k _ (b9 x.outs k ci);have a6:=ft.out _ (zH ci);have I:=HG.out;rw[List.drop_eq_getElem_cons (by simpa using ci),List.getElem_map,List.cons_append,dR] at I;have b1:=HQ.out;rw[List.drop_eq_getElem_cons (by simpa using ci),List.getElem_map,List.cons_append,dR] at b1;obtain ⟨n,hn⟩:∃ n,x.outs[k]=n:=⟨_,rfl⟩
     rw[hn] at q0 a6 I b1;have a1:=zx I;have hr:=zx b1;clear dv I b1 hn HG HQ;by_cases O:n∈s
     ·obtain ⟨k1,W2,bq,k2,k3⟩:=qM HC.out a6 (by omega) O
      have a4:Hid (R= .error (9,x.at_)):=zx (by
       have:=a1.out;rw[if_pos O] at this;exact this.symm)
      obtain ⟨es,cl,U⟩:=HC.out.isM;have bA:=zx (D.out.side U c6.out k3);have Z:=J.out.keep k3 (by simpa using km.out);have e0:W2.cell? ⟨xb,0,none⟩=some (zW zX x.at_):=Z.cell 0;have el:=Z.lt;clear O k3 U Z;obtain ⟨z0,z1,f0,f1,A⟩:=bA.out.err;go_wp2_with fail
      go_region
      all_goals
       go_wp2
       (try simp only[Exit.inBlock,Exit.then])
       refine bodyPost_ret (bH rfl _ _ (X+1) _ _ _ rfl (A.out _ _).1 Tryz.underlying47 rfl (by kernel_rfl)) rfl ?_;exact ⟨by rw[a4.out];rfl,(A.out _ _).2⟩
     obtain ⟨k1,W2,bq,a3,k2,k3⟩:=qL HC.out a6 (by omega) O;have aA:Hid (dl (aK ((x.outs.map fun n=>(n,x.at_)).drop (k+1)++aZ (f.jobs.drop (j+1))) (n::s)) (ym f MI)=R):=zx (by
      have:=a1.out;rw[if_neg O] at this;exact this)
     obtain ⟨es,cl,U⟩:=HC.out.isM;have bA:=zx (D.out.side U c6.out k3);have m8:=zx (J.out.keep k3 (by simpa using km.out));have i4:Hid (∃ s0,aK (aZ f.jobs) s0=aK ((x.outs.map fun n=>(n,x.at_)).drop (k+1)++aZ (f.jobs.drop (j+1))) (n::s)):=zx (by
      have:=hr.out;rw[if_neg O] at this;exact this)
     have ih:Hid (cX W2 bm (n::s).length (eM (n::s))):=zx a3;clear O k3 U a3;go_wp2_with fail
     go_roundw
     case rel=>exact ⟨k+1,n::s,by omega,by go_num,by simp only[zG];omega,bA,ih,m8,i4,aA⟩
     case measure=>simp[intOf];omega
    have g3:¬(k:Int)<(x.outs.length:Int):=by omega
    have aA:Hid (dl (aK (aZ (f.jobs.drop (j+1))) s) (ym f MI)=R):=zx (by
     have:=HG.out;rw[List.drop_of_length_le (by simp;omega)] at this;exact this)
    have i4:Hid (∃ s0,aK (aZ f.jobs) s0=aK (aZ (f.jobs.drop (j+1))) s):=zx (by
     have:=HQ.out;rw[List.drop_of_length_le (l:=x.outs.map fun n=>(n,x.at_)) (by simp;omega)] at this;exact this)
    go_wp2;go_roundw
    case rel=>exact ⟨j+1,s,by omega,by go_num,by omega,D,HC,i4,aA⟩
    case measure=>simp[intOf];omega
   have b0:¬(j:Int)<(f.jobs.length:Int):=by omega
   have aA:Hid (dl (aV s f.jobs) (fun _=>yT f MI s)=R):=zx (by
    have:=HG.out;rw[List.drop_of_length_le (by omega)] at this;exact this)
   have HU:Hid ((f.jobs.flatMap (·.outs)).Nodup):=zx (by
    obtain ⟨s0,h⟩:=HQ.out;rw[List.drop_of_length_le (by omega)] at h;rw[←gt];exact jF h)
   go_wp2;go_meet
   case rel=>exact ⟨s,by omega,HU,D,HC,aA⟩
 clear D HC HG bn;obtain ⟨s,bn,HU,D,HC,HG⟩:=hcut;obtain ⟨y5,rfl⟩:∃ z:World,z=wc:=⟨_,rfl⟩
 have p1:y5.cell? ⟨X,1,none⟩=some (zR A1 f.jobs.length c1):=D.out.fb.cell 1;have pl:=D.out.fb.lt;go_upto_block 8 with (fail)
 clear p1 pl;go_cut [15,17] from 106 to 126 (fun _ _ wx=>Hid (eH w X b #[zR A0 f.ins.length c0,zR A1 f.jobs.length c1,zR A2 f.outs.length c2] mv MI wx)∧Hid (cX wx bm s.length (eM s))∧Hid (dl (bu s f.outs []) (fun _=>wu f MI)=R))
 case first =>
  as_aux_lemma =>
   go_wp2_with fail
   go_loopw [106] (fun i wr=>∃ j:Nat,j≤f.jobs.length∧i=zW zX j∧Hid (eH w X b #[zR A0 f.ins.length c0,zR A1 f.jobs.length c1,zR A2 f.outs.length c2] mv MI wr)∧Hid (cX wr bm s.length (eM s))∧Hid (dl (aV s (f.jobs.drop j)) (fun _=>yT f MI s)=R)) (fun i _=>f.jobs.length-(intOf i).toNat)
   case atStart=>exact ⟨0,zE _,rfl,D,HC,HG⟩
   clear D HC HG;obtain ⟨j,hj,rfl,D,HC,HG⟩:=hrel;obtain ⟨wj,rfl⟩:∃ z:World,z=wr:=⟨_,rfl⟩
   by_cases a0:j<f.jobs.length
   ·have b0:(j:Int)<(f.jobs.length:Int):=by omega
    obtain ⟨g,cs,rfl,hg,-,⟨_,_,_,rfl,⟨-,B2,e2,rfl,-,-⟩,⟨fc,B3,e3,rfl,ff,bk⟩,⟨-,B4,e4,rfl,-,-⟩⟩,hc⟩:=H1.out j a0;obtain ⟨d0,d1,d2,d3,d4,d5,d6,d7,d8,d9,c4,cf,cp,b4,c3⟩:=yU (fun k u h=>D.out.k.cell_of (hc k u h) (by simp));have ba:∀ n∈f.jobs[j].ins,n.length≤1000:=fun n hn=>HS.out.ins _ (zH a0) n hn
    have I:=HG.out;rw[List.drop_eq_getElem_cons a0,gq] at I;obtain ⟨x,hx⟩:∃ x,f.jobs[j]=x:=⟨_,rfl⟩
    rw[hx] at d0 d1 d2 d3 d4 d5 d6 d7 d8 d9 c4 cf cp b4 c3 ba I fc ff bk;have a1:=zx I;have e5:=zx bk;have ft:=zx ba;have ad:aa [] wj (wj.alloc (zU (jC x B2 e2 B3 e3 B4 e4) 59)):=(zN _ _).alloc _;have bb:=zx (D.out.keep ad);have a5:=zx (HC.out.keep ad (by simp));have J:=zx (zO wj 59 (jC x B2 e2 B3 e3 B4 e4));clear I hx hc bk ba ad D HC HG;go_upto_block 10 with (fail)
    generalize fS:wj.alloc (zU (jC x B2 e2 B3 e3 B4 e4) 59)=y4 at *;generalize fv:wj.heap.size=xb at *;have p3:y4.cell? ⟨xb,3,none⟩=some (zR B3 x.ins.length e3):=J.out.cell 3;have pl:=J.out.lt;clear fS fv d0 d1 d2 d3 d4 d5 d6 d7 d8 d9 c4 cf cp b4 c3;go_wp2_with fail
    clear p3 pl;go_loopw [113] (fun i wr=>∃ k:Nat,k≤x.ins.length∧i=zW zX k∧Hid (∀ i (h:i<x.ins.length),i<k→x.ins[i]∈s)∧Hid (aa [] y4 wr)) (fun i _=>x.ins.length-(intOf i).toNat)
    case atStart=>exact ⟨0,zE _,rfl,zx (fun i _ h=>absurd h (by omega)),zx (zN _ _)⟩
    obtain ⟨k,hk,rfl,lx,hf⟩:=hrel;obtain ⟨wm,rfl⟩:∃ z:World,z=wr:=⟨_,rfl⟩
    have D:=zx (bb.out.keep hf.out);have HC:=zx (a5.out.keep hf.out (by simp));by_cases ci:k<x.ins.length
    ·have g3:(k:Int)<(x.ins.length:Int):=by omega
     obtain ⟨bo,oo,rfl,-,nv,dv⟩:=(e5.out.keep D.out.k).open' (by omega) (by omega);have q0:=dv k _ (b9 x.ins k ci);have a6:=ft.out _ (zH ci);have l0:=zx (zH ci);have f2:Hid (x.ins[k]∈s→∀ i (h:i<x.ins.length),i<k+1→x.ins[i]∈s):=zx (fun hh i h hi=>by
      by_cases e:i<k
      ·exact lx.out i h e
      obtain rfl:i=k:=by omega
      exact hh)
     obtain ⟨n,hn⟩:∃ n,x.ins[k]=n:=⟨_,rfl⟩
     rw[hn] at q0 a6 f2 l0;clear dv hn;by_cases O:n∈s
     ·have k1:=wO HC.out a6 O
      have j2:=zx (f2.out O);clear O f2;go_wp2;go_roundw
      case rel=>exact ⟨k+1,by omega,by go_num,j2,hf⟩
      case measure=>simp[intOf];omega
     have k1:=wP HC.out a6 O;have a4:Hid (R= .error (7,x.at_)):=zx (by
      have:=a1.out;rw[if_pos (by rw[List.any_eq_true];exact ⟨n,l0.out,by simpa using O⟩)] at this;exact this.symm)
     have Z:=J.out.keep hf.out (by simp);have e0:wm.cell? ⟨xb,0,none⟩=some (zW zX x.at_):=Z.cell 0;have el:=Z.lt;clear O Z;obtain ⟨z0,z1,f0,f1,A⟩:=D.out.err;go_wp2_with fail
     go_region
     all_goals
      go_wp2
      (try simp only[Exit.inBlock,Exit.then])
      refine bodyPost_ret (bH rfl _ _ (X+1) _ _ _ rfl (A.out _ _).1 Tryz.underlying47 rfl (by kernel_rfl)) rfl ?_;exact ⟨by rw[a4.out];rfl,(A.out _ _).2⟩
    have g3:¬(k:Int)<(x.ins.length:Int):=by omega
    have aA:Hid (dl (aV s (f.jobs.drop (j+1))) (fun _=>yT f MI s)=R):=zx (by
     have:=a1.out;rw[if_neg (by
      rw[Bool.not_eq_true,List.any_eq_false];intro n hn;obtain ⟨i,hi,rfl⟩:=List.mem_iff_getElem.1 hn;simpa using lx.out i hi (by omega))] at this
     exact this)
    go_wp2;go_roundw
    case rel=>exact ⟨j+1,by omega,by go_num,D,HC,aA⟩
    case measure=>simp[intOf];omega
   have b0:¬(j:Int)<(f.jobs.length:Int):=by omega
   have aA:Hid (dl (bu s f.outs []) (fun _=>wu f MI)=R):=zx (by
    have:=HG.out;rw[List.drop_of_length_le (by omega)] at this;exact this)
   go_wp2;go_meet
   case rel=>exact ⟨D,HC,aA⟩
 clear D HC HG;obtain ⟨D,HC,HG⟩:=hcut;obtain ⟨y6,rfl⟩:∃ z:World,z=wc:=⟨_,rfl⟩
 have p2:y6.cell? ⟨X,2,none⟩=some (zR A2 f.outs.length c2):=D.out.fb.cell 2;have pl:=D.out.fb.lt;have hc0':=cX.zero y6;have ir:bm<y6.heap.size:=HC.out.lt;have i3:aa [] y6 (y6.alloc (.map #[] 0)):=(zN _ _).alloc _;have bj:=zx (D.out.keep i3);have g4:=zx (HC.out.keep i3 (by simp));clear i3 D HC;go_upto_block 12 with (fail)
 clear p2 pl;obtain ⟨bt,hK⟩:∃ z,y6.heap.size=z:=⟨_,rfl⟩
 rw[hK] at hc0' ir ⊢;generalize y6.alloc (.map #[] 0)=y7 at bj g4 hc0' ⊢;have ic:=zx hc0';have hZ:=zx ir;clear hc0' ir hK;go_cut [20] from 130 to 156 (fun _ wx=>Hid (eH w X b #[zR A0 f.ins.length c0,zR A1 f.jobs.length c1,zR A2 f.outs.length c2] mv MI wx)∧Hid (wu f MI=R))
 case first =>
  as_aux_lemma =>
   have lq:=HS.out.outs;go_wp2_with fail
   go_loopw [130] (fun i wr=>∃ (j:Nat) (t:List Bs),j≤f.outs.length∧i=zW zX j∧t.length≤j∧Hid (eH w X b #[zR A0 f.ins.length c0,zR A1 f.jobs.length c1,zR A2 f.outs.length c2] mv MI wr)∧Hid (cX wr bm s.length (eM s))∧Hid (cX wr bt t.length (eM t))∧Hid (dl (bu s (f.outs.drop j) t) (fun _=>wu f MI)=R)) (fun i _=>f.outs.length-(intOf i).toNat)
   case atStart=>exact ⟨0,[],zE _,rfl,zz _,bj,g4,ic,HG⟩
   clear bj g4 ic HG;obtain ⟨j,t,hj,rfl,o5,D,HC,HT,HG⟩:=hrel;obtain ⟨wj,rfl⟩:∃ z:World,z=wr:=⟨_,rfl⟩
   by_cases a0:j<f.outs.length
   ·have b0:(j:Int)<(f.outs.length:Int):=by omega
    obtain ⟨g,cs,rfl,hg,-,mt,hc⟩:=H2.out j a0;obtain rfl:cs=_:=mt;have d0:=D.out.k.cell_of (hc 0 _ rfl) (by simp);have d1:=D.out.k.cell_of (hc 1 _ rfl) (by simp);have d2:=D.out.k.cell_of (hc 2 _ rfl) (by simp);rw[Nat.add_zero] at d0;have l1:=HS.out.told _ (zH a0);have I:=HG.out;rw[List.drop_eq_getElem_cons a0,gT] at I;obtain ⟨x,hx⟩:∃ x,f.outs[j]=x:=⟨_,rfl⟩
    rw[hx] at d0 d1 d2 l1 I;have a1:=zx I;obtain ⟨lp,l5⟩:=l1;have ad:aa [] wj (wj.alloc (zU #[zW zX x.at_,zQ (bs x.name),zQ (bs x.src)] 179)):=(zN _ _).alloc _;have bb:=zx (D.out.keep ad);have a5:=zx (HC.out.keep ad (by simp));have hs:=zx (HT.out.keep ad (by simp));have a8:ap (wj.alloc (zU #[zW zX x.at_,zQ (bs x.name),zQ (bs x.src)] 179)) wj.heap.size 179 #[zW zX x.at_,zQ (bs x.name),zQ (bs x.src)]:=zO _ _ _;have bB:bt<wj.heap.size:=HT.out.lt;clear I hx hc ad HG;by_cases a7:x.src∈s
    ·have k0:=wO a5.out l5 a7
     by_cases O:x.name∈t
     ·obtain ⟨k1,W2,bq,k2,k3⟩:=qM hs.out lp (by omega) O
      have a4:Hid (R= .error (9,x.at_)):=zx (by
       have:=a1.out;rw[if_neg (by simpa using a7),if_pos O] at this;exact this.symm)
      obtain ⟨es,cl,U⟩:=hs.out.isM;have bA:=zx (bb.out.side U (by have:=c6.out;have:=hZ.out;omega) k3);have Z:=a8.keep k3 (by simp;omega);have e0:W2.cell? ⟨wj.heap.size,0,none⟩=some (zW zX x.at_):=Z.cell 0;have e1:W2.cell? ⟨wj.heap.size,1,none⟩=some (zQ (bs x.name)):=Z.cell 1;have el:=Z.lt;clear O a7 k3 U Z a8 bB;obtain ⟨z0,z1,f0,f1,A⟩:=bA.out.err;go_wp2_with fail
      go_region
      all_goals
       go_wp2
       (try simp only[Exit.inBlock,Exit.then])
       refine bodyPost_ret (bH rfl _ _ (X+1) _ _ _ rfl (A.out _ _).1 Tryz.underlying47 rfl (by kernel_rfl)) rfl ?_;exact ⟨by rw[a4.out];rfl,(A.out _ _).2⟩
     obtain ⟨k1,W2,bq,a3,k2,k3⟩:=qL hs.out lp (by omega) O;have aA:Hid (dl (bu s (f.outs.drop (j+1)) (x.name::t)) (fun _=>wu f MI)=R):=zx (by
      have:=a1.out;rw[if_neg (by simpa using a7),if_neg O] at this;exact this)
     obtain ⟨es,cl,U⟩:=hs.out.isM;have bA:=zx (bb.out.side U (by have:=c6.out;have:=hZ.out;omega) k3);have ih:=zx (a5.out.keep k3 (by have:=hZ.out;simp;omega));have mx:Hid (cX W2 bt (x.name::t).length (eM (x.name::t))):=zx a3;have Z:=a8.keep k3 (by simp;omega);have e1:W2.cell? ⟨wj.heap.size,1,none⟩=some (zQ (bs x.name)):=Z.cell 1;have el:=Z.lt;clear O a7 k3 U Z a8 bB a3;go_wp2_with fail
     go_roundw
     case rel=>exact ⟨j+1,x.name::t,by omega,by go_num,by simp only[zG];omega,bA,ih,mx,aA⟩
     case measure=>simp[intOf];omega
    have k0:=wP a5.out l5 a7;have a4:Hid (R= .error (7,x.at_)):=zx (by
     have:=a1.out;rw[if_pos a7] at this;exact this.symm)
    clear a7;go_upto_region 43 with (fail)
    have e0:(wj.alloc (zU #[zW zX x.at_,zQ (bs x.name),zQ (bs x.src)] 179)).cell? ⟨wj.heap.size,0,none⟩=some (zW zX x.at_):=a8.cell 0;have el:=a8.lt;clear a8 bB d0 d1 d2 k0;generalize wj.alloc (zU #[zW zX x.at_,zQ (bs x.name),zQ (bs x.src)] 179)=y8 at *;generalize wj.heap.size=xb at *;obtain ⟨z0,z1,f0,f1,A⟩:=bb.out.err;go_wp2_with fail
    go_region
    all_goals
     go_wp2
     (try simp only[Exit.inBlock,Exit.then])
     refine bodyPost_ret (bH rfl _ _ (X+1) _ _ _ rfl (A.out _ _).1 Tryz.underlying47 rfl (by kernel_rfl)) rfl ?_;exact ⟨by rw[a4.out];rfl,(A.out _ _).2⟩
   have b0:¬(j:Int)<(f.outs.length:Int):=by omega
   have aA:Hid (wu f MI=R):=zx (by
    have:=HG.out;rw[List.drop_of_length_le (by omega)] at this;exact this)
   go_wp2;go_meet
   case rel=>exact ⟨D,aA⟩
 clear bj g4 ic HG;obtain ⟨D,HG⟩:=hcut;obtain ⟨y8,rfl⟩:∃ z:World,z=wc:=⟨_,rfl⟩
 have p0:y8.cell? ⟨X,0,none⟩=some (zR A0 f.ins.length c0):=D.out.fb.cell 0;have p1:y8.cell? ⟨X,1,none⟩=some (zR A1 f.jobs.length c1):=D.out.fb.cell 1;have p2:y8.cell? ⟨X,2,none⟩=some (zR A2 f.outs.length c2):=D.out.fb.cell 2;have pl:=D.out.fb.lt;have ep:=zx (l9 f _ _ _ y8 (HF.out.keep D.out.k) HS.out HU.out (HE.out.quiet D.out.k).fine)
 cases co:bO f with
 | error xo =>
  as_aux_lemma =>
   have hM:=lD co;rw[co] at ep;have a4:Hid (R= .error xo):=zx (by
    have:=HG.out;unfold wu at this;rw[co] at this;exact this.symm)
   obtain ⟨p4,ds⟩:=xo;simp only at hM;subst hM;clear co HG;go_wp2_with fail
   refine ep.out.mono ?_;rintro e w6 ⟨he,k6⟩;obtain rfl:e=zT (.tuple #[zR none 0 0,.agg #[zW zX 11,zW zX ds]]):=he;have ct:=zx (D.out.keep k6);have q0:=ct.out.k.cell_of HE.out.fine.1 (by simp);have q1:=ct.out.k.cell_of HE.out.fine.2 (by simp);have ql:0<w6.heap.size:=zB _ _ q0;clear k6 p0 p1 p2 pl ep D;go_upto_region 50 with (fail)
   have cg:=zx (ct.out.keep ((zN _ _).alloc (zU #[zW zX 11,zW zX ds] 47)));have b3:=zO w6 47 #[zW zX 11,zW zX ds];have e0:=b3.cell 0;have e1:=b3.cell 1;have el:=b3.lt;have e0':(w6.alloc (zU #[zW zX 11,zW zX ds] 47)).cell? ⟨w6.heap.size,0,none⟩=some (zW zX 11):=e0;have e1':(w6.alloc (zU #[zW zX 11,zW zX ds] 47)).cell? ⟨w6.heap.size,1,none⟩=some (zW zX ds):=e1;clear b3 e0 e1 q0 q1 ql;generalize w6.alloc (zU #[zW zX 11,zW zX ds] 47)=y9 at *;generalize w6.heap.size=xb at *;obtain ⟨z0,z1,f0,f1,A⟩:=cg.out.err;go_wp2_with fail
   go_region
   all_goals
    go_wp2
    (try simp only[Exit.inBlock,Exit.then])
    refine bodyPost_ret (bH rfl _ _ (X+1) _ _ _ rfl (A.out _ _).1 Tryz.underlying47 rfl (by kernel_rfl)) rfl ?_;exact ⟨by rw[a4.out];rfl,(A.out _ _).2⟩
 | ok l =>
  rw[co] at ep;have a1:Hid (cR f l MI=R):=zx (by
   have:=HG.out;unfold wu at this;rw[co] at this;exact this)
  obtain ⟨ka,o4⟩:=fO co;have nc:=zx ka.lt;clear co HG ka;go_wp2_with fail
  refine ep.out.mono ?_;rintro e w6 ⟨⟨Al,cl,he,q4,lo⟩,k6⟩;obtain rfl:e=zT (.tuple #[zR Al l.length cl,.agg #[zW zX 0,zW zX (-1)]]):=he;have ct:=zx (D.out.keep k6);have q0:=ct.out.k.cell_of HE.out.fine.1 (by simp);have q1:=ct.out.k.cell_of HE.out.fine.2 (by simp);have ql:0<w6.heap.size:=zB _ _ q0;have e9:=zx lo;have ad:aa [] w6 (w6.alloc (zU #[zW zX 0,zW zX (-1)] 47)):=(zN _ _).alloc _;have cg:=zx (ct.out.keep ad);have hH:=zx (e9.out.keep ad);clear k6 lo p0 p1 p2 pl ep D ad;go_upto_block 14 with (fail)
  clear q0 q1 ql;generalize w6.alloc (zU #[zW zX 0,zW zX (-1)] 47)=y9 at *;generalize w6.heap.size=xq at *;go_wp2_with fail
  go_loopw [167] (fun i wr=>∃ (t:Nat) (mv:List (Bs×Value)) (m:Cm),t≤l.length∧i=zW zX t∧m.length≤100000+t*100000∧Hid (n9 m)∧Hid (eH w X b #[zR A0 f.ins.length c0,zR A1 f.jobs.length c1,zR A2 f.outs.length c2] mv m wr)∧Hid (Rd wr [] 1 Al l.length (cO l))∧Hid (cR f (l.drop t) m=R)) (fun i _=>l.length-(intOf i).toNat)
  case atStart=>exact ⟨0,mv,MI,zE _,rfl,by omega,bd,cg,hH,a1⟩
  clear ct cg a1 e9 hH bd l4;obtain ⟨t,mv,m,ht,rfl,nw,bd,D,e9,HG⟩:=hrel;obtain ⟨wt,rfl⟩:∃ z:World,z=wr:=⟨_,rfl⟩
  by_cases hT:t<l.length
  ·have n4:(t:Int)<(l.length:Int):=by omega
   have ls:t<f.jobs.length:=by omega
   have lX:(t:Int)<(f.jobs.length:Int):=by omega
   obtain ⟨bl,ol,rfl,-,bB,hC⟩:=e9.out.open' (by omega) (by omega);have q0:wt.cell? ⟨bl,ol+t,none⟩=some (zW zX (l[t]:Nat)):=hC t _ (gZ l t hT);have hk:=nc.out _ (zH hT);have I:=HG.out;rw[List.drop_eq_getElem_cons hT,iK] at I;obtain ⟨k,l3⟩:∃ k,l[t]=k:=⟨_,rfl⟩
   rw[l3] at q0 hk I;have g3:(k:Int)<(f.jobs.length:Int):=by omega
   have n8:(0:Int)≤(k:Int):=by omega
   obtain ⟨g,cs,rfl,hg,-,⟨_,_,_,rfl,⟨fc,B2,e2,rfl,ff,bk⟩,⟨m4,B3,e3,rfl,hW,h4⟩,⟨hD,B4,e4,rfl,a3,gk⟩⟩,hc⟩:=H1.out k hk;have p1:wt.cell? ⟨X,1,none⟩=some (zR (some ⟨g,0,none⟩) f.jobs.length c1):=D.out.fb.cell 1;have pl:=D.out.fb.lt;obtain ⟨d0,d1,d2,d3,d4,d5,d6,d7,d8,d9,c4,cf,cp,b4,c3⟩:=yU (fun k u h=>D.out.k.cell_of (hc k u h) (by simp));rw[eI hk] at I;have ba:∀ n∈f.jobs[k].ins,n.length≤1000:=fun n hn=>HS.out.ins _ (zH hk) n hn
   have h9:∀ n∈f.jobs[k].outs,n.length≤1000:=fun n hn=>HS.out.names n (by unfold cG;exact List.mem_append_right _ (List.mem_flatMap.2 ⟨_,zH hk,hn⟩))
   have lq:f.jobs[k].outs.length≤100000:=by
    have h1:=re (zH hk);have:=hO.out;omega
   have it:=na.out _ (zH hk);obtain ⟨x,hx⟩:∃ x,f.jobs[k]=x:=⟨_,rfl⟩
   rw[hx] at d0 d1 d2 d3 d4 d5 d6 d7 d8 d9 c4 cf cp b4 c3 ba h9 lq it I fc ff bk m4 hW h4 hD a3 gk;have a1:=zx I;have ft:=zx ba;have nk:=zx h9;have gl:=zx it;have e5:=zx bk;have n0:=zx h4;have ie:=zx gk;have ad:aa [] wt (wt.alloc (zU (jC x B2 e2 B3 e3 B4 e4) 59)):=(zN _ _).alloc _;have h3:=zx (D.out.keep ad);have nb:=zx (e9.out.keep ad);have fg:=zx (zO wt 59 (jC x B2 e2 B3 e3 B4 e4));clear hC I l3 hx hc ba h9 it bk h4 gk hk ad D e9 HG;go_upto_block 16 with (fail)
   generalize fS:wt.alloc (zU (jC x B2 e2 B3 e3 B4 e4) 59)=y1 at *;generalize fv:wt.heap.size=xb at *;clear fS fv d0 d1 d2 d3 d4 d5 d6 d7 d8 d9 c4 cf cp b4 c3 p1 pl q0;go_cut [26,28] from 179 to 190 (fun u _ wx=>Hid (sa y1 wx y1.heap.size u (x.ins.map (ce m)))∧Hid (aa [] y1 wx))
   case first =>
    as_aux_lemma =>
     have x3:y1.cell? ⟨xb,3,none⟩=some (zR B3 x.ins.length e3):=fg.out.cell 3;have xl:=fg.out.lt;go_wp2_with fail
     clear x3 xl;go_loopw [26,28,179] (fun u _ i wr=>∃ q:Nat,q≤x.ins.length∧i=zW zX q∧Hid (sa y1 wr y1.heap.size u ((x.ins.take q).map (ce m)))∧Hid (aa [] y1 wr)) (fun _ _ i _=>x.ins.length-(intOf i).toNat)
     case atStart=>exact ⟨0,zE _,rfl,zx (sa.nil _ _ _),zx (zN _ _)⟩
     obtain ⟨q,hq,rfl,HH,g2⟩:=hrel;obtain ⟨wq,rfl⟩:∃ z:World,z=wr:=⟨_,rfl⟩
     by_cases dB:q<x.ins.length
     ·have hY:(q:Int)<(x.ins.length:Int):=by omega
      have lf:=zx (h3.out.keep g2.out);obtain ⟨b6,o6,rfl,-,mI,gm⟩:=(n0.out.keep lf.out.k).open' (by omega) (by omega);have s0:=gm q _ (b9 x.ins q dB);have a6:=ft.out _ (zH dB);have hV:(x.ins.take (q+1)).map (ce m)=(x.ins.take q).map (ce m)++[ce m x.ins[q]]:=by rw[List.take_succ_eq_append_getElem dB,List.map_append];rfl
      obtain ⟨n,hn⟩:∃ n,x.ins[q]=n:=⟨_,rfl⟩
      rw[hn] at s0 a6 hV;have lk:=lf.out.mp.get n a6;have k9:=h3.out.cv.get n;have kx:=zx k9;obtain ⟨o2,Av,cv,ev,jx,j3⟩:=k9;rw[ev] at lk kx;have m1:=zx hV;obtain ⟨us,gj,c5,fu⟩:=HH.out;have ha:((x.ins.take q).map (ce m)).length=q:=by rw[List.length_map,List.length_take,Nat.min_eq_left hq]
      rw[ha] at gj c5;obtain ⟨Au,cu,rfl,-⟩:=ao c5;have k8:=zx c5;have nx:=zx fu;have mK:=zx (show y1.heap.size≤(wq.alloc (zU #[zR Av (ce m n).length cv] 22)).heap.size by have:=g2.out.size;simp;omega);have lh:=zx (show q+1≤maxLen∧(q+1)*24≤140737488355328 by simp only[maxLen];omega);clear gm hn hV jx j3 ev c5 fu HH;go_wp2_with (at_builtin;refine wpList_append_own _ rfl _ _ 62 rfl y1.heap.size 22 i0 (zR none 0 0) 1 24 Tryz.underlying62 mB ni mY m9 rfl (by decide) _ _ _ rfl (k8.out.alloc _) ⟨wq.heap.size,0,none⟩ 1 1 [zR Av (ce m n).length cv] rfl rfl (zJ (heap_alloc_new _ _)) (by simp[Value.oneCell']) lh.out.1 lh.out.2 mK.out ?_)
      intro vv w7 c9 eb lc;have n1:=zx ((g2.out.alloc _).grown eb (fun g hg=> .inr (k8.out.lt g hg).1));have ne:Hid (sa y1 w7 y1.heap.size vv ((x.ins.take (q+1)).map (ce m))):=zx (by
       rw[m1.out];refine ⟨us++[zR Av (ce m n).length cv],by rw[zF,zF,gj,ha];rfl,by rw[zF,ha];exact c9,fun i hi hi'=>?_⟩;by_cases q7:i<q
       ·rw[List.getElem_append_left (by omega),List.getElem_append_left (by omega)]
        exact nx.out i (by omega) (by omega)
       have hW:i=q:=by simp at hi;omega
       subst hW;rw[List.getElem_append_right (by omega),List.getElem_append_right (by omega)];simpa[gj,ha] using kx.out)
      obtain ⟨g7,em,rfl⟩:∃ g7 em,vv=zR (some ⟨g7,0,none⟩) (q+1) em:=by
       rcases c9.2 with ⟨_,h0⟩|⟨g7,em,oh,hv,_⟩
       ·omega
       exact ⟨g7,em,hv⟩
      clear c9 eb lc;go_wp2;go_roundw
      case rel=>exact ⟨q+1,by omega,by go_num,ne,n1⟩
      case measure=>simp[intOf];omega
     have hY:¬(q:Int)<(x.ins.length:Int):=by omega
     rw[List.take_of_length_le (by omega)] at HH;go_wp2;go_meet
     case rel=>exact ⟨HH,g2⟩
   case rest =>
   obtain ⟨HH,g5⟩:=hcut;obtain ⟨yc,rfl⟩:∃ z:World,z=wc:=⟨_,rfl⟩
   have J:=zx (fg.out.keep g5.out (by simp));have cj:=zx (h3.out.keep g5.out);have kb:=zx (nb.out.keep g5.out);obtain ⟨Ah,ch,rfl,gi⟩:=HH.out.heads g5.out;have a2:∀ q∈x.ins.map (ce m),q.length≤4294967:=fun q hq=>by
    obtain ⟨n,_,rfl⟩:=List.mem_map.1 hq;exact zA (bd.out.get n).1 (by decide)
   have f6:∀ q∈x.ins.map (ce m),sh q:=fun q hq=>by
    obtain ⟨n,_,rfl⟩:=List.mem_map.1 hq;exact (bd.out.get n).2
   have il:Hid (Calls zy 32 #[.agg (jC x B2 e2 B3 e3 B4 e4),zR Ah x.ins.length ch] yc fun e w'=>dG (cA x (x.ins.map (ce m))) e w'∧aa [] yc w'):=zx (by
    have ks:=sO x B2 e2 B3 x.ins.length e3 B4 e4 (x.ins.map (ce m)) Ah ch yc (HE.out.quiet cj.out.k) ⟨e5.out.keep cj.out.k,ff,ie.out.keep cj.out.k,a3,fc,hD⟩ gi a2 gl.out.1 gl.out.2.1 gl.out.2.2 (fun _=>rf f6 0);rw[List.length_map] at ks;exact ks)
   have hy:=zx (fun cs (h:cA x (x.ins.map (ce m))= .ok cs)=>And.intro (mN h (fun q hq=>by
    obtain ⟨n,_,rfl⟩:=List.mem_map.1 hq;exact (bd.out.get n).1)) (tK h f6))
   have hN:=zx (fun cs (h:cA x (x.ins.map (ce m))= .ok cs)=>ib h);have j1:=zx (fun e (h:cA x (x.ins.map (ce m))= .error e)=>nr h);clear gi a2 f6;have y0:yc.cell? ⟨xb,0,none⟩=some (zW zX x.at_):=J.out.cell 0;have y1:yc.cell? ⟨xb,1,none⟩=some (zW zX x.code):=J.out.cell 1;have y2:yc.cell? ⟨xb,2,none⟩=some (zR B2 x.outs.length e2):=J.out.cell 2;have y3:yc.cell? ⟨xb,3,none⟩=some (zR B3 x.ins.length e3):=J.out.cell 3;have y4:yc.cell? ⟨xb,4,none⟩=some (zR B4 x.cols.length e4):=J.out.cell 4;have y5:yc.cell? ⟨xb,5,none⟩=some (zQ (bs x.op)):=J.out.cell 5;have y6:yc.cell? ⟨xb,6,none⟩=some (zQ (bs x.left.col)):=J.out.cell 6;have y7:yc.cell? ⟨xb,7,none⟩=some (zW zX x.left.val.kind):=J.out.cell 7;have y8:yc.cell? ⟨xb,8,none⟩=some (zW zX x.left.val.num):=J.out.cell 8;have y9:yc.cell? ⟨xb,9,none⟩=some (zQ (bs x.left.val.word)):=J.out.cell 9;have lm:yc.cell? ⟨xb,10,none⟩=some (zQ (bs x.right.col)):=J.out.cell 10;have kv:yc.cell? ⟨xb,11,none⟩=some (zW zX x.right.val.kind):=J.out.cell 11;have jf:yc.cell? ⟨xb,12,none⟩=some (zW zX x.right.val.num):=J.out.cell 12;have j4:yc.cell? ⟨xb,13,none⟩=some (zQ (bs x.right.val.word)):=J.out.cell 13;have js:yc.cell? ⟨xb,14,none⟩=some (zW zX x.retry):=J.out.cell 14;have yl:=J.out.lt;generalize cx:cA x (x.ins.map (ce m))=CR at il hy hN j1;have aA:Hid (g8 f (l.drop (t+1)) x m CR=R):=zx (by
    have:=a1.out;rw[cx] at this;exact this)
   clear cx
   cases CR with
   | error er =>
    as_aux_lemma =>
     have a4:Hid (R= .error (er,x.at_)):=zx aA.out.symm;have q6:(er != 0)=true:=by rw[bne_iff_ne];exact j1.out er rfl
     go_wp2_with fail
     refine il.out.mono ?_;rintro e w7 ⟨dv,k7⟩;obtain rfl:e=zT (.tuple #[zR none 0 0,zW zX er]):=dv;have cg:=zx (cj.out.keep k7);have b3:=J.out.keep k7 (by simp);have e0:w7.cell? ⟨xb,0,none⟩=some (zW zX x.at_):=b3.cell 0;have el:=b3.lt;clear k7 y0 y1 y2 y3 y4 y5 y6 y7 y8 y9 lm kv jf j4 js yl b3;obtain ⟨z0,z1,f0,f1,A⟩:=cg.out.err;go_wp2_with fail
     go_region
     all_goals
      go_wp2
      (try simp only[Exit.inBlock,Exit.then])
      refine bodyPost_ret (bH rfl _ _ (X+1) _ _ _ rfl (A.out _ _).1 Tryz.underlying47 rfl (by kernel_rfl)) rfl ?_;exact ⟨by rw[a4.out];rfl,(A.out _ _).2⟩
   | ok out =>
    have mE:Hid (cR f (l.drop (t+1)) (eT x.outs out m)=R):=aA;have n7:=hN.out out rfl;have ek:=zx (hy.out out rfl);as_aux_lemma =>
     go_wp2_with fail
     refine il.out.mono ?_;rintro e w7 ⟨⟨B,d,rfl,pn,gi⟩,k7⟩;have m0:=zx gi;have cg:=zx (cj.out.keep k7);have n2:=zx (kb.out.keep k7);have z2:w7.cell? ⟨xb,2,none⟩=some (zR B2 x.outs.length e2):=(J.out.keep k7 (by simp)).cell 2;have zl:=(J.out.keep k7 (by simp)).lt;clear k7 y0 y1 y2 y3 y4 y5 y6 y7 y8 y9 lm kv jf j4 js yl gi;go_wp2_with fail
     clear z2 zl;go_loopw [31,32,205] (fun _ _ i wr=>∃ (q:Nat) (ix:List (Bs×Value)) (m':Cm),q≤x.outs.length∧i=zW zX q∧m'.length≤m.length+q∧Hid (n9 m')∧Hid (eH w X b #[zR A0 f.ins.length c0,zR (some ⟨g,0,none⟩) f.jobs.length c1,zR A2 f.outs.length c2] ix m' wr)∧Hid (Rd wr [] 1 (some ⟨bl,ol,none⟩) l.length (cO l))∧Hid (aW wr B out)∧Hid (eT (x.outs.drop q) (out.drop q) m'=eT x.outs out m)) (fun _ _ i _=>x.outs.length-(intOf i).toNat)
     case atStart=>exact ⟨0,mv,m,zE _,rfl,zz _,bd,cg,n2,m0,zx rfl⟩
     obtain ⟨q,ix,m',hq,rfl,ob,hL,HN',kz,hz,lg⟩:=hrel;obtain ⟨wq,rfl⟩:∃ z:World,z=wr:=⟨_,rfl⟩
     by_cases dB:q<x.outs.length
     ·have hY:(q:Int)<(x.outs.length:Int):=by omega
      have hp:q<out.length:=by omega
      obtain ⟨b6,o6,rfl,-,mI,gm⟩:=(e5.out.keep HN'.out.k).open' (by omega) (by omega);have s0:=gm q _ (b9 x.outs q dB);have a6:=nk.out _ (zH dB);obtain ⟨us,gj,c5,fu⟩:=hz.out;have i9:q<us.length:=by omega
      obtain ⟨Bq,dq,l2,h5,hU⟩:=fu q i9 hp;obtain ⟨b7,o7,rfl,-,b3,ln⟩:=c5.open' (by omega) (by omega);have s1:=ln q us[q] (zI i9);rw[l2] at s1;have h6:=ek.out.1 _ (zH hp);have hQ:=ek.out.2 _ (zH hp);have gb:=no x.outs out q dB hp m';rw[lg.out] at gb;have n5:(q:Int)<(out.length:Int):=by omega
      have p6:(0:Int)≤(q:Int):=by omega
      obtain ⟨n,hn⟩:∃ n,x.outs[q]=n:=⟨_,rfl⟩
      obtain ⟨c,hc⟩:∃ c,out[q]=c:=⟨_,rfl⟩
      rw[hn] at s0 a6 gb;rw[hc] at s1 h5 hU h6 hQ gb;have mU:=zx gb.symm;have ga:e8 wq (zR Bq c.length dq) c:=⟨by omega,_,_,rfl,h5,hU⟩;obtain ⟨w8,bq,lu,lj⟩:=HN'.out.mp.put n (zR Bq c.length dq) a6 (by have:=HN'.out.cv.len;omega);have hu:aa [b] wq w8:=(zN [b] _).grown lj (fun g hg=> .inl (by injection hg with hg;simp[hg]));obtain ⟨es,pz,c7⟩:=HN'.out.mp.isM;have m7:=zx (HN'.out.put ga lu hu);have mA:=zx (kz.out.keepM c7 hu (by decide));have lv:=zx (hz.out.keepM c7 hu);have lw:=zx (hL.out.put (n:=n) h6 hQ);clear gm ln gj c5 fu l2 h5 hU h6 hQ gb hn hc ga lu lj hu c7 i9;go_wp2;go_roundw
      case rel=>exact ⟨q+1,_,_,by omega,by go_num,by simp only[zG];omega,lw,m7,mA,lv,mU⟩
      case measure=>simp[intOf];omega
     have hY:¬(q:Int)<(x.outs.length:Int):=by omega
     have mn:Hid (cR f (l.drop (t+1)) m'=R):=zx (by
      rw[←mE.out,←lg.out,o8 _ _ _ (by omega)])
     go_wp2;go_roundw
     case rel=>exact ⟨t+1,ix,m',by omega,by go_num,by omega,hL,HN',kz,mn⟩
     case measure=>simp[intOf];omega
  have n4:¬(t:Int)<(l.length:Int):=by omega
  have ls:¬t<f.jobs.length:=by omega
  have lX:¬(t:Int)<(f.jobs.length:Int):=by omega
  as_aux_lemma =>
   have a4:Hid (R= .ok m):=zx (by
    have:=HG.out;rw[List.drop_of_length_le (by omega)] at this;exact this.symm)
   obtain ⟨z0,z1,f0,f1,A⟩:=D.out.err;have q0:=D.out.k.cell_of HE.out.fine.1 (by simp);have q1:=D.out.k.cell_of HE.out.fine.2 (by simp);have ql:0<wt.heap.size:=zB _ _ q0;have lb:Hid (∀ V0 V1,aa [X+1] wt ((wt.drew.setCell ⟨X+1,0,none⟩ V0).setCell ⟨X+1,1,none⟩ V1)):=zx (fun V0 V1=>(((zN [X+1] wt).drew).setCell (.inl (by simp)) _).setCell (.inl (by simp)) _);have ez:=D;go_wp2_with fail
   go_region
   all_goals
    go_wp2
    (try simp only[Exit.inBlock,Exit.then])
    refine bodyPost_ret (bH rfl _ _ (X+1) _ _ _ rfl (A.out _ _).1 Tryz.underlying47 rfl (by kernel_rfl)) rfl ?_;exact ⟨by rw[a4.out];exact ⟨b,mv,rfl,ez.out.mp.keep (lb.out _ _) (by have:=ez.out.hb;simp;omega),ez.out.cv.keepF ez.out.qb (lb.out _ _),by have:=ez.out.hb;have:=ez.out.hx;omega⟩,(A.out _ _).2⟩
end
end Go.Proofs.YtpagiajlefejcaaGreatDoor
