/- ops.Do and one at Set, Project, Union, Distinct. -/
import Derived.Test.YtecpeogejjibaaaGreatDoorEmoM12
import Derived.Test.YtecpeogejjibaaaGreatDoorEmoM15
import Derived.Test.YtecpeogejjibaaaGreatDoorEmoM16
import Derived.Test.YtecpeogejjibaaaGreatDoorEmoM13
import Derived.Test.YtecpeogejjibaaaGreatDoorEmoM8
set_option linter.unusedSimpArgs false
set_option linter.unusedVariables false
set_option maxRecDepth 100000
set_option maxHeartbeats 16000000
namespace Go.Proofs.YtecpeogejjibaaaGreatDoor
open Go.Value renaming slice → FN
section
open Go.RowKit
theorem Ct {j:Jb} {ins:List (List Cl)} {out:List (List Cl)} (I:j.code=2) (h:aL j ins= .ok out):jQ j (ins.getD 0 [])= .ok out:=by
 unfold aL at h;by_cases D:(au j.code).1=0∨ins.length≠(au j.code).1∨j.outs.length≠(au j.code).2
 ·rw[if_pos D] at h;cases h
 rw[if_neg D,if_neg (by omega),if_pos I] at h;exact h
theorem Cu {j:Jb} {ins:List (List Cl)} {out:List (List Cl)} (I:j.code=3) (h:aL j ins= .ok out):cw j (ins.getD 0 [])= .ok out:=by
 unfold aL at h;by_cases D:(au j.code).1=0∨ins.length≠(au j.code).1∨j.outs.length≠(au j.code).2
 ·rw[if_pos D] at h;cases h
 rw[if_neg D,if_neg (by omega),if_neg (by omega),if_pos (.inl I)] at h;exact h
theorem Cv (j:Jb) (a1:j.code=2∨j.code=3∨j.code=5∨j.code=6) (Ao:Option Addr) (co:Nat) (Ai:Option Addr) (ni ci:Nat) (Ac:Option Addr) (cc:Nat) (ins:List Tb) (AT:Option Addr) (ct:Nat) (w:World) (hE:mf w) (hJ:gT w j Ao co Ac cc) (hI:eE w AT ins) (hB:∀ t∈ins,AI t) (hl:ins.length≤4294967296) :
  Calls Tryz.prog 24 #[eM j Ao co Ai ni ci Ac cc,FN AT ins.length ct] w fun e w'=>qE (j5 j ins) e w'∧aa [] w w':=by
 refine rS j Ao co Ai ni ci Ac cc ins AT ct w hI hB hl (fun W q AH ch hH=>?_) (fun out hr hc W q OA od=>?_)
 ·refine ot j Ao co Ai ni ci Ac cc (ins.map (·.cols)) AH ch W (hE.quiet q).c (hJ.quiet q) hH (fun l hm=>?_) (by omega) (fun h=>by omega)
  obtain ⟨t,ht,rfl⟩:=List.mem_map.1 hm;exact (hB t ht).ln
 have O:=pf hc;rw[List.length_map] at O;rcases a1 with h2|h3|h5|h6
 ·have h1:ins.length=1:=by rw[O,h2];rfl
  obtain ⟨t,rfl⟩:∃ t,ins=[t]:=by
   match ins,h1 with
   | [t],_=>exact ⟨t,rfl⟩
  have I:ak t=true:=hr t (by simp);have a2:jQ j t.cols= .ok out:=Ct h2 hc;obtain ⟨⟨k,a9,a4,ad,h13,a5,a3⟩,_⟩:=u6.1 a2;obtain ⟨b,o,A1,c1,A2,c2,rfl,Z,U,hT⟩:=(hI.keep q).first (k:=0) (by simp) rfl (hB t (by simp));rw[Nat.zero_mul,Nat.add_zero] at Z U;obtain ⟨nm,aA⟩:∃ nm,j.cols=[nm]:=by
   match hj:j.cols,a9 with
   | [nm],_=>exact ⟨nm,rfl⟩
  have a0:Rd W [] 1 Ac 1 (strs [nm]):=by
   have:=hJ.cols.keep q;rw[aA] at this;exact this
  have hk:an t.cols nm=some k:=by rw[aA] at ad;exact ad
  have N:bp j [t] out=AR (aO j t t.rows []):=by
   rw[gM (by omega) (by omega) (by omega)];unfold eW AR;simp only;rw[if_neg (by omega),if_pos h2];rfl
  rw[N];have a8:∀ V,aa [] W V→Calls Tryz.prog 99 #[eM j Ao co Ai ni ci Ac cc,.agg #[FN A1 t.cols.length c1,FN A2 t.rows.length c2]] V fun e w'=>jC (aO j t t.rows []) e w'∧aa [] V w':=fun V qv =>
   tS j t k nm A1 A2 c1 c2 Ao co Ai ni ci Ac cc V (hT.quiet qv) aA hk (a0.keep qv) (gh I) (kK I (by rw[a5];decide)) (kK I (by rw[a3];decide)) (fun r hm=>wB I a5 hm) (fun r hm=>wB I a3 hm)
  generalize aO j t t.rows []=CG at *;obtain ⟨J,code,outs,js,cols,op,⟨lc,lk,ln,lw⟩,⟨rc,rk,rn,M⟩,D⟩:=j;simp only at h2;subst h2;exact Ed t OA out.length od b o 1 ct A1 A2 c1 c2 (by omega) J D lk ln rk rn outs cols op lc lw rc M Ao co Ai ni ci Ac cc W Z U hT CG a8
 ·have h1:ins.length=1:=by rw[O,h3];rfl
  obtain ⟨t,rfl⟩:∃ t,ins=[t]:=by
   match ins,h1 with
   | [t],_=>exact ⟨t,rfl⟩
  have I:ak t=true:=hr t (by simp);have a2:cw j t.cols= .ok out:=Cu h3 hc;obtain ⟨⟨_,a4,ad,_⟩,_⟩:=fH.1 a2;obtain ⟨b,o,A1,c1,A2,c2,rfl,Z,U,hT⟩:=(hI.keep q).first (k:=0) (by simp) rfl (hB t (by simp));rw[Nat.zero_mul,Nat.add_zero] at Z U;have N:bp j [t] out= .ok [t.rows.map fun r=>j.cols.map (ew t.cols r)]:=by
   rw[gM (by omega) (by omega) (by omega)];unfold eW;simp only;rw[if_neg (by omega),if_neg (by omega),if_pos h3];rfl
  rw[N];have a0:=hJ.cols.keep q;obtain ⟨J,code,outs,js,cols,op,⟨lc,lk,ln,lw⟩,⟨rc,rk,rn,M⟩,D⟩:=j;simp only at h3;subst h3;exact Ek t OA out.length od b o 1 ct A1 A2 c1 c2 (by omega) J D lk ln rk rn outs cols op lc lw rc M Ao co Ai ni ci Ac cc W Z U hT (gh I) ad a0 (by simp only at a4;omega)
 ·have h1:ins.length=2:=by rw[O,h5];rfl
  obtain ⟨t,u,rfl⟩:∃ t u,ins=[t,u]:=by
   match ins,h1 with
   | [t,u],_=>exact ⟨t,u,rfl⟩
  have I:ak t=true:=hr t (by simp);have a7:ak u=true:=hr u (by simp);obtain ⟨b,o,A1,c1,A2,c2,rfl,Z,U,hT⟩:=(hI.keep q).first (k:=0) (by simp) rfl (hB t (by simp));obtain ⟨b',o',A3,c3,A4,c4,av,d2,d3,hU⟩:=(hI.keep q).first (k:=1) (by simp) rfl (hB u (by simp));injection av with av;injection av with hb ho _;subst hb ho;rw[Nat.zero_mul,Nat.add_zero] at Z U;have N:bp j [t,u] out= .ok [t.rows++u.rows]:=by
   rw[gM (by omega) (by omega) (by omega)];unfold eW;simp only;rw[if_neg (by omega),if_neg (by omega),if_neg (by omega),if_pos h5];rfl
  rw[N];obtain ⟨J,code,outs,js,cols,op,⟨lc,lk,ln,lw⟩,⟨rc,rk,rn,M⟩,D⟩:=j;simp only at h5;subst h5;exact Eb t u OA out.length od b o 2 ct A1 A2 c1 c2 (by omega) J D lk ln rk rn outs cols op lc lw rc M Ao co Ai ni ci Ac cc W Z U hT A3 A4 c3 c4 d3 hU (by have:=aY I;omega) (by have:=aY a7;omega)
 have h1:ins.length=1:=by rw[O,h6];rfl
 obtain ⟨t,rfl⟩:∃ t,ins=[t]:=by
  match ins,h1 with
  | [t],_=>exact ⟨t,rfl⟩
 have I:ak t=true:=hr t (by simp);obtain ⟨b,o,A1,c1,A2,c2,rfl,Z,U,hT⟩:=(hI.keep q).first (k:=0) (by simp) rfl (hB t (by simp));rw[Nat.zero_mul,Nat.add_zero] at Z U;have N:bp j [t] out= .ok [aB t.rows [] []]:=by
  rw[gM (by omega) (by omega) (by omega)];unfold eW;simp only;rw[if_neg (by omega),if_neg (by omega),if_neg (by omega),if_neg (by omega)];rfl
 rw[N];have a6:=(hE.quiet q).t;obtain ⟨J,code,outs,js,cols,op,⟨lc,lk,ln,lw⟩,⟨rc,rk,rn,M⟩,D⟩:=j;simp only at h6;subst h6;exact Ea t I OA out.length od b o 1 ct A1 A2 c1 c2 (by omega) J D lk ln rk rn outs cols op lc lw rc M Ao co Ai ni ci Ac cc W Z U hT a6
end
end Go.Proofs.YtecpeogejjibaaaGreatDoor
