/- The columns that jobs make are at most six. No program in sight. ops.made: what it hands back. slices.Concat at 46. slices.Clone of a row. ops.text: a row as one text. ops.distinct. slices.Concat at 89. ops.Do: words for what it takes, and hands back. ops.made: Distinct, Union. ops.pairs. ops.Do, by what Cols and made do. ops.made: Project. Flows evaluated, as plain data: in whatever order the jobs stand, and whatever jobs there are besides. No program in sight. EvalTurns and EvalMore as plain data. No program in sight. -/
import Derived.Test.YtecpeogejjibaaaGreatDoorEmoM10
import Derived.Test.YtecpeogejjibaaaGreatDoorEmoM6
import Derived.Test.YtecpeogejjibaaaGreatDoorEmoM3
import Derived.WalkSpells
import Derived.Test.YtecpeogejjibaaaGreatDoorEmoM4
import Derived.Test.YtecpeogejjibaaaGreatDoorEmoM2
import Derived.Test.YtecpeogejjibaaaGreatDoorEmoM8
set_option linter.unusedSimpArgs false
set_option linter.unusedVariables false
set_option maxRecDepth 100000
set_option maxHeartbeats 16000000
namespace Go.Proofs.YtecpeogejjibaaaGreatDoor
open Go.Lib renaming hid → Fx
open _root_.Nat renaming le_refl → Fy, le_trans → FD, zero_le → FF
open _root_.List renaming length_append → Fz, getElem?_eq_getElem → FA, getElem_mem → FE, length_cons → FG, length_take → FH, getD_eq_getElem?_getD → FJ
open Go.World renaming block_lt_of_cell? → FC, news_of_block → FI
open aa renaming refl → FK
open ao renaming new → FL
open Go.Value renaming string → FM, slice → FN, int → FR
open Go.Ending renaming returned → FP
open Go.Obj renaming cells → FQ
open Go.IntKind renaming i64 → FS
section
theorem oA {a:List Cl}:∀ {ns seen:List Bs} {acc out:List Cl},cY a seen ns acc= .ok out→out.length=acc.length+ns.length
 | [],seen,acc,out,h=>by
  unfold cY at h;cases h
  rfl
 | n::ns,seen,acc,out,h=>by
  unfold cY at h;split at h
  ·cases h
  split at h
  ·cases h
  rw[oA h,Fz,List.length_singleton,FG];omega
theorem xZ {j:Jb} {ins cs:List (List Cl)} (h:aL j ins= .ok cs) (Z:∀ l∈ins,l.length≤6):∀ c∈cs,c.length≤6:=by
 have hg:∀ k,(ins.getD k []).length≤6:=fun k=>by
  by_cases M:k<ins.length
  ·rw[FJ,FA M]
   exact Z _ (FE M)
  rw[FJ,List.getElem?_eq_none (by omega)];simp
 have I:=hg 0;have D:∀ {q:List Cl},q.length≤6→∀ c∈[q],c.length≤6:=fun N c J=>by rw[List.mem_singleton.1 J];exact N
 unfold aL at h;split at h
 ·cases h
 split at h
 ·unfold aX at h
  split at h
  ·cases h
  split at h
  ·cases h
  split at h
  ·cases h
  cases h
  intro c J;rw[List.eq_of_mem_replicate J];exact I
 split at h
 ·unfold jQ at h
  split at h
  ·cases h
  split at h
  ·cases h
  split at h
  ·cases h
  cases h;exact D I
 split at h
 ·unfold cw at h
  split at h
  ·cases h
  rename_i O;split at h
  ·cases h
  rename_i out U;cases h
  refine D ?_;split
  ·exact I
  rw[oA U,List.length_nil,Nat.zero_add];omega
 split at h
 ·split at h
  ·cases h
  cases h;exact D I
 split at h
 ·unfold dj at h
  split at h
  ·cases h
  split at h
  ·split at h
   ·cases h
   split at h
   ·cases h
   split at h
   ·cases h
   rename_i O;cases h
   exact D (by omega)
  cases h
 split at h
 ·unfold cI at h
  split at h
  ·cases h
  split at h
  ·split at h
   ·cases h
   split at h
   ·cases h
   cases h
   exact D (by simp)
  cases h
 cases h;exact D I
def BL (m:Cm):Prop:=∀ q∈m,q.2.length≤6
theorem BL.get {m:Cm} (h:BL m) (n:Bs):(ep m n).length≤6:=by
 unfold ep
 induction m with
 | nil=>simp
 | cons q m ih =>
  obtain ⟨q1,q2⟩:=q;rw[List.lookup_cons];by_cases D:n=q1
  ·subst D
   simp only[beq_self_eq_true];exact h _ (List.mem_cons_self ..)
  have:(n==q1)=false:=by simpa using D
  rw[this];exact ih fun q I=>h q (List.mem_cons_of_mem _ I)
theorem BL.put {m:Cm} (h:BL m) {n:Bs} {c:List Cl} (I:c.length≤6):BL ((n,c)::m):=fun q D=>by
 rcases List.mem_cons.1 D with rfl|D
 ·exact I
 exact h q D
end
section
open Go.RowKit Go.BigFrame
def cF (w:World) (u:Value) (h:List (List Vl)):Prop:=∃ A c,u=FN A h.length c∧h.length≤c∧cM w [] A h
def fp (w:World) (A:Option Addr) (l:List (List (List Vl))):Prop :=
 ∃ us:List Value,us.length=l.length∧Rd w [] 1 A l.length us∧∀ i (h:i<us.length) (h':i<l.length),cF w us[i] l[i]
def dC (R:Except Int (List (List (List Vl)))) (e:Ending) (w':World):Prop:=match R with
 | .error x=>e=FP (.tuple #[FN none 0 0,.iface 37 (FR FS x)])
 | .ok out=>∃ B d,e=FP (.tuple #[FN B out.length d,.nilIface])∧out.length≤d∧fp w' B out
theorem cF.keep {w w':World} {u:Value} {l:List (List Vl)} (h:cF w u l) (D:aa [] w w'):cF w' u l:=by
 obtain ⟨A,c,e,I,h⟩:=h;exact ⟨A,c,e,I,h.keep D⟩
theorem fp.keep {w w':World} {A:Option Addr} {I:List (List (List Vl))} (h:fp w A I) (D:aa [] w w'):fp w' A I:=by
 obtain ⟨us,M,N,J⟩:=h;exact ⟨us,M,N.keep D,fun i a b=>(J i a b).keep D⟩
theorem dC.split {R:Except Int (List (List (List Vl)))} {e:Ending} {w:World} (h:dC R e w):∃ u v,e=FP (.tuple #[u,v])∧dC R (FP (.tuple #[u,v])) w:=by
 cases R with
 | error x=>exact ⟨_,_,h,rfl⟩
 | ok out =>
  obtain ⟨B,d,rfl,D,I⟩:=h;exact ⟨_,_,rfl,B,d,rfl,D,I⟩
theorem wE {w:World} {g:Nat} {us:List Value} {l:List (List (List Vl))} (D:us.length=l.length) (I:g<w.heap.size) (M:∀ j u,us[j]? = some u→w.cell? ⟨g,j,none⟩=some u) (h:∀ i (h:i<us.length) (h':i<l.length),cF w us[i] l[i]):fp w (some ⟨g,0,none⟩) l:=by
 refine ⟨us,D,⟨by omega,fun _=>⟨_,rfl,by simp,I,fun j u J=>?_⟩⟩,h⟩;rw[cJ,Nat.zero_add];exact M j u J
theorem eq {w:World} {u:Value} {l:List (List Vl)} (h:cF w u l) (t:TypeId):fp (w.alloc (FQ #[u] t)) (some ⟨w.heap.size,0,none⟩) [l]:=by
 have D:aa [] w (w.alloc (FQ #[u] t)):=(FK _ _).alloc _;refine wE (us:=[u]) rfl (FL _ _ _).lt (fun j x M=>?_) (fun i I N=>?_)
 ·rw[(FL w t #[u]).cell j]
  simpa using M
 have J:i=0:=by simp at I;omega
 subst J;exact h.keep D
def fW (w W:World) (base:Nat) (v:Value) (D:List (List Vl)):Prop :=
 ∃ us:List Value,us.length=D.length∧W.ownsRow base 89 1 v D.length us∧∀ i (h:i<us.length) (h':i<D.length),fJ w [] us[i] D[i]
theorem fW.nil (w D:World) (base:Nat):fW w D base (FN none 0 0) []:=⟨[],rfl,World.ownsRow_nil _ _ _ _,fun i h=>by simp at h⟩
theorem fW.keep {w W W':World} {base:Nat} {v:Value} {D:List (List Vl)} (h:fW w W base v D) (I:aa [] W W'):fW w W' base v D:=by
 obtain ⟨us,M,N,J⟩:=h;exact ⟨us,M,aC N I (fun _ _=>by simp),J⟩
theorem fW.kept {w W W':World} {base:Nat} {v:Value} {J:List (List Vl)} {D:Option Nat} (h:fW w W base v J) (U:W.grownBy W' D) (I:v.ownBlock=none∨v.ownBlock≠D):fW w W' base v J:=by
 obtain ⟨us,N,O,M⟩:=h;exact ⟨us,N,O.kept U I,M⟩
theorem fW.is {w W:World} {base:Nat} {v:Value} {D:List (List Vl)} (h:fW w W base v D) (I:aa [] w W):cF W v D:=by
 obtain ⟨us,O,N,U⟩:=h;obtain ⟨A,c,e,M,J⟩:=iD N;exact ⟨A,c,e,M,us,O,J,fun i a b=>(U i a b).keep I⟩
theorem g9 {w W':World} {base gw cap:Nat} {us:List Value} {D:List (List Vl)} {r:List Vl} {u:Value} (J:us.length=D.length) (O:∀ i (h:i<us.length) (h':i<D.length),fJ w [] us[i] D[i]) (N:fJ w [] u r)
  (I:W'.ownsRow base 89 1 (FN (some ⟨gw,0,none⟩) (D.length+1) cap) (D.length+1) (us++[u])):fW w W' base (FN (some ⟨gw,0,none⟩) (D.length+1) cap) (D++[r]):=by
 refine ⟨us++[u],by simp[J],by simpa using I,fun i a b=>?_⟩;by_cases M:i<us.length
 ·rw[List.getElem_append_left M,List.getElem_append_left (by omega)]
  exact O i M (by omega)
 have hi':i=us.length:=by simp at a;omega
 subst hi';rw[List.getElem_append_right (Fy _),List.getElem_append_right (by omega)];simpa[J] using N
end
section
open Go.RowKit
attribute [local go_sem] ag ab ae af
theorem oJ:(Tryz.prog.info? 46).map (fun i=>(i.zero,i.size,i.bytes))=some (some (.agg #[FR FS 0,FR FS 0,FM ⟨#[]⟩]),3,32):=by kernel_rfl
theorem yA (n:Nat) (hn:n≤4294967296) (w:World) :
  Calls Tryz.prog 172 #[FN none 0 0,FR FS (n:Int)] w fun e w'=>(∃ v,e=FP v∧w'.ownsRow w.heap.size 46 3 v 0 [])∧aa [] w w':=by
 by_cases h0:n=0
 ·subst h0
  go_enter Tryz.func172,Tryz.ntmps172
  go_wp2;go_ret;exact ⟨⟨_,rfl,World.ownsRow_nil _ _ _ _⟩,FK _ _⟩
 obtain ⟨i0,hi,N,O,D⟩:=info_parts oJ;have h:=Lib.run_append_grow_zeros w 89 3 89 46 i0 _ .i64 .i64 Tryz.underlying89 Tryz.underlying3 hi N none 0 0 [] (run_firstCells_none w.drew _ 0 0 0) n (by omega) (by rw[O];decide) (by omega) (by omega) (by rw[D];omega) (growslice_fits (by omega) (by rw[D];omega));have Z:grownCap w (0+n) 0 46≤maxLen:=grownCap_le_maxLen w (0+n) 0 46 (by unfold maxLen;omega);have M:0+n≤grownCap w (0+n) 0 46:=grownCap_ge w _ _ _;rw[Nat.zero_add] at h Z M;obtain ⟨G,U⟩:∃ G,grownCap w n 0 46=G:=⟨_,rfl⟩
 rw[U] at h Z M;obtain ⟨cs,I⟩:∃ cs,(([]:List Value).toArray++Builtin.zeroCells (.agg #[FR FS 0,FR FS 0,FM ⟨#[]⟩]:Value).cells n++Builtin.zeroCells (.agg #[FR FS 0,FR FS 0,FM ⟨#[]⟩]:Value).cells (G-n))=cs:=⟨_,rfl⟩
 rw[I] at h;have J:cs.size=G*3:=by
  rw[←I];simp[Builtin.zeroCells,Value.cells];omega
 have HZ:=Fx (gU (w:=w.drew) (e:=46) (size:=3) J Z);have ad:=Fx h;have h1:¬((n:Int)<0):=by omega
 have h4:(0:Int)<(n:Int):=by omega
 have av:G≤9223372036854775807:=by unfold maxLen at Z;omega
 clear h I J U hi N O D;go_enter Tryz.func172,Tryz.ntmps172
 go_wp2_with (at_builtin;refine Lib.wpList_append_run _ rfl _ _ _ _ rfl _ _ rfl rfl _ _ ad.out ?_)
 go_ret;exact ⟨⟨_,rfl,HZ.out⟩,((FK [] w).drew).alloc _⟩
theorem tu (D:List (Nat×List Value)) (us:List Value) (A0:Option Addr) (k0:Nat) (w:World) (aA:us.length=D.length) (hB:Rd w [] 1 A0 D.length us) (hu:∀ i (h:i<us.length) (h':i<D.length),DO w 3 us[i] D[i]) (hl:D.length≤4294967296) (J:dA D D.length≤4294967296) (U:∀ p∈D,∀ x∈p.2,x.oneCell'=true) :
  Calls Tryz.prog 145 #[FN A0 D.length k0] w fun e w'=>(∃ v,e=FP v∧w'.ownsRow w.heap.size 46 3 v (dA D D.length) (iP D D.length))∧aa [] w w':=by
 obtain ⟨ie,a9,a0,ad,a7⟩:=info_parts oJ;have HB:=Fx hB;have HU:=Fx hu;have a1:=Fx aA;have av:=Fx (fun m (h:m≤D.length)=>FD (rE D h) J);have bc:=Fx U;have a5:=Fx (yA (dA D D.length) J w);clear hB hu U aA J;go_enter Tryz.func145,Tryz.ntmps145
 go_wp2;go_loop [3,11] (fun s i=>∃ m:Nat,m≤D.length∧i=FR FS m∧s=FR FS (dA D m:Nat)) (fun _ i=>D.length-(intOf i).toNat)
 case atStart=>exact ⟨0,FF _,rfl,rfl⟩
 obtain ⟨m,hm,rfl,rfl⟩:=hrel;by_cases I:m<D.length
 ·obtain ⟨b,o,rfl,_,hb,hc⟩:=HB.out.open' (by omega) (by omega)
  have M:m<us.length:=by rw[a1.out];exact I
  have d1:=hc m _ (FA M);obtain ⟨A,c,he,hr⟩:=HU.out m M I;rw[he] at d1;have HS:=Fx (dx D m I);have N:=av.out (m+1) (by omega);rw[HS.out] at N;clear hc he hr;generalize dA D m=a at *;generalize D[m].1=n at *;have be:¬((a:Int)+(n:Int)<0):=by omega
  go_wp2;go_round
  case rel=>exact ⟨m+1,by omega,by go_num,by rw[HS.out];go_num⟩
  case measure=>simp[intOf];omega
 obtain rfl:m=D.length:=by omega
 go_wp2_with fail
 refine a5.out.mono ?_;rintro e w2 ⟨⟨v0,rfl,a2⟩,a6⟩;have bb:=Fx a2;have ba:=Fx a6;clear a2 a6 a5;go_wp2;go_loopw [6,27] (fun u i wx=>∃ (m:Nat) (v:Value),v=u∧m≤D.length∧i=FR FS m∧wx.ownsRow w.heap.size 46 3 v (dA D m) (iP D m)∧aa [] w wx) (fun _ i _=>D.length-(intOf i).toNat)
 case atStart=>exact ⟨0,v0,rfl,FF _,rfl,bb.out,ba.out⟩
 obtain ⟨m,v,rfl,bj,rfl,Z,hk⟩:=hrel;have HK:=Fx hk;have HO:=Fx Z;clear hk Z;by_cases I:m<D.length
 ·obtain ⟨b,o,rfl,_,hb,hc⟩:=(HB.out.keep HK.out).open' (by omega) (by omega)
  have M:m<us.length:=by rw[a1.out];exact I
  have d1:=hc m _ (FA M);obtain ⟨A,c,he,hr⟩:=HU.out m M I;rw[he] at d1;have N:=av.out (m+1) (by omega);rw[dx D m I] at N;obtain ⟨v',w',O,a3,a8⟩:=dw (P:=Tryz.prog) wr w.heap.size 89 89 46 ie _ 3 32 Tryz.underlying89 a9 a0 ad a7 rfl (by decide) HO.out (hr.keep HK.out) c (bc.out _ (FE I)) (by unfold maxLen;omega) (by omega) HK.out.size;have a4:=Fx O;have HO':Hid (w'.ownsRow w.heap.size 46 3 v' (dA D (m+1)) (iP D (m+1))):=Fx (by rw[dx D m I,lX D m I];exact a3);have HK':=Fx (HK.out.grown a8 (fun g hg=> .inr (HO.out.lt g hg).1));clear hc he hr O a3 a8 N;generalize D[m].1=n at *;go_wp2_with (at_builtin;refine Lib.wpList_append_run _ rfl _ _ _ _ rfl _ _ rfl rfl _ _ a4.out ?_)
  go_roundw
  case rel=>exact ⟨m+1,v',rfl,by omega,by go_num,HO'.out,HK'.out⟩
  case measure=>simp[intOf];omega
 obtain rfl:m=D.length:=by omega
 go_wp2;go_ret;exact ⟨⟨_,rfl,HO.out⟩,HK.out⟩
theorem oK (l:List Vl):∀ u∈al l,u.oneCell'=true:=fun u h=>by
 unfold al at h;obtain ⟨y,_,D⟩:=List.mem_flatMap.1 h;simp only[eH,List.mem_cons,List.not_mem_nil,or_false] at D;rcases D with rfl|rfl|rfl<;>rfl
theorem l9 (r:List Vl) (h1:1≤r.length) (h2:r.length≤4294967296) (A:Option Addr) (c:Nat) (w:World) (hA:Rd w [] 3 A r.length (al r)) :
  Calls Tryz.prog 139 #[FN A r.length c] w fun e w'=>(∃ v,e=FP v∧w'.ownsRow w.heap.size 46 3 v r.length (al r))∧aa [] w w':=by
 obtain ⟨iv,O,J,D,M⟩:=info_parts oJ;obtain ⟨b,o,rfl,_,hb,_⟩:=hA.open' (by omega) (by omega);have h:aa [] w (w.alloc (FQ #[] 46)):=(FK _ _).alloc _;have hz:=gU (w:=w) (e:=46) (cur:= #[]) (size:=3) (G:=0) rfl (by decide);obtain ⟨v',w',I,N,Z⟩:=dw (P:=Tryz.prog) (w.alloc (FQ #[] 46)) w.heap.size 89 89 46 iv _ 3 32 Tryz.underlying89 O J D M rfl (by decide) hz (hA.keep h) c (oK r) (by unfold maxLen;omega) (by omega) h.size;rw[Nat.zero_add,List.nil_append] at N;have U:=Fx I;have HO:=Fx N;have HK:=Fx (h.grown Z (fun g hg=> .inr (by injection hg with hg;rw[←hg];exact Fy _)));have ad:=fun W=>Lib.run_eql_slice_nil (P:=Tryz.prog) W 89 46 (some ⟨b,o,none⟩) r.length c 0 0 Tryz.underlying89
 clear h hz I N Z hA O J D M;go_enter Tryz.func139,Tryz.ntmps139
 go_wp2_with (at_builtin;refine Lib.wpList_append_run _ rfl _ _ _ _ rfl _ _ rfl rfl _ _ U.out ?_)
 go_ret;exact ⟨⟨_,rfl,HO.out⟩,HK.out⟩
end
section
open Go.RowKit Go.BigFrame
attribute [local go_sem] ag ab ae af
theorem vl (c:UInt8) (x:Bs) (r:List Bs):cR c (x::r)=x++Lib.joinTail [c] r:=by
 induction r generalizing x with
 | nil=>simp[cR,Lib.joinTail]
 | cons y t ih =>
  show x++c::cR c (y::t)=_;rw[ih y];simp[Lib.joinTail]
theorem oL (c:UInt8) {l:List Bs} (h:l≠[]):Lib.join l [c]=cR c l:=by
 cases l with
 | nil=>exact absurd rfl h
 | cons x r=>rw[Lib.join_cons,vl]
theorem AG (r:List Vl) (h1:1≤r.length) (h6:r.length≤4294967296) (hv:∀ v∈r,ea v.num∧v.word.length≤1000000000) (be:(bQ r).length≤140737488355328) (A:Option Addr) (c:Nat) (w:World) (hE:gG w) (hA:Rd w [] 3 A r.length (al r)) :
  Calls Tryz.prog 144 #[FN A r.length c] w fun e w'=>e=FP (FM (bs (bQ r)))∧aa [] w w':=by
 obtain ⟨is,br,a6,bc,ba⟩:=info_parts C7;have HV:=Fx (fun v (hm:v∈r) W (q:aa [] w W)=>xh v (hv v hm).1 (hv v hm).2 W (hE.quiet q));obtain ⟨b,o,rfl,_,hb,a2⟩:=hA.open' (by omega) (by omega);have O:=Fx a2;clear a2 hA hE hv;go_enter Tryz.func144,Tryz.ntmps144
 go_wp2;go_loopw [3,8] (fun u i wx=>∃ (m:Nat) (v:Value),v=u∧m≤r.length∧i=FR FS m∧wx.ownsRow w.heap.size 9 1 v m (strs ((r.take m).map bd))∧aa [] w wx) (fun _ i _=>r.length-(intOf i).toNat)
 case atStart=>exact ⟨0,_,rfl,FF _,rfl,World.ownsRow_nil _ _ _ _,FK _ _⟩
 obtain ⟨m,v,rfl,hm,rfl,N,hk⟩:=hrel;have HO:=Fx N;have U:=Fx hk;clear N hk;by_cases Z:m<r.length
 ·obtain ⟨x0,x1,x2⟩:=ay r m Z
  have d0:=U.out.cell_of (O.out _ _ x0) (by simp);have d1:=U.out.cell_of (O.out _ _ x1) (by simp);have d2:=U.out.cell_of (O.out _ _ x2) (by simp);rw[←Nat.add_assoc] at d1 d2;have a1:=Fx (HV.out r[m] (FE Z));have bb:(r.take (m+1)).map bd=(r.take m).map bd++[bd r[m]]:=by rw[List.take_succ_eq_append_getElem Z,List.map_append];rfl
  have bo:=Fx bb;clear bb x0 x1 x2;generalize r[m]=x at *;obtain ⟨xk,xn,xw⟩:=x;have bj:Hid (∀ W,aa [] w W→Calls Tryz.prog 170 #[.agg #[FR FS xk,FR FS xn,FM (bs xw)]] W fun e w'=>e=FP (FM (bs (bd ⟨xk,xn,xw⟩)))∧aa [] W w'):=a1;clear a1;generalize bd ⟨xk,xn,xw⟩=tx at *;have bZ:(0:Int)≤(m:Int):=by omega
  have b0:(m:Int)<(r.length:Int):=by omega
  have a5:=Fx (show m+1≤maxLen∧(m+1)*16≤140737488355328 by simp only[maxLen];omega);have hz:=U.out.size;go_wp2_with fail
  refine (bj.out _ (U.out.alloc _)).mono ?_;rintro e w5 ⟨rfl,av⟩;have a7:=Fx (aC (HO.out.alloc (FQ #[FR FS xk,FR FS xn,FM (bs xw)] 46)) av (fun _ _=>by simp));have a0:=Fx ((U.out.alloc _).trans av);have bX:=a0.out.size;clear av;go_wp2_with (at_builtin;(refine wpList_append_lies _ rfl _ _ 44 rfl w.heap.size 9 is _ 1 16 Tryz.underlying44 br a6 bc ba rfl (by decide) _ m (strs ((r.take m).map bd)) rfl (a7.out.alloc _) ⟨w5.heap.size,0,none⟩ 1 1 [FM (bs tx)] rfl rfl (FI (heap_alloc_new _ _)) (by simp[Value.oneCell']) (by decide) a5.out.1 a5.out.2 (by rw[ap];omega) _ rfl ?_);intro gw bz w8 D I a3 a8)
  have bq:=Fx ((a0.out.alloc (FQ #[FM (bs tx)] 9)).grown I (fun g hg=> .inr (a7.out.lt g hg).1));rw[←fE,←bo.out] at D;have bv:=Fx D;clear D I a3 a8;go_wp2;go_roundw
  case rel=>exact ⟨m+1,_,rfl,by omega,by go_num,bv.out,bq.out⟩
  case measure=>simp[intOf];omega
 obtain rfl:m=r.length:=by omega
 have hq:=HO.out;rw[List.take_length] at hq;obtain ⟨g,cap,rfl,bk,b1,hg,J⟩:=fP hq h1;have M:((r.map bd).map bs).length=r.length:=by simp
 have aA:((r.map bd).map bs).map (·.data.toList)=r.map bd:=by
  rw[List.map_map];exact (List.map_congr_left (fun x _=>rfl)).trans (List.map_id _)
 have ad:r.map bd≠[]:=fun h=>by
  have:=congrArg List.length h;simp at this;rw[this] at h1;simp at h1
 have HJ:=Tryz.strings_Join g 0 cap ((r.map bd).map bs) (bs [32]) wr (fun j x hx=>by
  rw[Nat.zero_add];refine J j _ ?_;unfold strs;rw[List.map_map,List.getElem?_map];rw[List.map_map,List.getElem?_map] at hx
  cases hr:r[j]? with
  | none=>rw[hr] at hx;cases hx
  | some y=>rw[hr] at hx;cases hx;rfl) hg (by rw[M];omega) (by rw[M];exact bk) (by
   rw[aA];show (Lib.join (r.map bd) [32]).length≤_;rw[oL 32 ad];exact be)
 rw[M,aA] at HJ;have a4:Lib.join (r.map bd) (bs [32]).data.toList=bQ r:=oL 32 ad;rw[a4] at HJ;have bm:=Fx HJ;clear hq J HJ a4 aA M ad;go_wp2_with fail
 refine bm.out.mono ?_;rintro e w6 ⟨rfl,a9⟩;have bl:=Fx (U.out.trans (aa.of_below a9));clear a9;go_wp2;go_ret;exact ⟨rfl,bl.out⟩
theorem tv (D:List (List Vl)) (m:Nat) (h:m<D.length) (seen:List Bs) (out:List (List Vl)):aB (D.drop m) seen out=if bQ D[m]∈seen then aB (D.drop (m+1)) seen out else aB (D.drop (m+1)) (bQ D[m]::seen) (out++[D[m]]):=by
 rw[List.drop_eq_getElem_cons h];conv=>lhs;unfold aB
theorem rM (D:List (List Vl)) (B:Option Addr) (d:Nat) (w:World) (hE:gG w) (hR:cM w [] B D) (hl:D.length≤4294967296) (I:∀ r∈D,1≤r.length∧r.length≤4294967296∧(∀ v∈r,ea v.num∧v.word.length≤1000000000)∧(bQ r).length≤1000000000) :
  Calls Tryz.prog 102 #[FN B D.length d] w fun e w'=>(∃ v,e=FP v∧cF w' v (aB D [] []))∧aa [] w w':=by
 obtain ⟨ir,co,bl,b0,bX⟩:=info_parts jw;have cq:= @run_makeMap Tryz.prog;have HT:=Fx (fun r (hm:r∈D) A c W (q:aa [] w W) (hA:Rd w [] 3 A r.length (al r))=>AG r (I r hm).1 (I r hm).2.1 (I r hm).2.2.1 (FD (I r hm).2.2.2 (by decide)) A c W (hE.quiet q) (hA.keep q));have HL:=Fx (fun r (hm:r∈D)=>(I r hm).2.2.2);clear I hE;have HR:=Fx hR;clear hR;have b3:=Fx ((FK [] w).alloc (.map #[] 0));have aA:=Fx (de.made (P:=Tryz.prog) (S:=9) (E:=4) w);go_enter Tryz.func102,Tryz.ntmps102
 go_wp2;obtain ⟨w2,a5⟩:∃ w2,(w.alloc (.map #[] 0))=w2:=⟨_,rfl⟩
 have ch:w2.heap.size=w.heap.size+1:=by rw[←a5,ap]
 rw[a5] at b3 aA ⊢;obtain ⟨bm,b9⟩:∃ bm,w.heap.size=bm:=⟨_,rfl⟩
 rw[b9] at aA ch ⊢;have c0:w.heap.size≤bm:=by omega
 clear a5 b9 cq;go_loopw [4,11] (fun u i wx=>∃ (m:Nat) (v:Value) (seen:List Bs) (out:List (List Vl)),v=u∧m≤D.length∧i=FR FS m∧out.length≤m∧Hid (de Tryz.prog 9 4 wx bm m seen)∧Hid (fW w wx w2.heap.size v out)∧Hid (aB (D.drop m) seen out=aB D [] [])∧aa [] w wx∧w2.heap.size≤wx.heap.size) (fun _ i _=>D.length-(intOf i).toNat)
 case atStart=>exact ⟨0,_,[],[],rfl,FF _,rfl,Fy _,aA,fW.nil _ _ _,rfl,b3.out,Fy _⟩
 obtain ⟨m,v,seen,out,rfl,hm,rfl,c3,HS,HG,HD,hk,cm⟩:=hrel;have HK:=Fx hk;clear hk;by_cases a2:m<D.length
 ·obtain ⟨us,cn,b4,b5⟩:=HR.out
  have b6:m<us.length:=by omega
  have bk:=b5 m b6 a2;obtain ⟨b7,o7,ce,_,c6,a8⟩:=b4.open' (by omega) (by omega);have d7:=a8 (m*1) us[m] (by rw[Nat.mul_one];exact FA b6);rw[Nat.mul_one] at d7;have U:D[m]∈D:=FE a2;have a0:=tv D m a2 seen out;rw[HD.out] at a0;generalize D[m]=r at *;have b8:=Fx bk;obtain ⟨Ar,cr,hu,c1,ba⟩:=bk;rw[hu] at b8 d7;have d8:=HK.out.cell_of d7 (by simp);subst ce;have a1:=Fx (HT.out r U Ar cr wr HK.out ba);have c4:=HL.out r U;have cz:(0:Int)≤(m:Int):=by omega
  have c5:(m:Int)<(D.length:Int):=by omega
  have b1:=Fx a0;clear a0 hu cn b4 b5 a8 d7 ba U;generalize bQ r=tx at *;go_wp2_with fail
  refine a1.out.mono ?_;rintro e w5 ⟨rfl,O⟩;have a3:=Fx (HS.out.keep O (by simp));have br:=Fx (HG.out.keep O);have a7:=Fx (HK.out.trans O);have bz:=FD cm O.size;clear O;have N:=a3.out.look (T:=125) Tryz.underlying125 Tryz.underlying9 Tryz.underlying4 (by kernel_rfl) tx (by simp only[maxLen];omega);by_cases J:tx∈seen
  ·rw[decide_eq_true J] at N
   have a4:Hid (aB (D.drop (m+1)) seen out=aB D [] []):=Fx (by rw[b1.out,if_pos J]);clear J a1;go_wp2;go_roundw
   case rel=>exact ⟨m+1,v,seen,out,rfl,by omega,by go_num,by omega,a3.out.mono (by omega),br.out,a4,a7.out,bz⟩
   case measure=>simp[intOf];omega
  rw[decide_eq_false J] at N;have a4:Hid (aB (D.drop (m+1)) (tx::seen) (out++[r])=aB D [] []):=Fx (by rw[b1.out,if_neg J]);obtain ⟨w6,cx,bv,Z⟩:=a3.out.store (T:=125) Tryz.underlying125 Tryz.underlying9 Tryz.underlying4 tx (by simp only[maxLen];omega) (by simp only[maxLen];omega);obtain ⟨uo,bZ,av,bq⟩:=br.out;have be:=fun g hg=>(av.lt g hg).1
  have ad:=av.kept Z (by
   cases hv:v.ownBlock with
   | none=>exact .inl rfl
   | some g=>exact .inr (fun e=>by
     injection e with e;have:=be g hv;omega))
  have a6:=Fx ad;have cg:=Fx bq;have cd:=Fx bZ;have bj:=Fx bv;have cj:=Fx (a7.out.grown Z (fun g hg=> .inr (by injection hg with hg;omega)));have ct:=FD bz Z.size;have bc:=Fx (show out.length+1≤maxLen∧(out.length+1)*24≤140737488355328 by simp only[maxLen];omega);clear J a1 av bq bZ ad bv Z be;go_wp2_with (at_builtin;(refine wpList_append_lies _ rfl _ _ 52 rfl w2.heap.size 89 ir _ 1 24 Tryz.underlying52 co bl b0 bX rfl (by decide) _ out.length uo rfl (a6.out.alloc _) ⟨w6.heap.size,0,none⟩ 1 1 [FN Ar r.length cr] rfl rfl (FI (heap_alloc_new _ _)) (by simp[Value.oneCell']) (by decide) bc.out.1 bc.out.2 (by rw[ap];omega) _ rfl ?_);intro gw cy w8 M h a9 bo)
  have cv:=Fx ((cj.out.alloc (FQ #[FN Ar r.length cr] 89)).grown h (fun g hg=> .inr (FD (by omega) (a6.out.lt g hg).1)));have ca:=Fx (g9 cd.out cg.out b8.out M);have cu:=Fx (bj.out.of_block (w':=w8) (by
   rw[h.block bm (by rw[ap];omega) (fun e=>by have:=(a6.out.lt bm e.symm).1;omega)];exact (((FK [] w6).alloc _).block bm bj.out.lt (by simp))))
  have ci:w2.heap.size≤w8.heap.size:=FD (FD ct (by rw[ap];omega)) h.size;clear M h a9 bo;go_wp2;go_roundw
  case rel=>exact ⟨m+1,_,_,_,rfl,by omega,by go_num,by simp;omega,cu,ca,a4,cv.out,ci⟩
  case measure=>simp[intOf];omega
 obtain rfl:m=D.length:=by omega
 have hd:=HD.out;rw[List.drop_length] at hd;have HF:=Fx (HG.out.is HK.out);have bb:out=aB D [] []:=hd;rw[bb] at HF;clear hd bb HD HG HS;go_wp2;go_ret;exact ⟨⟨_,rfl,HF.out⟩,HK.out⟩
end
section
open Go.RowKit
attribute [local go_sem] ag ab ae af
theorem tw:(Tryz.prog.info? 89).map (fun i=>(i.zero,i.size,i.bytes))=some (some (FN none 0 0),1,24):=by kernel_rfl
theorem yB (n:Nat) (hn:n≤4294967296) (w:World) :
  Calls Tryz.prog 143 #[FN none 0 0,FR FS (n:Int)] w fun e w'=>(∃ v,e=FP v∧w'.ownsRow w.heap.size 89 1 v 0 [])∧aa [] w w':=by
 by_cases h0:n=0
 ·subst h0
  go_enter Tryz.func143,Tryz.ntmps143
  go_wp2;go_ret;exact ⟨⟨_,rfl,World.ownsRow_nil _ _ _ _⟩,FK _ _⟩
 obtain ⟨i0,hi,N,O,D⟩:=info_parts tw;have h:=Lib.run_append_grow_zeros w 52 3 52 89 i0 _ .i64 .i64 Tryz.underlying52 Tryz.underlying3 hi N none 0 0 [] (run_firstCells_none w.drew _ 0 0 0) n (by omega) (by rw[O];decide) (by omega) (by omega) (by rw[D];omega) (growslice_fits (by omega) (by rw[D];omega));have Z:grownCap w (0+n) 0 89≤maxLen:=grownCap_le_maxLen w (0+n) 0 89 (by unfold maxLen;omega);have M:0+n≤grownCap w (0+n) 0 89:=grownCap_ge w _ _ _;rw[Nat.zero_add] at h Z M;obtain ⟨G,U⟩:∃ G,grownCap w n 0 89=G:=⟨_,rfl⟩
 rw[U] at h Z M;obtain ⟨cs,I⟩:∃ cs,(([]:List Value).toArray++Builtin.zeroCells (FN none 0 0:Value).cells n++Builtin.zeroCells (FN none 0 0:Value).cells (G-n))=cs:=⟨_,rfl⟩
 rw[I] at h;have J:cs.size=G*1:=by
  rw[←I];simp[Builtin.zeroCells,Value.cells];omega
 have HZ:=Fx (gU (w:=w.drew) (e:=89) (size:=1) J Z);have ad:=Fx h;have h1:¬((n:Int)<0):=by omega
 have h4:(0:Int)<(n:Int):=by omega
 have av:G≤9223372036854775807:=by unfold maxLen at Z;omega
 clear h I J U hi N O D;go_enter Tryz.func143,Tryz.ntmps143
 go_wp2_with (at_builtin;refine Lib.wpList_append_run _ rfl _ _ _ _ rfl _ _ rfl rfl _ _ ad.out ?_)
 go_ret;exact ⟨⟨_,rfl,HZ.out⟩,((FK [] w).drew).alloc _⟩
theorem tz (D:List (Nat×List Value)) (us:List Value) (A0:Option Addr) (k0:Nat) (w:World) (aA:us.length=D.length) (hB:Rd w [] 1 A0 D.length us) (hu:∀ i (h:i<us.length) (h':i<D.length),DO w 1 us[i] D[i]) (hl:D.length≤4294967296) (J:dA D D.length≤4294967296) (U:∀ p∈D,∀ x∈p.2,x.oneCell'=true) :
  Calls Tryz.prog 101 #[FN A0 D.length k0] w fun e w'=>(∃ v,e=FP v∧w'.ownsRow w.heap.size 89 1 v (dA D D.length) (iP D D.length))∧aa [] w w':=by
 obtain ⟨ie,a9,a0,ad,a7⟩:=info_parts tw;have HB:=Fx hB;have HU:=Fx hu;have a1:=Fx aA;have av:=Fx (fun m (h:m≤D.length)=>FD (rE D h) J);have bc:=Fx U;have a5:=Fx (yB (dA D D.length) J w);clear hB hu U aA J;go_enter Tryz.func101,Tryz.ntmps101
 go_wp2;go_loop [3,11] (fun s i=>∃ m:Nat,m≤D.length∧i=FR FS m∧s=FR FS (dA D m:Nat)) (fun _ i=>D.length-(intOf i).toNat)
 case atStart=>exact ⟨0,FF _,rfl,rfl⟩
 obtain ⟨m,hm,rfl,rfl⟩:=hrel;by_cases I:m<D.length
 ·obtain ⟨b,o,rfl,_,hb,hc⟩:=HB.out.open' (by omega) (by omega)
  have M:m<us.length:=by rw[a1.out];exact I
  have d1:=hc m _ (FA M);obtain ⟨A,c,he,hr⟩:=HU.out m M I;rw[he] at d1;have HS:=Fx (dx D m I);have N:=av.out (m+1) (by omega);rw[HS.out] at N;clear hc he hr;generalize dA D m=a at *;generalize D[m].1=n at *;have be:¬((a:Int)+(n:Int)<0):=by omega
  go_wp2;go_round
  case rel=>exact ⟨m+1,by omega,by go_num,by rw[HS.out];go_num⟩
  case measure=>simp[intOf];omega
 obtain rfl:m=D.length:=by omega
 go_wp2_with fail
 refine a5.out.mono ?_;rintro e w2 ⟨⟨v0,rfl,a2⟩,a6⟩;have bb:=Fx a2;have ba:=Fx a6;clear a2 a6 a5;go_wp2;go_loopw [6,27] (fun u i wx=>∃ (m:Nat) (v:Value),v=u∧m≤D.length∧i=FR FS m∧wx.ownsRow w.heap.size 89 1 v (dA D m) (iP D m)∧aa [] w wx) (fun _ i _=>D.length-(intOf i).toNat)
 case atStart=>exact ⟨0,v0,rfl,FF _,rfl,bb.out,ba.out⟩
 obtain ⟨m,v,rfl,bj,rfl,Z,hk⟩:=hrel;have HK:=Fx hk;have HO:=Fx Z;clear hk Z;by_cases I:m<D.length
 ·obtain ⟨b,o,rfl,_,hb,hc⟩:=(HB.out.keep HK.out).open' (by omega) (by omega)
  have M:m<us.length:=by rw[a1.out];exact I
  have d1:=hc m _ (FA M);obtain ⟨A,c,he,hr⟩:=HU.out m M I;rw[he] at d1;have N:=av.out (m+1) (by omega);rw[dx D m I] at N;obtain ⟨v',w',O,a3,a8⟩:=dw (P:=Tryz.prog) wr w.heap.size 52 52 89 ie _ 1 24 Tryz.underlying52 a9 a0 ad a7 rfl (by decide) HO.out (hr.keep HK.out) c (bc.out _ (FE I)) (by unfold maxLen;omega) (by omega) HK.out.size;have a4:=Fx O;have HO':Hid (w'.ownsRow w.heap.size 89 1 v' (dA D (m+1)) (iP D (m+1))):=Fx (by rw[dx D m I,lX D m I];exact a3);have HK':=Fx (HK.out.grown a8 (fun g hg=> .inr (HO.out.lt g hg).1));clear hc he hr O a3 a8 N;generalize D[m].1=n at *;go_wp2_with (at_builtin;refine Lib.wpList_append_run _ rfl _ _ _ _ rfl _ _ rfl rfl _ _ a4.out ?_)
  go_roundw
  case rel=>exact ⟨m+1,v',rfl,by omega,by go_num,HO'.out,HK'.out⟩
  case measure=>simp[intOf];omega
 obtain rfl:m=D.length:=by omega
 go_wp2;go_ret;exact ⟨⟨_,rfl,HO.out⟩,HK.out⟩
end
section
open Go.RowKit Go.BigFrame
def iL (us:List (Value×Value)):List Value:=us.flatMap fun p=>[p.1,p.2]
theorem lz (l:List (Value×Value)) (k:Nat) (h:k<l.length):(iL l)[k*2]? = some l[k].1∧(iL l)[k*2+1]? = some l[k].2:=by
 induction l generalizing k with
 | nil=>simp at h
 | cons p l ih =>
  rcases k with _|k
  ·simp[iL]
  have:=ih k (by simpa using h);simpa[iL,Nat.succ_mul] using this
theorem vo (us:List (Value×Value)) (p:Value×Value):iL (us++[p])=iL us++[p.1,p.2]:=by simp[iL]
def pR (w:World) (u:Value×Value) (t:Tb):Prop:=gA w u.1 t.cols∧cF w u.2 t.rows
def eE (w:World) (A:Option Addr) (D:List Tb):Prop :=
 ∃ us:List (Value×Value),us.length=D.length∧Rd w [] 2 A D.length (iL us)∧∀ i (h:i<us.length) (h':i<D.length),pR w us[i] D[i]
structure AI (t:Tb):Prop where
 names:∀ x∈t.cols,x.name.length≤1000000000
 ln:t.cols.length≤4294967296
 lm:t.rows.length≤4294967296
 lr:∀ r∈t.rows,r.length≤4294967296
theorem pR.keep {w w':World} {u:Value×Value} {t:Tb} (h:pR w u t) (D:aa [] w w'):pR w' u t:=⟨h.1.keep D,h.2.keep D⟩
theorem eE.keep {w w':World} {A:Option Addr} {I:List Tb} (h:eE w A I) (D:aa [] w w'):eE w' A I:=by
 obtain ⟨us,M,N,J⟩:=h;exact ⟨us,M,N.keep D,fun i a b=>(J i a b).keep D⟩
def qE (R:Except Int (List Tb)) (e:Ending) (w':World):Prop:=match R with
 | .error x=>e=FP (.tuple #[FN none 0 0,.iface 37 (FR FS x)])
 | .ok l=>∃ B d,e=FP (.tuple #[FN B l.length d,.nilIface])∧l.length≤d∧eE w' B l
theorem AJ {out:List (List Cl)} {D:List (List (List Vl))} {i:Nat} (I:i<out.length) (J:i<D.length) (h:60<D[i].length):dh out D= .error 12:=by
 induction D generalizing out i with
 | nil=>simp at J
 | cons r N ih =>
  cases out with
  | nil=>simp at I
  | cons c cs =>
   unfold dh;split
   ·rfl
   rename_i M;rcases i with _|i
   ·exact absurd h M
   rw[ih (out:=cs) (i:=i) (by simpa using I) (by simpa using J) (by simpa using h)]
theorem yC {out:List (List Cl)} {D:List (List (List Vl))} (h:out.length=D.length) (I:∀ i (h:i<D.length),D[i].length≤60):dh out D= .ok (List.zipWith Tb.mk out D):=by
 induction D generalizing out with
 | nil =>
  have:out=[]:=List.eq_nil_of_length_eq_zero (by simpa using h);rw[this];rfl
 | cons r M ih =>
  cases out with
  | nil=>simp at h
  | cons c cs =>
   unfold dh;rw[if_neg (by have:=I 0 (by simp);simp at this;omega),ih (by simpa using h) (fun i J=>by have:=I (i+1) (by simpa using J);simpa using this)];rfl
theorem lA {j:Jb} {ins:List (List Cl)} {out:List (List Cl)} (h:aL j ins= .ok out):out.length=if j.code=9 then 2 else 1:=by
 unfold aL at h;split at h
 ·cases h
 split at h
 ·unfold aX at h
  split at h
  ·cases h
  split at h
  ·cases h
  split at h
  ·cases h
  injection h with h;rw[←h,List.length_replicate]
 rename_i I;rw[if_neg (fun e=>I (.inr e))];have D:∀ {c:List Cl},out=[c]→out.length=1:=fun e=>by rw[e];rfl
 split at h
 ·unfold jQ at h
  split at h
  ·cases h
  split at h
  ·cases h
  split at h
  ·cases h
  injection h with h;exact D h.symm
 split at h
 ·unfold cw at h
  split at h
  ·cases h
  split at h
  ·cases h
  injection h with h;exact D h.symm
 split at h
 ·split at h
  ·cases h
  injection h with h;exact D h.symm
 split at h
 ·unfold dj at h
  split at h
  ·cases h
  split at h
  ·split at h
   ·cases h
   split at h
   ·cases h
   split at h
   ·cases h
   injection h with h;exact D h.symm
  cases h
 split at h
 ·unfold cI at h
  split at h
  ·cases h
  split at h
  ·split at h
   ·cases h
   split at h
   ·cases h
   injection h with h;exact D h.symm
  cases h
 injection h with h;exact D h.symm
theorem tB {j:Jb} {ins:List Tb} {out:List (List Cl)} {D:List (List (List Vl))} (M:out.length=if j.code=9 then 2 else 1) (h:bp j ins out= .ok D):out.length=D.length:=by
 have I:∀ {c:List (List Vl)},j.code≠9→D=[c]→out.length=D.length:=fun hn e=>by rw[M,if_neg hn,e];rfl
 unfold bp at h;simp only at h;by_cases O:j.code=4
 ·rw[if_pos O] at h;injection h with h;exact I (by omega) h.symm
 rw[if_neg O] at h;by_cases Z:j.code=7
 ·rw[if_pos Z] at h;injection h with h;exact I (by omega) h.symm
 rw[if_neg Z] at h;by_cases U:j.code=8
 ·rw[if_pos U] at h
  split at h
  ·cases h
  injection h with h;exact I (by omega) h.symm
 rw[if_neg U] at h;unfold eW at h;simp only at h;split at h
 ·injection h with h
  rw[←h,FH];show out.length=min out.length 2;rw[M];split<;>rfl
 rename_i N;rw[M,if_neg (fun e=>N (.inr e))];have J:∀ {c:List (List Vl)},D=[c]→1=D.length:=fun e=>by rw[e];rfl
 split at h
 ·split at h
  ·cases h
  injection h with h;exact J h.symm
 split at h
 ·injection h with h;exact J h.symm
 split at h
 ·injection h with h;exact J h.symm
 injection h with h;exact J h.symm
def mJ (w W:World) (base:Nat) (v:Value) (D:List (List Cl)):Prop :=
 ∃ us:List Value,us.length=D.length∧W.ownsRow base 51 1 v D.length us∧∀ i (h:i<us.length) (h':i<D.length),gA w us[i] D[i]
theorem mJ.nil (w W:World) (base:Nat):mJ w W base (FN none 0 0) []:=⟨[],rfl,World.ownsRow_nil _ _ _ _,fun i h=>by simp at h⟩
theorem mJ.is {w W:World} {base:Nat} {v:Value} {D:List (List Cl)} (h:mJ w W base v D) (I:aa [] w W):∃ A c,v=FN A D.length c∧D.length≤c∧aU W A D:=by
 obtain ⟨us,O,N,U⟩:=h;obtain ⟨A,c,e,M,J⟩:=iD N;exact ⟨A,c,e,M,us,O,J,fun i a b=>(U i a b).keep I⟩
theorem vp {w W':World} {base gw cap:Nat} {us:List Value} {D:List (List Cl)} {l:List Cl} {u:Value} (J:us.length=D.length) (O:∀ i (h:i<us.length) (h':i<D.length),gA w us[i] D[i]) (N:gA w u l)
  (I:W'.ownsRow base 51 1 (FN (some ⟨gw,0,none⟩) (D.length+1) cap) (D.length+1) (us++[u])):mJ w W' base (FN (some ⟨gw,0,none⟩) (D.length+1) cap) (D++[l]):=by
 refine ⟨us++[u],by simp[J],by simpa using I,fun i a b=>?_⟩;by_cases M:i<us.length
 ·rw[List.getElem_append_left M,List.getElem_append_left (by omega)]
  exact O i M (by omega)
 have hi':i=us.length:=by simp at a;omega
 subst hi';rw[List.getElem_append_right (Fy _),List.getElem_append_right (by omega)];simpa[J] using N
def ia (w W:World) (base:Nat) (v:Value) (D:List Tb):Prop :=
 ∃ us:List (Value×Value),us.length=D.length∧W.ownsRow base 54 2 v D.length (iL us)∧∀ i (h:i<us.length) (h':i<D.length),pR w us[i] D[i]
theorem ia.nil (w W:World) (base:Nat):ia w W base (FN none 0 0) []:=⟨[],rfl,World.ownsRow_nil _ _ _ _,fun i h=>by simp at h⟩
theorem ia.is {w W:World} {base:Nat} {v:Value} {D:List Tb} (h:ia w W base v D) (I:aa [] w W):∃ A c,v=FN A D.length c∧D.length≤c∧eE W A D:=by
 obtain ⟨us,O,N,U⟩:=h;obtain ⟨A,c,e,M,J⟩:=iD N;exact ⟨A,c,e,M,us,O,J,fun i a b=>(U i a b).keep I⟩
theorem oM {w W':World} {base gw cap:Nat} {us:List (Value×Value)} {D:List Tb} {t:Tb} {u x:Value} (J:us.length=D.length) (U:∀ i (h:i<us.length) (h':i<D.length),pR w us[i] D[i]) (O:gA w u t.cols) (N:cF w x t.rows)
  (I:W'.ownsRow base 54 2 (FN (some ⟨gw,0,none⟩) (D.length+1) cap) (D.length+1) (iL us++[u,x])):ia w W' base (FN (some ⟨gw,0,none⟩) (D.length+1) cap) (D++[t]):=by
 refine ⟨us++[(u,x)],by simp[J],by rw[vo];simpa using I,fun i a b=>?_⟩;by_cases M:i<us.length
 ·rw[List.getElem_append_left M,List.getElem_append_left (by omega)]
  exact U i M (by omega)
 have hi':i=us.length:=by simp at a;omega
 subst hi';rw[List.getElem_append_right (Fy _),List.getElem_append_right (by omega)];have:D.length=us.length:=J.symm;simp only[Nat.sub_self,this,List.getElem_cons_zero];exact ⟨O,N⟩
theorem oN {W:World} {b:Nat} {t:TypeId} {v0 U O v3 v4 v5 v6 v7 Z v9 I N M J D:Value} (h:ao W b t #[v0,U,O,v3,v4,v5,v6,v7,Z,v9,I,N,M,J,D]) :
  W.cell? ⟨b,0,none⟩=some v0∧W.cell? ⟨b,1,none⟩=some U∧W.cell? ⟨b,2,none⟩=some O∧W.cell? ⟨b,3,none⟩=some v3∧W.cell? ⟨b,4,none⟩=some v4∧W.cell? ⟨b,5,none⟩=some v5∧W.cell? ⟨b,6,none⟩=some v6∧W.cell? ⟨b,7,none⟩=some v7∧W.cell? ⟨b,8,none⟩=some Z∧W.cell? ⟨b,9,none⟩=some v9∧W.cell? ⟨b,10,none⟩=some I∧W.cell? ⟨b,11,none⟩=some N∧W.cell? ⟨b,12,none⟩=some M∧W.cell? ⟨b,13,none⟩=some J∧W.cell? ⟨b,14,none⟩=some D :=
 ⟨h.cell 0,h.cell 1,h.cell 2,h.cell 3,h.cell 4,h.cell 5,h.cell 6,h.cell 7,h.cell 8,h.cell 9,h.cell 10,h.cell 11,h.cell 12,h.cell 13,h.cell 14⟩
end
section
open Go.RowKit Go.BigFrame
attribute [local go_sem] ag ab ae af
attribute [local go_sem] KW.cell
theorem yD {cs:List Cl} {r:List Vl} (h:fv cs r=true):∀ v∈r,eS v=true:=fun v J=>by
 unfold fv at h;simp only[Bool.and_eq_true,decide_eq_true_eq,List.all_eq_true] at h;obtain ⟨k,I,rfl⟩:=List.getElem_of_mem J;have D:=h.2 k (List.mem_range.2 I);unfold ke at D;rw[FA I,FA (by omega)] at D;simp only[Bool.and_eq_true] at D;exact D.2
theorem qF (c:UInt8) (M:Nat):∀ l:List Bs,(∀ x∈l,x.length≤M)→(cR c l).length≤(M+1)*l.length
 | [],_=>by simp[cR]
 | [x],h=>by have:=h x (by simp);simp[cR];omega
 | x::y::l,h=>by
  have ih:=qF c M (y::l) (fun z D=>h z (by simp[D]));have I:=h x (by simp);show (x++c::cR c (y::l)).length≤_;simp only[Fz,FG] at ih ⊢;rw[Nat.mul_succ];omega
theorem yE {t:Tb} (h:ak t=true):∀ r∈t.rows,1≤r.length∧r.length≤4294967296∧(∀ v∈r,ea v.num∧v.word.length≤1000000000)∧(bQ r).length≤1000000000:=fun r N=>by
 obtain ⟨M,h2,O⟩:=aG.1 h;have D:=O r N;have I:=yD D;have hl:r.length=t.cols.length:=by
  unfold fv at D;simp only[Bool.and_eq_true,decide_eq_true_eq] at D;exact D.1
 have Z:1≤t.cols.length∧t.cols.length≤6:=by
  unfold cp at M;simp only[Bool.and_eq_true,decide_eq_true_eq] at M;exact M.1
 refine ⟨by omega,by omega,fun v J=>⟨(uq (I v J)).2.1,by have:=(uq (I v J)).2.2;omega⟩,?_⟩;have:=qF 32 21 (r.map bd) (fun x U=>by
  obtain ⟨v,J,rfl⟩:=List.mem_map.1 U;exact (uq (I v J)).1)
 rw[List.length_map] at this;unfold bQ;have:(21+1)*r.length≤22*6:=Nat.mul_le_mul_left 22 (by omega);omega
theorem Ea (t:Tb) (hr:ak t=true) (OA:Option Addr) (no od:Nat) (b o:Nat) (nt ct:Nat) (A B:Option Addr) (c d:Nat) (a2:1≤nt) (D h lk ln rk rn:Int) (outs cols:List Bs) (op lc lw rc I:Bs) (O:Option Addr) (co:Nat) (U:Option Addr) (ni Z:Nat) (Ac:Option Addr) (cc:Nat) (w:World)
  (a1:w.cell? ⟨b,o,none⟩=some (FN A t.cols.length c)) (a5:w.cell? ⟨b,o+1,none⟩=some (FN B t.rows.length d)) (hT:aZ w t A B c d) (hE:gG w) :
  Calls Tryz.prog 64 #[.agg #[FR FS D,FR FS 6,FN O outs.length co,FN U ni Z,FN Ac cols.length cc,FM (bs op),FM (bs lc),FR FS lk,FR FS ln,FM (bs lw),FM (bs rc),FR FS rk,FR FS rn,FM (bs I),FR FS h],FN (some ⟨b,o,none⟩) nt ct,FN OA no od] w fun e w'=>dC (.ok [aB t.rows [] []]) e w'∧aa [] w w':=by
 have a4:(0:Int)<(nt:Int):=by omega
 have HT:=Fx hT;have a3:b<w.heap.size:=FC _ _ a1;have J:Hid (aa [] w ((w.alloc (FQ #[FR FS D,FR FS 6,FN O outs.length co,FN U ni Z,FN Ac cols.length cc,FM (bs op),FM (bs lc),FR FS lk,FR FS ln,FM (bs lw),FM (bs rc),FR FS rk,FR FS rn,FM (bs I),FR FS h] 50)).alloc (FQ #[FN A t.cols.length c,FN B t.rows.length d] 54))):=Fx (((FK _ _).alloc _).alloc _);have aA:=Fx (ao.alloc (FL w 50 #[FR FS D,FR FS 6,FN O outs.length co,FN U ni Z,FN Ac cols.length cc,FM (bs op),FM (bs lc),FR FS lk,FR FS ln,FM (bs lw),FM (bs rc),FR FS rk,FR FS rn,FM (bs I),FR FS h]) (FQ #[FN A t.cols.length c,FN B t.rows.length d] 54));have N:=Fx (FL (w.alloc (FQ #[FR FS D,FR FS 6,FN O outs.length co,FN U ni Z,FN Ac cols.length cc,FM (bs op),FM (bs lc),FR FS lk,FR FS ln,FM (bs lw),FM (bs rc),FR FS rk,FR FS rn,FM (bs I),FR FS h] 50)) 54 #[FN A t.cols.length c,FN B t.rows.length d]);rw[ap] at N;have a0:=Fx (fun W (q:aa [] w W)=>rM t.rows B d W (hE.quiet q) (hT.rows.keep q) hT.lm (yE hr));generalize aB t.rows [] []=DG at *;clear hT;go_enter Tryz.func64,Tryz.ntmps64
 go_wp2_with fail
 refine (a0.out _ J.out).mono ?_;rintro e w5 ⟨⟨v,rfl,hv⟩,M⟩;have HV:=Fx hv;have ad:=Fx (J.out.trans M);obtain ⟨A3,c3,av,_,_⟩:=HV.out;subst av;clear hv M aA N;go_wp2;go_ret2;exact ⟨⟨_,1,rfl,Fy _,eq HV.out _⟩,ad.out.alloc _⟩
theorem Eb (t u:Tb) (OA:Option Addr) (no od:Nat) (b o:Nat) (nt ct:Nat) (A B:Option Addr) (c d:Nat) (bv:2≤nt) (I D lk ln rk rn:Int) (outs cols:List Bs) (op lc lw rc M:Bs) (Ao:Option Addr) (co:Nat) (Ai:Option Addr) (ni ci:Nat) (Ac:Option Addr) (cc:Nat) (w:World)
  (a2:w.cell? ⟨b,o,none⟩=some (FN A t.cols.length c)) (bb:w.cell? ⟨b,o+1,none⟩=some (FN B t.rows.length d)) (hT:aZ w t A B c d) (A2 B2:Option Addr) (c2 d2:Nat)
  (a3:w.cell? ⟨b,o+1*2+1,none⟩=some (FN B2 u.rows.length d2)) (hU:aZ w u A2 B2 c2 d2) (bq:t.rows.length≤100) (bm:u.rows.length≤100) :
  Calls Tryz.prog 64 #[.agg #[FR FS I,FR FS 5,FN Ao outs.length co,FN Ai ni ci,FN Ac cols.length cc,FM (bs op),FM (bs lc),FR FS lk,FR FS ln,FM (bs lw),FM (bs rc),FR FS rk,FR FS rn,FM (bs M),FR FS D],FN (some ⟨b,o,none⟩) nt ct,FN OA no od] w fun e w'=>dC (.ok [t.rows++u.rows]) e w'∧aa [] w w':=by
 have br:(0:Int)<(nt:Int):=by omega
 have HT:=Fx hT;have bo:b<w.heap.size:=FC _ _ a2;have O:Hid (aa [] w ((w.alloc (FQ #[FR FS I,FR FS 5,FN Ao outs.length co,FN Ai ni ci,FN Ac cols.length cc,FM (bs op),FM (bs lc),FR FS lk,FR FS ln,FM (bs lw),FM (bs rc),FR FS rk,FR FS rn,FM (bs M),FR FS D] 50)).alloc (FQ #[FN A t.cols.length c,FN B t.rows.length d] 54))):=Fx (((FK _ _).alloc _).alloc _);have a0:=Fx (ao.alloc (FL w 50 #[FR FS I,FR FS 5,FN Ao outs.length co,FN Ai ni ci,FN Ac cols.length cc,FM (bs op),FM (bs lc),FR FS lk,FR FS ln,FM (bs lw),FM (bs rc),FR FS rk,FR FS rn,FM (bs M),FR FS D]) (FQ #[FN A t.cols.length c,FN B t.rows.length d] 54));have J:=Fx (FL (w.alloc (FQ #[FR FS I,FR FS 5,FN Ao outs.length co,FN Ai ni ci,FN Ac cols.length cc,FM (bs op),FM (bs lc),FR FS lk,FR FS ln,FM (bs lw),FM (bs rc),FR FS rk,FR FS rn,FM (bs M),FR FS D] 50)) 54 #[FN A t.cols.length c,FN B t.rows.length d]);rw[ap] at J;have bX:(1:Int)<(nt:Int):=by omega
 obtain ⟨us,av,a6,aA⟩:=hT.rows;obtain ⟨vs,a7,a5,Z⟩:=hU.rows;have bc:Hid (∀ W g,aa [] w W→ao W g 52 #[FN B t.rows.length d,FN B2 u.rows.length d2]→Calls Tryz.prog 101 #[FN (some ⟨g,0,none⟩) 2 2] W fun e w'=>(∃ v,e=FP v∧cF w' v (t.rows++u.rows))∧aa [] W w'):=Fx (fun W g q hb=>by
  have h:=tz [(t.rows.length,us),(u.rows.length,vs)] [FN B t.rows.length d,FN B2 u.rows.length d2] (some ⟨g,0,none⟩) 2 W rfl ⟨rfl,fun _=>⟨_,rfl,by simp,hb.lt,fun j x hx=>by rw[cJ,Nat.zero_add,hb.cell j];simpa using hx⟩⟩ (fun i h1 h2=>by
   match i,h1 with
   | 0,_=>exact ⟨B,d,rfl,a6.keep q⟩
   | 1,_=>exact ⟨B2,d2,rfl,a5.keep q⟩) (by simp) (by simp[dA];omega) (fun p hp x hx=>by
   simp only[List.mem_cons,List.not_mem_nil,or_false] at hp;rcases hp with rfl|rfl
   ·obtain ⟨i,U,rfl⟩:=List.getElem_of_mem hx
    obtain ⟨_,_,e,_⟩:=aA i U (by simp only at U;omega);simp only at e ⊢;rw[e];rfl
   obtain ⟨i,U,rfl⟩:=List.getElem_of_mem hx;obtain ⟨_,_,e,_⟩:=Z i U (by simp only at U;omega);simp only at e ⊢;rw[e];rfl)
  refine h.mono ?_;rintro e w' ⟨⟨v,rfl,ba⟩,hk⟩;refine ⟨⟨v,rfl,?_⟩,hk⟩;have e1:dA [(t.rows.length,us),(u.rows.length,vs)] 2=(t.rows++u.rows).length:=by simp[dA]
  have e2:iP [(t.rows.length,us),(u.rows.length,vs)] 2=us++vs:=by simp[iP]
  have ad:w'.ownsRow W.heap.size 89 1 v (t.rows++u.rows).length (us++vs):=by rw[←e1,←e2];exact ba
  obtain ⟨A3,c3,e3,be,bk⟩:=iD ad;refine ⟨A3,c3,e3,be,us++vs,by simp[av,a7],bk,fun i h1 h2=>?_⟩;by_cases U:i<us.length
  ·rw[List.getElem_append_left U,List.getElem_append_left (by omega)]
   exact (aA i U (by omega)).keep (q.trans hk)
  rw[List.getElem_append_right (by omega),List.getElem_append_right (by omega)];have:=Z (i-us.length) (by simp at h1;omega) (by simp at h1;omega);simp only[av] at this ⊢;exact this.keep (q.trans hk))
 generalize t.rows++u.rows=DG at *;clear hT hU av a6 aA a7 a5 Z;go_enter Tryz.func64,Tryz.ntmps64
 go_wp2;obtain ⟨N,a8⟩:∃ N,((w.alloc (FQ #[FR FS I,FR FS 5,FN Ao outs.length co,FN Ai ni ci,FN Ac cols.length cc,FM (bs op),FM (bs lc),FR FS lk,FR FS ln,FM (bs lw),FM (bs rc),FR FS rk,FR FS rn,FM (bs M),FR FS D] 50)).alloc (FQ #[FN A t.cols.length c,FN B t.rows.length d] 54))=N:=⟨_,rfl⟩
 rw[a8] at O a0 J ⊢;obtain ⟨bx,a4⟩:∃ bx,w.heap.size=bx:=⟨_,rfl⟩
 rw[a4] at a0 J ⊢;have e3:N.cell? ⟨b,o+1*2+1,none⟩=some (FN B2 u.rows.length d2):=O.out.cell_of a3 (by simp);have e4:N.cell? ⟨bx+1,1,none⟩=some (FN B t.rows.length d):=J.out.cell 1;have bl:b<N.heap.size:=FC _ _ e3;have bz:bx+1<N.heap.size:=J.out.lt;clear a8 a4 a2 bb a3;go_region_held3 (fun w'=>w'.cell? ⟨b,o+1*2+1,none⟩=some (FN B2 u.rows.length d2)∧w'.cell? ⟨bx+1,1,none⟩=some (FN B t.rows.length d)) (first|exact ⟨(((FK [] N).drew.alloc _).trans k5).cell_of e3 (by simp),(((FK [] N).drew.alloc _).trans k5).cell_of e4 (by simp)⟩|exact ⟨e3,e4⟩|go_keep) (first|(go_at_call 101;refine (bc.out _ _ (O.out.trans ((FK [] N).drew.alloc _)) (FL _ _ _)).mono ?_;rintro e w5 ⟨⟨v,rfl,hv⟩,k5⟩;obtain ⟨A3,c3,bj,a9,a1⟩:=hv;subst bj))
 go_wp2;go_ret2;exact ⟨⟨_,1,rfl,Fy _,eq ⟨A3,c3,rfl,a9,a1⟩ _⟩,(O.out.trans (((FK [] N).drew.alloc _).trans k5)).alloc _⟩
end
section
open Go.RowKit Go.BigFrame
attribute [local go_sem] ag ab ae af KW.cell
theorem yF (A:Option Addr) (m d n:Nat) (h:n≤d) (W:World):(Instr.slice 89 (FN A m d) none (some (FR FS (n:Int))) none).run Tryz.prog W= .ok (FN A n d) W:=by
 have J:=Tryz.underlying89;have I:(0:Int)≤(n:Int):=by omega
 have D:(n:Int)≤(d:Int):=by omega
 cases A with
 | none=>go_simp
 | some a=>go_simp
theorem tC (b o n d D:Nat) (O:D≤n) (U:n≤d):∃ A,(∀ W,(Instr.slice 89 (FN (some ⟨b,o,none⟩) n d) (some (FR FS (D:Int))) none none).run Tryz.prog W= .ok (FN A (n-D) (d-D)) W)∧(D<d→A=some ⟨b,o+D*3,none⟩):=by
 have N:=Tryz.underlying89;have M:(0:Int)≤(D:Int):=by omega
 have I:(D:Int)≤(n:Int):=by omega
 have J:(n:Int)≤(d:Int):=by omega
 by_cases h:D=d
 ·subst h
  refine ⟨some ⟨b,o,none⟩,fun W=>?_,fun h=>absurd h (by omega)⟩;go_simp
 refine ⟨some ⟨b,o+D*3,none⟩,fun W=>?_,fun _=>rfl⟩;go_simp
 exact fun e=>absurd e.symm h
theorem AK {w:World} {A:Option Addr} {l:List Vl} {n:Nat} (h:Rd w [] 3 A l.length (al l)) (M:n≤l.length):Rd w [] 3 A n (al (l.take n)):=by
 refine ⟨by rw[fI,FH,Nat.min_eq_left M],fun Z=>?_⟩;obtain ⟨J,e,O,D,U⟩:=h.2 (by omega);refine ⟨J,e,O,D,fun j u I=>U j u ?_⟩;have N:al l=al (l.take n)++al (l.drop n):=by
  rw[←iR,List.take_append_drop]
 rw[N,List.getElem?_append_left (List.getElem?_eq_some_iff.1 I).1];exact I
theorem AL {w:World} {b o:Nat} {l:List Vl} {n:Nat} {A:Option Addr} (h:Rd w [] 3 (some ⟨b,o,none⟩) l.length (al l)) (Z:n≤l.length) (M:n<l.length→A=some ⟨b,o+n*3,none⟩):Rd w [] 3 A (l.length-n) (al (l.drop n)):=by
 refine ⟨by rw[fI,List.length_drop],fun h0=>?_⟩;obtain ⟨ad,e,J,D,U⟩:=h.2 (by omega);injection e with e;subst e;refine ⟨_,M (by omega),J,D,fun j u O=>?_⟩;have N:al l=al (l.take n)++al (l.drop n):=by
  rw[←iR,List.take_append_drop]
 have I:(al (l.take n)).length=n*3:=by rw[fI,FH,Nat.min_eq_left Z]
 have:=U (n*3+j) u (by
  rw[N,List.getElem?_append_right (by rw[I];omega),I,Nat.add_sub_cancel_left];exact O)
 rw[cJ] at this ⊢;rw[show o+n*3+j=o+(n*3+j) by omega];exact this
def jy (m:Nat) (x z:List Vl):List Vl:=x++z.take m++z.drop (m+1)
theorem yG {m:Nat} {x z:List Vl} (h:m<z.length):(jy m x z).length=x.length+m+(z.length-(m+1)):=by
 unfold jy;rw[Fz,Fz,FH,List.length_drop,Nat.min_eq_left (Nat.le_of_lt h)]
def dl (k m:Nat) (x:List Vl) (b:List (List Vl)):List (List Vl):=(b.filter fun y=>decide (x.getD k zV=y.getD m zV)).map (jy m x)
theorem rN (k m:Nat) (x:List Vl) (b:List (List Vl)) (i:Nat) (h:i<b.length):dl k m x (b.take (i+1))=dl k m x (b.take i)++(if x.getD k zV=b[i].getD m zV then [jy m x b[i]] else []):=by
 unfold dl;rw[List.take_succ_eq_append_getElem h,List.filter_append,List.map_append];congr 1
 by_cases D:x.getD k zV=b[i].getD m zV
 ·rw[if_pos D,List.filter_cons_of_pos (p:=fun y:List Vl=>decide (x.getD k zV=y.getD m zV)) (decide_eq_true D)];rfl
 rw[if_neg D,List.filter_cons_of_neg (p:=fun y:List Vl=>decide (x.getD k zV=y.getD m zV)) (by simpa using D)];rfl
theorem mL (k m:Nat) (x:List Vl) (b:List (List Vl)):(dl k m x b).length≤b.length:=by
 unfold dl;rw[List.length_map];exact List.length_filter_le _ _
theorem vt (k m:Nat) (a b:List (List Vl)):(bO k m a b).length≤a.length*b.length:=by
 induction a with
 | nil=>simp[bO]
 | cons x a ih =>
  have e:bO k m (x::a) b=dl k m x b++bO k m a b:=rfl;rw[e,Fz,FG,Nat.succ_mul];have:=mL k m x b;omega
theorem vu (k m:Nat) (a b:List (List Vl)) (i:Nat) (h:i<a.length):bO k m (a.take (i+1)) b=bO k m (a.take i) b++dl k m a[i] b:=by
 unfold bO;rw[List.take_succ_eq_append_getElem h,List.flatMap_append];simp only[List.flatMap_cons,List.flatMap_nil,List.append_nil];rfl
theorem EO (x z:List Vl) (m:Nat) (hm:m<z.length) (O:x.length≤4294967) (hz:z.length≤4294967) (bx I cx M D U dz:Nat) (J:Option Addr) (y W:World) (q:aa [] y W) (hX:Rd y [] 3 (some ⟨bx,I,none⟩) x.length (al x)) (h1:Rd y [] 3 (some ⟨M,D,none⟩) m (al (z.take m))) (h2:Rd y [] 3 J (z.length-(m+1)) (al (z.drop (m+1)))) (g:Nat) (N:ao W g 89 #[FN (some ⟨bx,I,none⟩) x.length cx,FN (some ⟨M,D,none⟩) m U,FN J (z.length-(m+1)) dz]) :
  Calls Tryz.prog 145 #[FN (some ⟨g,0,none⟩) 3 3] W fun e w'=>(∃ v,e=FP v∧w'.ownsRow W.heap.size 46 3 v (jy m x z).length (al (jy m x z)))∧aa [] W w':=by
 have h:=tu [(x.length,al x),(m,al (z.take m)),(z.length-(m+1),al (z.drop (m+1)))] [FN (some ⟨bx,I,none⟩) x.length cx,FN (some ⟨M,D,none⟩) m U,FN J (z.length-(m+1)) dz] (some ⟨g,0,none⟩) 3 W rfl ⟨rfl,fun _=>⟨_,rfl,by simp,N.lt,fun j u hu=>by rw[cJ,Nat.zero_add,N.cell j];simpa using hu⟩⟩ (fun i hi hi'=>by
  match i,hi with
  | 0,_=>exact ⟨_,_,rfl,hX.keep q⟩
  | 1,_=>exact ⟨_,_,rfl,h1.keep q⟩
  | 2,_=>exact ⟨_,_,rfl,h2.keep q⟩) (by simp) (by simp[dA];omega) (fun p Z x O=>by
  simp only[List.mem_cons,List.not_mem_nil,or_false] at Z;rcases Z with rfl|rfl|rfl<;>exact oK _ x O)
 have e1:dA [(x.length,al x),(m,al (z.take m)),(z.length-(m+1),al (z.drop (m+1)))] 3=(jy m x z).length:=by
  rw[yG hm];simp[dA];omega
 have e2:iP [(x.length,al x),(m,al (z.take m)),(z.length-(m+1),al (z.drop (m+1)))] 3=al (jy m x z):=by
  unfold jy al;simp[iP]
 rw[←e1,←e2];exact h
theorem yH (a D:Tb) (n1 I:Bs) (k m:Nat) (hk:an a.cols n1=some k) (hm:an D.cols I=some m) (a9 code J lk ln rk rn:Int) (no:Nat) (op lc lw rc bb:Bs) (Ao:Option Addr) (co:Nat) (Ai:Option Addr) (ni ci:Nat) (bc oc:Nat) (cc:Nat) (A B:Option Addr) (c d:Nat) (A2 B2:Option Addr) (c2 d2:Nat) (w:World)
  (s0:w.cell? ⟨bc,oc,none⟩=some (FM (bs n1))) (s1:w.cell? ⟨bc,oc+1,none⟩=some (FM (bs I))) (hT:aZ w a A B c d) (hU:aZ w D A2 B2 c2 d2) (d1:∀ r∈a.rows,r.length=a.cols.length) (dz:∀ r∈D.rows,r.length=D.cols.length) (gz:a.cols.length≤100) (g3:D.cols.length≤100) (g7:a.rows.length≤100) (eY:D.rows.length≤100) :
  Calls Tryz.prog 103 #[.agg #[FR FS a9,FR FS code,FN Ao no co,FN Ai ni ci,FN (some ⟨bc,oc,none⟩) 2 cc,FM (bs op),FM (bs lc),FR FS lk,FR FS ln,FM (bs lw),FM (bs rc),FR FS rk,FR FS rn,FM (bs bb),FR FS J],.agg #[FN A a.cols.length c,FN B a.rows.length d],.agg #[FN A2 D.cols.length c2,FN B2 D.rows.length d2]] w fun e w'=>(∃ v,e=FP v∧cF w' v (bO k m a.rows D.rows))∧aa [] w w':=by
 obtain ⟨ir,fs,dB,eb,d5⟩:=info_parts jw;have er:Hid (∀ W,aa [] w W→Calls Tryz.prog 89 #[FN A a.cols.length c,FM (bs n1)] W fun e W'=>e=FP (FR FS (k:Int))∧aa [] W W'):=Fx fun W q=>by
  have h:=bU a.cols n1 A c W (hT.cols.keep q) hT.ln;rw[hk] at h;exact h
 have et:Hid (∀ W,aa [] w W→Calls Tryz.prog 89 #[FN A2 D.cols.length c2,FM (bs I)] W fun e W'=>e=FP (FR FS (m:Int))∧aa [] W W'):=Fx fun W q=>by
  have h:=bU D.cols I A2 c2 W (hU.cols.keep q) hU.ln;rw[hm] at h;exact h
 have g4:k<a.cols.length:=(List.findIdx?_eq_some_iff_getElem.1 hk).1;have gk:m<D.cols.length:=(List.findIdx?_eq_some_iff_getElem.1 hm).1;have HT:=Fx hT;have HU:=Fx hU;have fS:=Fx d1;have e7:=Fx dz;have d6:=Fx s0;have c8:=Fx s1;obtain ⟨O,a3⟩:∃ O,(((w.alloc (FQ #[FR FS a9,FR FS code,FN Ao no co,FN Ai ni ci,FN (some ⟨bc,oc,none⟩) 2 cc,FM (bs op),FM (bs lc),FR FS lk,FR FS ln,FM (bs lw),FM (bs rc),FR FS rk,FR FS rn,FM (bs bb),FR FS J] 50)).alloc (FQ #[FN A a.cols.length c,FN B a.rows.length d] 54)).alloc (FQ #[FN A2 D.cols.length c2,FN B2 D.rows.length d2] 54))=O:=⟨_,rfl⟩
 have a2:Hid (aa [] w O):=Fx (by rw[←a3];exact (((FK _ _).alloc _).alloc _).alloc _);have cy:Hid (ao O w.heap.size 50 #[FR FS a9,FR FS code,FN Ao no co,FN Ai ni ci,FN (some ⟨bc,oc,none⟩) 2 cc,FM (bs op),FM (bs lc),FR FS lk,FR FS ln,FM (bs lw),FM (bs rc),FR FS rk,FR FS rn,FM (bs bb),FR FS J]):=Fx (by rw[←a3];exact ((FL _ _ _).alloc _).alloc _);have bv:Hid (ao O (w.heap.size+1) 54 #[FN A a.cols.length c,FN B a.rows.length d]):=Fx (by
  rw[←a3];have h:=FL (w.alloc (FQ #[FR FS a9,FR FS code,FN Ao no co,FN Ai ni ci,FN (some ⟨bc,oc,none⟩) 2 cc,FM (bs op),FM (bs lc),FR FS lk,FR FS ln,FM (bs lw),FM (bs rc),FR FS rk,FR FS rn,FM (bs bb),FR FS J] 50)) 54 #[FN A a.cols.length c,FN B a.rows.length d];rw[ap] at h;exact h.alloc _)
 have b3:Hid (ao O (w.heap.size+1+1) 54 #[FN A2 D.cols.length c2,FN B2 D.rows.length d2]):=Fx (by
  rw[←a3];have h:=FL ((w.alloc (FQ #[FR FS a9,FR FS code,FN Ao no co,FN Ai ni ci,FN (some ⟨bc,oc,none⟩) 2 cc,FM (bs op),FM (bs lc),FR FS lk,FR FS ln,FM (bs lw),FM (bs rc),FR FS rk,FR FS rn,FM (bs bb),FR FS J] 50)).alloc (FQ #[FN A a.cols.length c,FN B a.rows.length d] 54)) 54 #[FN A2 D.cols.length c2,FN B2 D.rows.length d2];rw[ap,ap] at h;exact h)
 have HW:=Fx a3;clear hT hU d1 dz a3 s0 s1;go_enter Tryz.func103,Tryz.ntmps103
 go_upto_region 1 with (fail)
 rw[HW.out];have y4:O.cell? ⟨w.heap.size,4,none⟩=some (FN (some ⟨bc,oc,none⟩) 2 cc):=cy.out.cell 4;have e0:=a2.out.cell_of d6.out (by simp);have e1:=a2.out.cell_of c8.out (by simp);have a0:O.cell? ⟨w.heap.size+1,0,none⟩=some (FN A a.cols.length c):=bv.out.cell 0;have b0:O.cell? ⟨w.heap.size+1+1,0,none⟩=some (FN A2 D.cols.length c2):=b3.out.cell 0;have e8:w.heap.size<O.heap.size:=cy.out.lt;have eB:bc<O.heap.size:=FC _ _ e0;have fz:w.heap.size+1<O.heap.size:=bv.out.lt;have e9:w.heap.size+1+1<O.heap.size:=b3.out.lt;have HF1':=Fx (fun W (q:aa [] O W)=>er.out W (a2.out.trans q));have HF2':=Fx (fun W (q:aa [] O W)=>et.out W (a2.out.trans q));clear er et HW d6 c8;generalize w.heap.size=bx at *;refine ah (by kernel_rfl) (by kernel_rfl) ?_;repeat (go_big_quiet_step (first|with_reducible exact KW.of HF1'.out _|with_reducible exact KW.of HF2'.out _))
 refine wpQuiet_nil ?_;intro w3 bq;have bm:=Fx (a2.out.trans bq);have cd:=Fx (bv.out.keep bq (by simp));have b9:=Fx (b3.out.keep bq (by simp));clear bq y4 e0 e1 a0 b0 e8 eB fz e9 HF1' HF2' cy bv b3 a2;have a1:w3.cell? ⟨bx+1,1,none⟩=some (FN B a.rows.length d):=cd.out.cell 1;have ff:bx+1<w3.heap.size:=cd.out.lt;go_wp2_with fail
 clear a1 ff;go_loopw [9,31] (fun u i wx=>∃ (n:Nat) (v:Value),v=u∧n≤a.rows.length∧i=FR FS n∧Hid (iK wx w3.heap.size v (bO k m (a.rows.take n) D.rows))∧Hid (aa [] w3 wx)) (fun _ i _=>a.rows.length-(intOf i).toNat)
 case atStart=>exact ⟨0,_,rfl,FF _,rfl,Fx (iK.nil _ _),Fx (FK _ _)⟩
 obtain ⟨n,v,rfl,hn,rfl,HG,HK⟩:=hrel;obtain ⟨y,rfl⟩:∃ z:World,z=wr:=⟨_,rfl⟩
 by_cases c0:n<a.rows.length
 ·obtain ⟨us,c3,be,bj⟩:=HT.out.rows
  have bk:n<us.length:=by omega
  have cr:=bj n bk c0;obtain ⟨b7,o7,ch,_,g8,a5⟩:=be.open' (by omega) (by omega);subst ch;have d7:=a5 (n*1) us[n] (by rw[Nat.mul_one];exact FA bk);rw[Nat.mul_one] at d7;have f3:=Fx (vu k m a.rows D.rows n c0);have a6:=fS.out _ (FE c0);generalize a.rows[n]=x at *;obtain ⟨Ax,cx,hu,eX,cn⟩:=cr;rw[hu] at d7;obtain ⟨bX,oX,rfl,_,e6,br⟩:=cn.open' (by omega) (by omega);have ev:=Fx cn;have ct:=Fx a6;have dt:k<x.length:=by omega
  obtain ⟨x0,x1,x2⟩:=ay x k dt;have f0:=br _ _ x0;have f1:=br _ _ x1;have f2:=br _ _ x2;rw[←Nat.add_assoc] at f1 f2;have bo:=Fx (And.intro f0 (And.intro f1 f2));have d9:Hid (x.getD k zV=x[k]):=Fx (by rw[FJ,FA dt];rfl);generalize x[k]=vx at *;obtain ⟨cu,ce,c5⟩:=vx;have d8:=(bm.out.trans HK.out).cell_of d7 (by simp);have b1:y.cell? ⟨bx+1+1,1,none⟩=some (FN B2 D.rows.length d2):=(b9.out.keep HK.out (by simp)).cell 1;have e5:bx+1+1<y.heap.size:=(b9.out.keep HK.out (by simp)).lt;clear d7 a5 c3 be bj hu cn x0 x1 x2 f0 f1 f2 br a6;go_wp2_with fail
  clear b1 e5;go_loopw [9,38] (fun u i wx=>∃ (I:Nat) (v:Value),v=u∧I≤D.rows.length∧i=FR FS I∧Hid (iK wx w3.heap.size v (bO k m (a.rows.take n) D.rows++dl k m x (D.rows.take I)))∧Hid (aa [] w3 wx)) (fun _ i _=>D.rows.length-(intOf i).toNat)
  case atStart=>exact ⟨0,_,rfl,FF _,rfl,Fx (by rw[List.take_zero];simpa[dl] using HG.out),HK⟩
  clear HG;obtain ⟨I,v2,rfl,gi,rfl,ad,b5⟩:=hrel;obtain ⟨u,rfl⟩:∃ z:World,z=wr:=⟨_,rfl⟩
  have M:=Fx (bm.out.trans b5.out);by_cases bl:I<D.rows.length
  ·obtain ⟨us,c3,be,bj⟩:=HU.out.rows
   have bk:I<us.length:=by omega
   have cr:=bj I bk bl;obtain ⟨b8,o8,ch,_,f9,a5⟩:=be.open' (by omega) (by omega);subst ch;have d7:=a5 (I*1) us[I] (by rw[Nat.mul_one];exact FA bk);rw[Nat.mul_one] at d7;have aA:=Fx (rN k m x D.rows I bl);have a6:=e7.out _ (FE bl);generalize D.rows[I]=z at *;obtain ⟨Az,cz,hu,e2,cg⟩:=cr;rw[hu] at d7;obtain ⟨bZ,oZ,rfl,_,fr,b4⟩:=cg.open' (by omega) (by omega);have b6:m<z.length:=by omega
   obtain ⟨x0,x1,x2⟩:=ay z m b6;have g0:=M.out.cell_of (b4 _ _ x0) (by simp);have g1:=M.out.cell_of (b4 _ _ x1) (by simp);have g2:=M.out.cell_of (b4 _ _ x2) (by simp);rw[←Nat.add_assoc] at g1 g2;have es:z.getD m zV=z[m]:=by rw[FJ,FA b6];rfl
   rw[es,d9.out] at aA;generalize z[m]=vz at *;obtain ⟨c4,cm,cv⟩:=vz;have f0:=M.out.cell_of bo.out.1 (by simp);have f1:=M.out.cell_of bo.out.2.1 (by simp);have f2:=M.out.cell_of bo.out.2.2 (by simp);have d8:=M.out.cell_of d7 (by simp);have hbX':=Nat.lt_of_lt_of_le e6 M.out.size;have hbZ':=Nat.lt_of_lt_of_le fr M.out.size;have gl:(0:Int)≤(k:Int):=by omega
   have g6:(k:Int)<(x.length:Int):=by have:=ct.out;omega
   have g5:(0:Int)≤(m:Int):=by omega
   have gm:(m:Int)<(z.length:Int):=by omega
   have cj:=Fx cg;have Z:=Fx (And.intro b6 a6);have bz:=Fx (And.intro e2 eX);clear d7 a5 c3 be bj hu cg x0 x1 x2 b4 es a6 b6;by_cases he:(⟨cu,ce,c5⟩:Vl)=⟨c4,cm,cv⟩
   ·have hq:∀ W,(binOp .eql 46 (.agg #[FR FS cu,FR FS ce,FM (bs c5)]) (.agg #[FR FS c4,FR FS cm,FM (bs cv)])).run Tryz.prog W= .ok (.bool true) W:=fun W=>by rw[EN,decide_eq_true he]
    rw[if_pos he] at aA;clear he;go_upto_region 9 with (fail)
    refine ah (by kernel_rfl) (by kernel_rfl) ?_;repeat (go_big_quiet_step (fail))
    refine wpQuiet_nil ?_;intro w5 U;have a4:=Fx (b5.out.trans U);have ba:=Fx (ad.out.keep U);clear f0 f1 f2 g0 g1 g2 d8 hq U ad M;have a8:=Fx (bm.out.trans a4.out);have f7:=yF (some ⟨bZ,oZ,none⟩) z.length cz m (by have:=Z.out.1;have:=bz.out.1;omega);obtain ⟨A5,dr,en⟩:=tC bZ oZ z.length cz (m+1) (by have:=Z.out.1;omega) bz.out.1;have c1:((m+1:Nat):Int)=(m:Int)+1:=by omega
    have f8:IntKind.i64.wrap ((m:Int)+1)=(m:Int)+1:=by simp[IntKind.wrap,IntKind.bits,IntKind.signed];omega
    rw[c1] at dr;have fb:=Fx (fun W g (q:aa [] w5 W) hr=>EO x z m Z.out.1 (by have:=ct.out;omega) (by have:=Z.out.2;omega) bX oX cx bZ oZ cz (cz-(m+1)) A5 w5 W q (ev.out.keep a8.out) (AK (cj.out.keep a8.out) (Nat.le_of_lt Z.out.1)) (AL (cj.out.keep a8.out) Z.out.1 (fun h=>en (by have:=bz.out.1;omega))) g hr);have f5:(bO k m (a.rows.take n) D.rows++dl k m x (D.rows.take I)).length≤10100:=by
     have h1:=vt k m (a.rows.take n) D.rows;have h2:=mL k m x (D.rows.take I);have h3:(a.rows.take n).length*D.rows.length≤100*100:=Nat.mul_le_mul (by rw[FH];omega) eY;rw[FH] at h2;rw[Fz];omega
    have dv:Hid (bO k m (a.rows.take n) D.rows++dl k m x (D.rows.take (I+1))=(bO k m (a.rows.take n) D.rows++dl k m x (D.rows.take I))++[jy m x z]):=Fx (by rw[aA.out,List.append_assoc]);generalize bO k m (a.rows.take n) D.rows++dl k m x (D.rows.take I)=PP at *;obtain ⟨hs,d3,el,ey⟩:=ba.out;have HO:=Fx el;have f6:=Fx ey;have fc:=Fx d3;have ca:=Fx a4.out.size;generalize jy m x z=PR at *;have ds:=Fx (show PP.length+1≤maxLen∧(PP.length+1)*24≤140737488355328 by simp only[maxLen];omega);clear el ey d3 aA f5 en ev cj Z bz ct d9 bo;go_upto_region 10 with (fail)
    go_region_law (first|(refine step_append_lies _ (by rfl) _ _ _ (by rfl) w3.heap.size 89 ir _ 1 24 Tryz.underlying52 fs dB eb d5 rfl (by decide) v2 PP.length hs (by rfl) ((aC HO.out av (fun _ _=>by simp)).alloc _) ⟨w6.heap.size,0,none⟩ 1 1 [FN Aq PR.length cq] (by rfl) rfl (FI (heap_alloc_new _ _)) (by simp[Value.oneCell']) (by decide) ds.out.1 ds.out.2 (by have:=ca.out;have:=av.size;simp;omega) _ rfl ?_;intro gw ez w8 a7 N c6 d0)|(go_simp;go_at_call 145;refine (fb.out _ _ ((FK [] w5).alloc _).drew (FL _ _ _).drew).mono ?_;rintro e w6 ⟨⟨vq,rfl,hq⟩,d4⟩;obtain ⟨Aq,cq,rfl,-⟩:=ar hq;have av:aa [] w5 w6:=((FK [] w5).alloc _).drew.trans d4))
    all_goals
     have f4:=Fx (((a4.out.trans av).alloc (FQ #[FN Aq PR.length cq] 89)).grown N (fun g hg=> .inr (HO.out.lt g hg).1));have eA:Hid (iK w8 w3.heap.size (FN (some ⟨gw,0,none⟩) (PP.length+1) ez) (bO k m (a.rows.take n) D.rows++dl k m x (D.rows.take (I+1)))):=Fx (by
      rw[dv.out];exact gZ (W:=w6) fc.out (fun i a c=>aC (f6.out i a c) av (fun _ _=>by simp)) (aC HO.out av (fun _ _=>by simp)) (gY hq (by have:=ca.out;simp;omega)) N a7)
     clear a7 N c6 d0 av d4 hq;go_wp2;go_roundw
     case rel=>exact ⟨I+1,_,rfl,by omega,by go_num,eA,f4⟩
     case measure=>simp[intOf];omega
   have hq:∀ W,(binOp .eql 46 (.agg #[FR FS cu,FR FS ce,FM (bs c5)]) (.agg #[FR FS c4,FR FS cm,FM (bs cv)])).run Tryz.prog W= .ok (.bool false) W:=fun W=>by rw[EN,decide_eq_false he]
   rw[if_neg he,List.append_nil] at aA;clear he;go_upto_region 9 with (fail)
   refine ah (by kernel_rfl) (by kernel_rfl) ?_;repeat (go_big_quiet_step (fail))
   refine wpQuiet_nil ?_;intro w5 U;have a4:=Fx (b5.out.trans U);have ba:Hid (iK w5 w3.heap.size v2 (bO k m (a.rows.take n) D.rows++dl k m x (D.rows.take (I+1)))):=Fx (by rw[aA.out];exact ad.out.keep U);clear f0 f1 f2 g0 g1 g2 d8 hq U ad;go_wp2;go_roundw
   case rel=>exact ⟨I+1,_,rfl,by omega,by go_num,ba,a4⟩
   case measure=>simp[intOf];omega
  obtain rfl:I=D.rows.length:=by omega
  have ba:Hid (iK u w3.heap.size v2 (bO k m (a.rows.take (n+1)) D.rows)):=Fx (by
   have h:=ad.out;rw[List.take_length] at h;rw[f3.out];exact h)
  clear ad;go_wp2;go_roundw
  case rel=>exact ⟨n+1,_,rfl,by omega,by go_num,ba,b5⟩
  case measure=>simp[intOf];omega
 obtain rfl:n=a.rows.length:=by omega
 have hg:=HG.out;rw[List.take_length] at hg;have fn:=Fx (bm.out.trans HK.out);obtain ⟨Bq,dq,hv,c9,c7⟩:=hg.rd;have e4:Hid (cF y v (bO k m a.rows D.rows)):=Fx ⟨Bq,dq,hv,c9,c7⟩;clear hg c9 c7 HG hv;go_wp2;go_ret;exact ⟨⟨_,rfl,e4.out⟩,fn.out⟩
end
section
open Go.RowKit Go.BigFrame
attribute [local go_sem] ag ab ae af
theorem Dh:(Tryz.prog.info? 54).map (fun i=>(i.zero,i.size,i.bytes))=some (some (.agg #[FN none 0 0,FN none 0 0]),2,48):=by kernel_rfl
theorem EP:(Tryz.prog.info? 51).map (fun i=>(i.zero,i.size,i.bytes))=some (some (FN none 0 0),1,24):=by kernel_rfl
theorem AS {α:Type} {p:α→Prop} {l:List α} {m:Nat} (h:m<l.length) (I:∀ x∈l.take m,p x) (J:p l[m]):∀ x∈l.take (m+1),p x:=fun x D=>by
 rw[List.take_succ_eq_append_getElem h,List.mem_append] at D;rcases D with D|D
 ·exact I x D
 rw[List.mem_singleton] at D;rw[D];exact J
theorem rS (j:Jb) (Ao:Option Addr) (co:Nat) (Ai:Option Addr) (ni ci:Nat) (Ac:Option Addr) (cc:Nat) (ins:List Tb) (AT:Option Addr) (ct:Nat) (w:World) (hI:eE w AT ins) (hB:∀ t∈ins,AI t) (hl:ins.length≤4294967296)
  (hC:∀ W,aa [] w W→∀ AH ch,aU W AH (ins.map (·.cols))→Calls Tryz.prog 22 #[eM j Ao co Ai ni ci Ac cc,FN AH (ins.map (·.cols)).length ch] W fun e w'=>aP (aL j (ins.map (·.cols))) e w'∧aa [] W w')
  (hM:∀ out,(∀ t∈ins,ak t=true)→aL j (ins.map (·.cols))= .ok out→∀ W,aa [] w W→∀ OA od,Calls Tryz.prog 64 #[eM j Ao co Ai ni ci Ac cc,FN AT ins.length ct,FN OA out.length od] W fun e w'=>dC (bp j ins out) e w'∧aa [] W w') :
  Calls Tryz.prog 24 #[eM j Ao co Ai ni ci Ac cc,FN AT ins.length ct] w fun e w'=>qE (j5 j ins) e w'∧aa [] w w':=by
 obtain ⟨ih,f8,e4,dB,en⟩:=info_parts EP;obtain ⟨it,f0,el,ez,e6⟩:=info_parts Dh;obtain ⟨R,hR⟩:∃ R,j5 j ins=R:=⟨_,rfl⟩
 have et:Hid (∀ t∈ins,ak t=false→R= .error 1):=Fx fun t ht hr=>by
  rw[←hR];unfold j5;rw[if_pos (List.any_eq_true.2 ⟨t,ht,by rw[hr];rfl⟩)]
 have bZ:Hid ((∀ t∈ins,ak t=true)→R=match aL j (ins.map (·.cols)) with
  | .error e=> .error e
  | .ok out=>match bp j ins out with
   | .error e=> .error e
   | .ok D=>dh out D):=Fx fun h=>by
  rw[←hR];unfold j5;rw[if_neg (by rw[List.any_eq_true];rintro ⟨t,ht,hn⟩;rw[h t ht] at hn;cases hn)]
  cases aL j (ins.map (·.cols)) with
  | error e=>rfl
  | ok out=>cases bp j ins out<;>rfl
 rw[hR];have b1:=Fx (fun out (h:aL j (ins.map (·.cols))= .ok out)=>lA h);have b6:=Fx (fun out D (h:out.length=if j.code=9 then 2 else 1) (h2:bp j ins out= .ok D)=>tB h h2);obtain ⟨CJ,eb⟩:∃ C,aL j (ins.map (·.cols))=C:=⟨_,rfl⟩
 rw[eb] at hC hM bZ b1;obtain ⟨MJ,fb⟩:∃ M,bp j ins=M:=⟨_,rfl⟩
 rw[fb] at hM bZ b6;obtain ⟨CD,eB⟩:∃ c,j.code=c:=⟨_,rfl⟩
 rw[eB] at b1 b6;obtain ⟨U,code,outs,js,cols,op,⟨lc,lk,ln,lw⟩,⟨rc,rk,rn,Z⟩,I⟩:=j;obtain ⟨no,b4⟩:∃ n,outs.length=n:=⟨_,rfl⟩
 obtain ⟨nc,cj⟩:∃ n,cols.length=n:=⟨_,rfl⟩
 have HC:Hid (∀ W,aa [] w W→∀ AH ch,aU W AH (ins.map (·.cols))→Calls Tryz.prog 22 #[.agg #[FR FS U,FR FS code,FN Ao no co,FN Ai ni ci,FN Ac nc cc,FM (bs op),FM (bs lc),FR FS lk,FR FS ln,FM (bs lw),FM (bs rc),FR FS rk,FR FS rn,FM (bs Z),FR FS I],FN AH ins.length ch] W fun e w'=>aP CJ e w'∧aa [] W w'):=Fx (by rw[←b4,←cj];simp only[List.length_map] at hC;exact hC);have HM:Hid (∀ out,(∀ t∈ins,ak t=true)→CJ= .ok out→∀ W,aa [] w W→∀ OA od,Calls Tryz.prog 64 #[.agg #[FR FS U,FR FS code,FN Ao no co,FN Ai ni ci,FN Ac nc cc,FM (bs op),FM (bs lc),FR FS lk,FR FS ln,FM (bs lw),FM (bs rc),FR FS rk,FR FS rn,FM (bs Z),FR FS I],FN AT ins.length ct,FN OA out.length od] W fun e w'=>dC (MJ out) e w'∧aa [] W w'):=Fx (by rw[←b4,←cj];exact hM);show Calls _ _ #[.agg #[FR FS U,FR FS code,FN Ao outs.length co,FN Ai ni ci,FN Ac cols.length cc,FM (bs op),FM (bs lc),FR FS lk,FR FS ln,FM (bs lw),FM (bs rc),FR FS rk,FR FS rn,FM (bs Z),FR FS I],FN AT ins.length ct] w _;rw[b4,cj];have HI:=Fx hI;have ce:=Fx hB;clear hI hB hC hM hR eb fb eB b4 cj;have e1:Hid (aa [] w (w.alloc (FQ #[FR FS U,FR FS code,FN Ao no co,FN Ai ni ci,FN Ac nc cc,FM (bs op),FM (bs lc),FR FS lk,FR FS ln,FM (bs lw),FM (bs rc),FR FS rk,FR FS rn,FM (bs Z),FR FS I] 50))):=Fx ((FK _ _).alloc _);have bq:=Fx (FL w 50 #[FR FS U,FR FS code,FN Ao no co,FN Ai ni ci,FN Ac nc cc,FM (bs op),FM (bs lc),FR FS lk,FR FS ln,FM (bs lw),FM (bs rc),FR FS rk,FR FS rn,FM (bs Z),FR FS I]);go_enter Tryz.func24,Tryz.ntmps24
 go_wp2;obtain ⟨w2,fn⟩:∃ w2,(w.alloc (FQ #[FR FS U,FR FS code,FN Ao no co,FN Ai ni ci,FN Ac nc cc,FM (bs op),FM (bs lc),FR FS lk,FR FS ln,FM (bs lw),FM (bs rc),FR FS rk,FR FS rn,FM (bs Z),FR FS I] 50))=w2:=⟨_,rfl⟩
 rw[fn] at e1 bq ⊢;obtain ⟨bx,ey⟩:∃ bx,w.heap.size=bx:=⟨_,rfl⟩
 rw[ey] at bq ⊢;clear fn ey;go_loopw [6,17] (fun u i wx=>∃ (m:Nat) (v:Value),v=u∧m≤ins.length∧i=FR FS m∧Hid (mJ w wx w2.heap.size v ((ins.take m).map (·.cols)))∧Hid (∀ t∈ins.take m,ak t=true)∧aa [] w2 wx) (fun _ i _=>ins.length-(intOf i).toNat)
 case atStart=>exact ⟨0,_,rfl,FF _,rfl,mJ.nil _ _ _,by rw[List.take_zero];exact Fx (fun t ht=>by cases ht),FK _ _⟩
 obtain ⟨m,v,rfl,hm,rfl,HG,c0,hk⟩:=hrel;have HK:=Fx hk;have ad:=Fx (e1.out.trans hk);clear hk;by_cases aA:m<ins.length
 ·obtain ⟨us,dq,bl,bm⟩:=HI.out
  have a5:m<us.length:=by omega
  obtain ⟨hh,hw⟩:=bm m a5 aA;obtain ⟨b7,o7,cz,_,hb,a4⟩:=bl.open' (by omega) (by omega);have d7:=a4 _ _ (lz us m a5).1;have d8:=a4 _ _ (lz us m a5).2;rw[←Nat.add_assoc] at d8;subst cz;have a0:ins[m]∈ins:=FE aA;have HH:=Fx hh;have eA:(ins.take (m+1)).map (·.cols)=(ins.take m).map (·.cols)++[ins[m].cols]:=by rw[List.take_succ_eq_append_getElem aA,List.map_append];rfl
  have cg:=Fx eA;have c1:=Fx (fun (h:ak ins[m]=true)=>AS aA c0.out h);have c4:((ins.take m).map (·.cols)).length=m:=by rw[List.length_map,FH];omega
  generalize ins[m]=t at *;obtain ⟨A,c,a8,e2,hA⟩:=hh;obtain ⟨B,d,bk,d3,b0⟩:=hw;rw[a8] at d7 HH;rw[bk] at d8;have e7:=ad.out.cell_of d7 (by simp);have e8:=ad.out.cell_of d8 (by simp);have cu:aZ w t A B c d:=⟨hA,e2,b0,d3,(ce.out t a0).names,(ce.out t a0).ln,(ce.out t a0).lm,(ce.out t a0).lr⟩;have bz:=Fx (fun W (q:aa [] w W)=>(cu.quiet q).right);have br:=Fx (et.out t a0);have gk:(0:Int)≤(m:Int):=by omega
  have g8:(m:Int)<(ins.length:Int):=by omega
  clear eA dq bl bm a4 d7 d8 cu hA b0 a8 bk
  cases hr:ak t with
  | false =>
   rw[hr] at bz br;have HF:=Fx (br.out rfl);clear hr br;go_wp2_with fail
   refine (bz.out _ (ad.out.alloc _)).mono ?_;rintro e w3 ⟨rfl,N⟩;go_wp2;go_ret2;exact ⟨by rw[HF.out];rfl,(ad.out.alloc _).trans N⟩
  | true =>
   rw[hr] at bz c1;have bX:=Fx (c1.out rfl);clear hr br c1;go_wp2_with fail
   refine (bz.out _ (ad.out.alloc _)).mono ?_;rintro e w3 ⟨rfl,N⟩;have es:=Fx ((HK.out.alloc (FQ #[FN A t.cols.length c,FN B t.rows.length d] 54)).trans N);have x0:=N.cell_of (p:=⟨wr.heap.size,0,none⟩) (v:=FN A t.cols.length c) ((FL _ _ _).cell 0) (by simp);have x1:=N.cell_of (p:=⟨wr.heap.size,1,none⟩) (v:=FN B t.rows.length d) ((FL _ _ _).cell 1) (by simp);obtain ⟨hs,be,a3,bo⟩:=HG.out;rw[c4] at a3;have HO:=Fx (aC (a3.alloc (FQ #[FN A t.cols.length c,FN B t.rows.length d] 54)) N (fun _ _=>by simp));have dz:=Fx bo;have c9:=Fx be;have av:=Fx c4;have g5:w2.heap.size≤w3.heap.size:=es.out.size;have a9:=Fx (show m+1≤maxLen∧(m+1)*24≤140737488355328 by simp only[maxLen];omega);clear N a3 bo be c4;go_wp2_with (at_builtin;(refine wpList_append_lies _ rfl _ _ 80 rfl w2.heap.size 51 ih _ 1 24 Tryz.underlying80 f8 e4 dB en rfl (by decide) _ m hs rfl (HO.out.alloc _) ⟨w3.heap.size,0,none⟩ 1 1 [FN A t.cols.length c] rfl rfl (FI (heap_alloc_new _ _)) (by simp[Value.oneCell']) (by decide) a9.out.1 a9.out.2 (by rw[ap];omega) _ rfl ?_);intro gw a1 w8 O J a7 ba)
   have dt:=Fx ((es.out.alloc (FQ #[FN A t.cols.length c] 51)).grown J (fun g hg=> .inr (HO.out.lt g hg).1));have cv:Hid (mJ w w8 w2.heap.size (FN (some ⟨gw,0,none⟩) (m+1) a1) ((ins.take (m+1)).map (·.cols))):=Fx (by
    rw[cg.out];have h:=vp (w:=w) (W':=w8) (base:=w2.heap.size) (gw:=gw) (cap:=a1) c9.out dz.out HH.out (by rw[av.out];exact O);rw[av.out] at h;exact h)
   clear O J a7 ba;go_wp2;go_roundw
   case rel=>exact ⟨m+1,_,rfl,by omega,by go_num,cv,bX,dt.out⟩
   case measure=>simp[intOf];omega
 obtain rfl:m=ins.length:=by omega
 have a2:=c0.out;rw[List.take_length] at a2;have hg:=HG.out;rw[List.take_length] at hg;obtain ⟨AH,ch,hv,g1,e0⟩:=hg.is ad.out;rw[List.length_map] at hv g1;subst hv;have cd:=Fx (bZ.out a2);have bv:=Fx (HC.out wr ad.out AH ch e0);obtain ⟨y0,y1,y2,y3,y4,y5,y6,y7,y8,y9,g4,f5,f3,g6,f2⟩:=oN (bq.out.keep HK.out (by simp));have g2:=Fx (bq.out.keep HK.out (by simp));have cr:=Fx a2;clear a2 hg e0 et bZ HC HG c0
 cases CJ with
 | error x =>
  have a6:Hid (R= .error x):=cd;have ca:Hid (Calls Tryz.prog 22 #[.agg #[FR FS U,FR FS code,FN Ao no co,FN Ai ni ci,FN Ac nc cc,FM (bs op),FM (bs lc),FR FS lk,FR FS ln,FM (bs lw),FM (bs rc),FR FS rk,FR FS rn,FM (bs Z),FR FS I],FN AH ins.length ch] wr fun e w'=>e=FP (.tuple #[FN none 0 0,.iface 37 (FR FS x)])∧aa [] wr w'):=bv;clear cd bv;go_wp2_with fail
  with_reducible refine ca.out.mono ?_
  rintro e w3 ⟨rfl,N⟩;go_wp2;go_ret2;exact ⟨by rw[a6.out];rfl,ad.out.trans N⟩
 | ok out =>
  have a6:Hid (R=match MJ out with
   | .error e=> .error e
   | .ok D=>dh out D):=cd
  have ca:Hid (Calls Tryz.prog 22 #[.agg #[FR FS U,FR FS code,FN Ao no co,FN Ai ni ci,FN Ac nc cc,FM (bs op),FM (bs lc),FR FS lk,FR FS ln,FM (bs lw),FM (bs rc),FR FS rk,FR FS rn,FM (bs Z),FR FS I],FN AH ins.length ch] wr fun e w'=>(∃ B d,e=FP (.tuple #[FN B out.length d,.nilIface])∧out.length≤d∧aU w' B out)∧aa [] wr w'):=bv;have c3:=Fx (b1.out out rfl);have ff:=Fx (HM.out out cr.out rfl);have av:=Fx (fun D=>b6.out out D c3.out);clear cd bv HM b1 b6 cr;go_wp2_with fail
  with_reducible refine ca.out.mono ?_
  rintro e w3 ⟨⟨OA,od,rfl,ho,fc⟩,N⟩;have cy:=Fx (ad.out.trans N);have eX:=Fx fc;obtain ⟨z0,z1,z2,z3,z4,z5,z6,z7,z8,z9,fz,f9,f6,fS,f4⟩:=oN (g2.out.keep N (by simp));have b8:=Fx (ff.out w3 cy.out OA od);clear N fc ff ca y0 y1 y2 y3 y4 y5 y6 y7 y8 y9 g4 f5 f3 g6 f2;generalize MJ out=MO at *
  cases MO with
  | error x =>
   have b3:Hid (R= .error x):=a6;have b5:Hid (Calls Tryz.prog 64 #[.agg #[FR FS U,FR FS code,FN Ao no co,FN Ai ni ci,FN Ac nc cc,FM (bs op),FM (bs lc),FR FS lk,FR FS ln,FM (bs lw),FM (bs rc),FR FS rk,FR FS rn,FM (bs Z),FR FS I],FN AT ins.length ct,FN OA out.length od] w3 fun e w'=>e=FP (.tuple #[FN none 0 0,.iface 37 (FR FS x)])∧aa [] w3 w'):=b8;clear a6 b8 av;go_wp2_with fail
   with_reducible refine b5.out.mono ?_
   rintro e w4 ⟨rfl,bc⟩;go_wp2;go_ret2;exact ⟨by rw[b3.out];rfl,cy.out.trans bc⟩
  | ok D =>
   have b3:Hid (R=dh out D):=a6;have b5:Hid (Calls Tryz.prog 64 #[.agg #[FR FS U,FR FS code,FN Ao no co,FN Ai ni ci,FN Ac nc cc,FM (bs op),FM (bs lc),FR FS lk,FR FS ln,FM (bs lw),FM (bs rc),FR FS rk,FR FS rn,FM (bs Z),FR FS I],FN AT ins.length ct,FN OA out.length od] w3 fun e w'=>(∃ B d,e=FP (.tuple #[FN B D.length d,.nilIface])∧D.length≤d∧fp w' B D)∧aa [] w3 w'):=b8;have bj:=Fx (av.out D rfl);have hp:D.length≤2:=by
    have h1:=bj.out;have h2:=c3.out;split at h2<;>omega
   clear a6 b8 av c3;go_wp2_with fail
   with_reducible refine b5.out.mono ?_
   rintro e w4 ⟨⟨RA,rd,rfl,hc,d1⟩,bc⟩;have f1:=Fx (cy.out.trans bc);have gm:=Fx d1;have f7:=Fx (eX.out.keep bc);clear bc d1 b5 z0 z1 z2 z3 z4 z5 z6 z7 z8 z9 fz f9 f6 fS f4 eX;go_wp2;go_loopw [12,52] (fun u i wx=>∃ (m:Nat) (v:Value),v=u∧m≤D.length∧i=FR FS m∧Hid (ia w4 wx w4.heap.size v (List.zipWith Tb.mk (out.take m) (D.take m)))∧Hid (∀ i (h:i<D.length),i<m→D[i].length≤60)∧aa [] w4 wx) (fun _ i _=>D.length-(intOf i).toNat)
   case atStart=>exact ⟨0,_,rfl,FF _,rfl,ia.nil _ _ _,Fx (fun i _ h=>absurd h (by omega)),FK _ _⟩
   obtain ⟨m,v,rfl,hm,rfl,HG,dr,hk⟩:=hrel;have bb:=Fx hk;have fr:=Fx (f1.out.trans hk);clear hk;by_cases aA:m<D.length
   ·obtain ⟨us,dq,bl,bm⟩:=gm.out
    have a5:m<us.length:=by omega
    have er:=bm m a5 aA;obtain ⟨b7,o7,cz,_,hb,a4⟩:=bl.open' (by omega) (by omega);have d7:=a4 (m*1) us[m] (by rw[Nat.mul_one];exact FA a5);rw[Nat.mul_one] at d7;subst cz;obtain ⟨d4,d5,cn,cm⟩:=f7.out;have eY:=bj.out;have hux':m<d4.length:=by omega
    have d2:=cm m hux' (by omega);obtain ⟨b9,o9,d6,_,hf,cq⟩:=cn.open' (by omega) (by omega);have d9:=cq (m*1) d4[m] (by rw[Nat.mul_one];exact FA hux');rw[Nat.mul_one] at d9;subst d6;have ev:List.zipWith Tb.mk (out.take (m+1)) (D.take (m+1))=List.zipWith Tb.mk (out.take m) (D.take m)++[⟨out[m]'(by omega),D[m]⟩]:=by
     rw[List.take_succ_eq_append_getElem aA,List.take_succ_eq_append_getElem (by omega:m<out.length),List.zipWith_append (by simp;omega)];rfl
    have gz:=Fx ev;have dv:(List.zipWith Tb.mk (out.take m) (D.take m)).length=m:=by simp;omega
    have bX:=Fx (fun (h:60<D[m].length)=>AJ (out:=out) (by omega) aA h);have cg:Hid (D[m].length≤60→∀ i (h:i<D.length),i<m+1→D[i].length≤60):=Fx (fun h i hi hj=>by
     by_cases he:i=m
     ·subst he;exact h
     exact dr.out i hi (by omega))
    have cx:=d2;have c8:=er;generalize fs:D[m]=r at *;generalize gi:out[m]'(by omega)=l at *;obtain ⟨A,c,a8,e2,hA⟩:=d2;obtain ⟨B,d,bk,d3,b0⟩:=er;rw[a8] at d9 cx;rw[bk] at d7 c8;have gl:=Fx cx;have ha:=Fx c8;have e9:=bb.out.cell_of d9 (by simp);have e7:=bb.out.cell_of d7 (by simp);have gk:(0:Int)≤(m:Int):=by omega
    have g8:(m:Int)<(D.length:Int):=by omega
    have hq:(m:Int)<(out.length:Int):=by omega
    clear ev dq bl bm a4 d7 d5 cn cm cq d9 hA b0 a8 bk cx c8 fs gi;by_cases c6:60<r.length
    ·have g7:decide ((60:Int)<(r.length:Int))=true:=decide_eq_true (by omega)
     have c5:Hid (R= .error 12):=Fx (b3.out.trans (bX.out c6));clear c6 eY;go_wp2;go_ret2;exact ⟨by rw[c5.out];rfl,fr.out⟩
    have g7:decide ((60:Int)<(r.length:Int))=false:=decide_eq_false (by omega);have g3:=Fx (cg.out (by omega));obtain ⟨hs,be,a3,bo⟩:=HG.out;rw[dv] at a3;have HO:=Fx a3;have dz:=Fx bo;have c9:=Fx be;have av:=Fx dv;have g5:w4.heap.size≤wr.heap.size:=bb.out.size;have a9:=Fx (show m+1≤maxLen∧(m+1)*48≤140737488355328 by simp only[maxLen];omega);clear a3 bo be dv c6 eY bX cg;go_wp2_with (at_builtin;(refine wpList_append_lies _ rfl _ _ 84 rfl w4.heap.size 54 it _ 2 48 Tryz.underlying84 f0 el ez e6 rfl (by decide) _ m (iL hs) rfl (HO.out.alloc _) ⟨wr.heap.size,0,none⟩ 1 1 [FN A l.length c,FN B r.length d] rfl rfl (FI (heap_alloc_new _ _)) (by simp[Value.oneCell']) (by decide) a9.out.1 a9.out.2 (by rw[ap];omega) _ rfl ?_);intro gw a1 w8 O J a7 ba)
    have dt:=Fx ((bb.out.alloc (FQ #[FN A l.length c,FN B r.length d] 54)).grown J (fun g hg=> .inr (HO.out.lt g hg).1));have cv:Hid (ia w4 w8 w4.heap.size (FN (some ⟨gw,0,none⟩) (m+1) a1) (List.zipWith Tb.mk (out.take (m+1)) (D.take (m+1)))):=Fx (by
     rw[gz.out];have h:=oM (w:=w4) (W':=w8) (base:=w4.heap.size) (gw:=gw) (cap:=a1) (t:=⟨l,r⟩) c9.out dz.out gl.out ha.out (by rw[av.out];exact O);rw[av.out] at h;exact h)
    clear O J a7 ba;go_wp2;go_roundw
    case rel=>exact ⟨m+1,_,rfl,by omega,by go_num,cv,g3,dt.out⟩
    case measure=>simp[intOf];omega
   obtain rfl:m=D.length:=by omega
   have hg:=HG.out;rw[List.take_length,←bj.out,List.take_length] at hg;obtain ⟨TA,td,hv,c7,a2⟩:=hg.is bb.out;have c5:Hid (R= .ok (List.zipWith Tb.mk out D)):=Fx (b3.out.trans (yC bj.out (fun i hi=>dr.out i hi hi)));have e5:=Fx a2;have ds:(List.zipWith Tb.mk out D).length=D.length:=by rw[List.length_zipWith,bj.out,Nat.min_self]
   rw[ds] at hv c7;have d0:=Fx ds;have g0:=Fx c7;subst hv;clear hg c7 a2 HG dr ds;go_wp2;go_ret2;exact ⟨by rw[c5.out];exact ⟨TA,td,by rw[d0.out];rfl,by rw[d0.out];exact g0.out,e5.out⟩,fr.out⟩
end
section
open Go.RowKit Go.BigFrame
attribute [local go_sem] ag ab ae af
attribute [local go_sem] KW.cell
def ew (cs:List Cl) (r:List Vl) (n:Bs):Vl:=match an cs n with
 | none=>zV
 | some k=>r.getD k zV
theorem pW {α β:Type} (f:α→β) (l:List α) (m:Nat) (h:m<l.length):(l.map f).take (m+1)=(l.map f).take m++[f l[m]]:=by
 rw[List.take_succ_eq_append_getElem (by simpa using h),List.getElem_map]
theorem Ek (t:Tb) (OA:Option Addr) (no od:Nat) (b o:Nat) (nt ct:Nat) (A B:Option Addr) (c d:Nat) (e8:1≤nt) (aA M lk ln rk rn:Int) (outs cols:List Bs) (op lc lw rc a5:Bs) (Ao:Option Addr) (co:Nat) (Ai:Option Addr) (ni ci:Nat) (Ac:Option Addr) (cc:Nat) (w:World)
  (b1:w.cell? ⟨b,o,none⟩=some (FN A t.cols.length c)) (d0:w.cell? ⟨b,o+1,none⟩=some (FN B t.rows.length d)) (hT:aZ w t A B c d) (cg:∀ r∈t.rows,r.length=t.cols.length) (cz:∀ n∈cols,∃ k,an t.cols n=some k) (a3:Rd w [] 1 Ac cols.length (strs cols)) (ds:cols.length≤100) :
  Calls Tryz.prog 64 #[.agg #[FR FS aA,FR FS 3,FN Ao outs.length co,FN Ai ni ci,FN Ac cols.length cc,FM (bs op),FM (bs lc),FR FS lk,FR FS ln,FM (bs lw),FM (bs rc),FR FS rk,FR FS rn,FM (bs a5),FR FS M],FN (some ⟨b,o,none⟩) nt ct,FN OA no od] w fun e w'=>dC (.ok [t.rows.map fun r=>cols.map (ew t.cols r)]) e w'∧aa [] w w':=by
 obtain ⟨ir,et,cd,cu,cq⟩:=info_parts jw;obtain ⟨iv,dq,ce,b8,cn⟩:=info_parts Dd;have e2:(0:Int)<(nt:Int):=by omega
 have HT:=Fx hT;have eB:b<w.heap.size:=FC _ _ b1;have bv:Hid (aa [] w ((w.alloc (FQ #[FR FS aA,FR FS 3,FN Ao outs.length co,FN Ai ni ci,FN Ac cols.length cc,FM (bs op),FM (bs lc),FR FS lk,FR FS ln,FM (bs lw),FM (bs rc),FR FS rk,FR FS rn,FM (bs a5),FR FS M] 50)).alloc (FQ #[FN A t.cols.length c,FN B t.rows.length d] 54))):=Fx (((FK _ _).alloc _).alloc _);have a8:=Fx (ao.alloc (FL w 50 #[FR FS aA,FR FS 3,FN Ao outs.length co,FN Ai ni ci,FN Ac cols.length cc,FM (bs op),FM (bs lc),FR FS lk,FR FS ln,FM (bs lw),FM (bs rc),FR FS rk,FR FS rn,FM (bs a5),FR FS M]) (FQ #[FN A t.cols.length c,FN B t.rows.length d] 54));have a0:=Fx (FL (w.alloc (FQ #[FR FS aA,FR FS 3,FN Ao outs.length co,FN Ai ni ci,FN Ac cols.length cc,FM (bs op),FM (bs lc),FR FS lk,FR FS ln,FM (bs lw),FM (bs rc),FR FS rk,FR FS rn,FM (bs a5),FR FS M] 50)) 54 #[FN A t.cols.length c,FN B t.rows.length d]);rw[ap] at a0;have eY:=hT.lm;have d1:=Fx cg;have d5:=Fx cz;have dB:=Fx a3;have dv:=Fx (fun (nm:Bs) W (q:aa [] w W)=>bU t.cols nm A c W (hT.cols.keep q) hT.ln);have fc:=hT.ln;obtain ⟨nC,bk⟩:∃ n,cols.length=n:=⟨_,rfl⟩
 have bz:=Fx bk;rw[bk] at bv a8 a0 ds ⊢;clear hT cg cz a3 bk;go_enter Tryz.func64,Tryz.ntmps64
 go_wp2;obtain ⟨w2,c1⟩:∃ w2,((w.alloc (FQ #[FR FS aA,FR FS 3,FN Ao outs.length co,FN Ai ni ci,FN Ac nC cc,FM (bs op),FM (bs lc),FR FS lk,FR FS ln,FM (bs lw),FM (bs rc),FR FS rk,FR FS rn,FM (bs a5),FR FS M] 50)).alloc (FQ #[FN A t.cols.length c,FN B t.rows.length d] 54))=w2:=⟨_,rfl⟩
 rw[c1] at bv a8 a0 ⊢;obtain ⟨bx,ch⟩:∃ bx,w.heap.size=bx:=⟨_,rfl⟩
 rw[ch] at a8 a0 ⊢;clear c1 ch b1 d0;go_loopw [13,76] (fun u i wx=>∃ (m:Nat) (v:Value),v=u∧m≤t.rows.length∧i=FR FS m∧Hid (iK wx w2.heap.size v ((t.rows.take m).map fun r=>cols.map (ew t.cols r)))∧aa [] w2 wx) (fun _ i _=>t.rows.length-(intOf i).toNat)
 case atStart=>exact ⟨0,_,rfl,FF _,rfl,iK.nil _ _,FK _ _⟩
 obtain ⟨m,v,rfl,hm,rfl,HG,hk⟩:=hrel;have HK:=Fx hk;have bl:=Fx (bv.out.trans hk);clear hk;by_cases bq:m<t.rows.length
 ·obtain ⟨us,es,cx,cy⟩:=HT.out.rows
  have c0:m<us.length:=by omega
  have dz:=cy m c0 bq;obtain ⟨b7,o7,dr,_,ff,bZ⟩:=cx.open' (by omega) (by omega);have d7:=bZ (m*1) us[m] (by rw[Nat.mul_one];exact FA c0);rw[Nat.mul_one] at d7;have bc:t.rows[m]∈t.rows:=FE bq;have cj:(t.rows.take (m+1)).map (fun r=>cols.map (ew t.cols r))=(t.rows.take m).map (fun r=>cols.map (ew t.cols r))++[cols.map (ew t.cols t.rows[m])]:=by rw[List.take_succ_eq_append_getElem bq,List.map_append];rfl
  have bb:((t.rows.take m).map (fun r=>cols.map (ew t.cols r))).length=m:=by rw[List.length_map,FH];omega
  have ey:=Fx cj;have a4:=Fx bb;have b0:=d1.out _ bc;generalize t.rows[m]=r at *;obtain ⟨Ar,cr,hu,e7,Z⟩:=dz;rw[hu] at d7;have dt:=Fx Z;have d4:=Fx b0;have d8:=bl.out.cell_of d7 (by simp);subst dr;have y4:wr.cell? ⟨bx,4,none⟩=some (FN Ac nC cc):=HK.out.cell_of (a8.out.cell 4) (by simp);have el:bx<wr.heap.size:=FC _ _ y4;clear cj hu es cx cy bZ d7 Z bb bc b0;go_wp2;obtain ⟨w8,rfl⟩:∃ w8:World,w8=wr:=⟨_,rfl⟩
  go_loopw [16,83] (fun u i wx=>∃ (J:Nat) (v2:Value),v2=u∧J≤nC∧i=FR FS J∧wx.ownsRow w8.heap.size 46 3 v2 J (al ((cols.map (ew t.cols r)).take J))∧aa [] w8 wx) (fun _ i _=>nC-(intOf i).toNat)
  case atStart=>exact ⟨0,_,rfl,FF _,rfl,World.ownsRow_nil _ _ _ _,FK _ _⟩
  obtain ⟨J,v2,rfl,e5,rfl,be,br⟩:=hrel;have bm:=Fx be;have a6:=Fx br;have a1:=Fx (bl.out.trans br);clear be br;by_cases c5:J<nC
  ·have bo:J<cols.length:=by rw[bz.out];exact c5
   obtain ⟨b9,o9,eb,_,eX,ba⟩:=dB.out.open' (by omega) (by omega);have e0:=a1.out.cell_of (ba J _ (cC cols J bo)) (by simp);obtain ⟨k,hk⟩:=d5.out cols[J] (FE bo);have c4:=Fx (dv.out cols[J]);rw[hk] at c4;have cv:k<r.length:=by rw[d4.out];exact (List.findIdx?_eq_some_iff_getElem.1 hk).1
   have c3:ew t.cols r cols[J]=r[k]:=by
    unfold ew;rw[hk];simp only;rw[FJ,FA cv];rfl
   have ez:Hid (al ((cols.map (ew t.cols r)).take (J+1))=al ((cols.map (ew t.cols r)).take J)++[FR FS r[k].kind,FR FS r[k].num,FM (bs r[k].word)]):=Fx (by
    rw[pW _ _ _ bo,c3,ly])
   obtain ⟨b6,o6,d3,_,e6,O⟩:=dt.out.open' (by omega) (by omega);obtain ⟨x0,x1,x2⟩:=ay r k cv;have f0:=a1.out.cell_of (O _ _ x0) (by simp);have f1:=a1.out.cell_of (O _ _ x1) (by simp);have f2:=a1.out.cell_of (O _ _ x2) (by simp);rw[←Nat.add_assoc] at f1 f2;have N:=Fx (show wr.cell? ⟨b6,o6+k*3,none⟩=_∧wr.cell? ⟨b6,o6+k*3+1,none⟩=_∧wr.cell? ⟨b6,o6+k*3+2,none⟩=_ from ⟨f0,f1,f2⟩);have z0:wr.cell? ⟨bx+1,0,none⟩=some (FN A t.cols.length c):=(HK.out.trans a6.out).cell_of (a0.out.cell 0) (by simp);have e9:(0:Int)≤(k:Int):=by omega
   have e4:(k:Int)<(r.length:Int):=by omega
   subst eb d3;clear x0 x1 x2 O ba c3 f0 f1 f2 hk;generalize cols[J]=nm at *;generalize r[k]=xv at *;have av:=Fx (show J+1≤maxLen∧(J+1)*32≤140737488355328 by simp only[maxLen];omega);go_wp2_with fail
   refine (c4.out _ a1.out).mono ?_;rintro e w5 ⟨rfl,U⟩;simp only[eL];have f0:=U.cell_of N.out.1 (by simp);have f1:=U.cell_of N.out.2.1 (by simp);have f2:=U.cell_of N.out.2.2 (by simp);have ca:=Fx (aC bm.out U (fun _ _=>by simp));have bX:=Fx (a6.out.trans U);have e1:=bX.out.size;clear U;go_wp2_with (at_builtin;(refine wpList_append_lies _ rfl _ _ 89 rfl w8.heap.size 46 iv _ 3 32 Tryz.underlying89 dq ce b8 cn rfl (by decide) _ J (al ((cols.map (ew t.cols r)).take J)) rfl (ca.out.alloc _) ⟨w5.heap.size,0,none⟩ 1 1 [FR FS xv.kind,FR FS xv.num,FM (bs xv.word)] rfl rfl (FI (heap_alloc_new _ _)) (by simp[Value.oneCell']) (by decide) av.out.1 av.out.2 (by rw[ap];omega) _ rfl ?_);intro gw a7 w9 I D ad a2)
   have bj:=Fx ((bX.out.alloc (FQ #[FR FS xv.kind,FR FS xv.num,FM (bs xv.word)] 46)).grown D (fun g hg=> .inr (ca.out.lt g hg).1));rw[←ez.out] at I;have en:=Fx I;clear I D ad a2;go_wp2;go_roundw
   case rel=>exact ⟨J+1,_,rfl,by omega,by go_num,en.out,bj.out⟩
   case measure=>simp[intOf];omega
  obtain rfl:J=nC:=by omega
  have ho:=bm.out;rw[List.take_of_length_le (by rw[List.length_map,bz.out];exact Fy _)] at ho;obtain ⟨A6,c6,c9,_,_⟩:=iD ho;subst c9;have ev:Hid (wr.ownsRow w2.heap.size 46 3 (FN A6 J c6) (cols.map (ew t.cols r)).length (al (cols.map (ew t.cols r)))):=Fx (by
   rw[List.length_map,bz.out];exact gY ho HK.out.size)
  have d2:=Fx (HG.out.keep a6.out);obtain ⟨hs,cm,a9,c7⟩:=d2.out;have er:=Fx a9;rw[a4.out] at a9;have HO:=Fx a9;have eA:=Fx c7;have d9:=Fx cm;have fb:w2.heap.size≤wr.heap.size:=FD HK.out.size a6.out.size;have av:=Fx (show m+1≤maxLen∧(m+1)*24≤140737488355328 by simp only[maxLen];omega);clear a9 c7 cm ho bm y4 d8 el;go_wp2_with (at_builtin;(refine wpList_append_lies _ rfl _ _ 52 rfl w2.heap.size 89 ir _ 1 24 Tryz.underlying52 et cd cu cq rfl (by decide) _ m hs rfl (HO.out.alloc _) ⟨wr.heap.size,0,none⟩ 1 1 [FN A6 J c6] rfl rfl (FI (heap_alloc_new _ _)) (by simp[Value.oneCell']) (by decide) av.out.1 av.out.2 (by rw[ap];omega) _ rfl ?_);intro gw a7 w9 I D ad a2)
  have bj:=Fx (((HK.out.trans a6.out).alloc (FQ #[FN A6 J c6] 89)).grown D (fun g hg=> .inr (HO.out.lt g hg).1));have c8:Hid (iK w9 w2.heap.size (FN (some ⟨gw,0,none⟩) (m+1) a7) ((t.rows.take (m+1)).map fun r=>cols.map (ew t.cols r))):=Fx (by
   rw[ey.out];have h:=gZ (W:=wr) (W':=w9) (base:=w2.heap.size) (gw:=gw) (cap:=a7) d9.out eA.out er.out ev.out D (by rw[a4.out];exact I);rw[a4.out] at h;exact h)
  clear I D ad a2;go_wp2;go_roundw
  case rel=>exact ⟨m+1,_,rfl,by omega,by go_num,c8,bj.out⟩
  case measure=>simp[intOf];omega
 obtain rfl:m=t.rows.length:=by omega
 have hg:=HG.out;rw[List.take_length] at hg;obtain ⟨B6,d6,hv,b5,Z⟩:=hg.rd;subst hv;have b3:Hid (cF wr (FN B6 (t.rows.map fun r=>cols.map (ew t.cols r)).length d6) (t.rows.map fun r=>cols.map (ew t.cols r))):=Fx ⟨B6,d6,rfl,b5,Z⟩;have b4:(t.rows.map fun r=>cols.map (ew t.cols r)).length=t.rows.length:=List.length_map ..;rw[b4] at b3;clear hg b5 Z HG;simp only[List.length_map];clear b4;go_wp2;go_ret2;exact ⟨⟨_,1,rfl,Fy _,eq b3.out _⟩,bl.out.alloc _⟩
end
section
def qN:Tb:=⟨[],[]⟩
abbrev Tm:=List (Bs×Tb)
def getT (m:Tm) (n:Bs):Tb:=(m.lookup n).getD qN
def fX (gv:Bs→Option Tb):List In→Tm→Except (Int×Int) Tm
 | [],h=> .ok h
 | x::l,h=>match gv x.name with
  | none=> .error (7,-1)
  | some t=>if t.cols=x.cols∧ak t=true then fX gv l ((x.name,t)::h) else .error (13,-1)
def putT:List Bs→List Tb→Tm→Tm
 | n::ns,c::cs,m=>putT ns cs ((n,c)::m)
 | _,_,m=>m
def df (f:Fl):List Nat→Tm→Except (Int×Int) Tm
 | [],h=> .ok h
 | k::I,h=>match j5 (jb f k) ((jb f k).ins.map (getT h)) with
  | .error e=> .error (e,(k:Int))
  | .ok D=>df f I (putT (jb f k).outs D h)
def fu (l:List Pb) (h:Tm):Tm:=l.foldl (fun o x=>(x.name,getT h x.src)::o) []
def eF (f:Fl) (gv:Bs→Option Tb):Except (Int×Int) Tm:=match cQ f with
 | .error e=> .error (e.1,-1)
 | .ok _=>match fX gv f.ins [] with
  | .error e=> .error e
  | .ok h=>match cG f with
   | .error e=> .error (e.1,-1)
   | .ok l=>match df f l h with
    | .error e=> .error e
    | .ok h'=> .ok (fu f.outs h')
theorem tW {j:Jb} {ins l:List Tb} (h:j5 j ins= .ok l):∃ out D,(∀ t∈ins,ak t=true)∧aL j (ins.map (·.cols))= .ok out∧bp j ins out= .ok D∧dh out D= .ok l:=by
 obtain ⟨I,out,D,M,N,J⟩:=zZ.1 h;exact ⟨out,D,I,M,N,J⟩
theorem qO:∀ {out:List (List Cl)} {D:List (List (List Vl))} {l:List Tb},out.length≤D.length→dh out D= .ok l→l.map (·.cols)=out
 | [],_,l,_,h=>by
  unfold dh at h;cases h;rfl
 | c::cs,[],l,J,_=>by simp at J
 | c::cs,r::M,l,J,h=>by
  unfold dh at h;split at h
  ·cases h
  cases I:dh cs M with
  | error e=>rw[I] at h;cases h
  | ok q =>
   rw[I] at h;injection h with h;rw[←h,List.map_cons,qO (by simpa using J) I]
theorem AY {j:Jb} {ins l:List Tb} (h:j5 j ins= .ok l):l.length=j.outs.length:=by
 obtain ⟨out,D,_,I,M,J⟩:=tW h;have N:=tB (lA I) M;have:=qO (Nat.le_of_eq N) J;rw[←gP I,←this,List.length_map]
theorem yP {j:Jb} {ins:List Tb} {out:List (List Cl)} (h:aL j (ins.map (·.cols))= .ok out):ins.length=(au j.code).1:=by
 unfold aL at h;split at h
 ·cases h
 rename_i D;rw[List.length_map] at D;exact Classical.byContradiction fun I=>D (.inr (.inl I))
theorem yQ {l:List Tb} (h:l.length=1):∃ t,l=[t]:=by
 match l,h with
 | [t],_=>exact ⟨t,rfl⟩
theorem EQ {l:List Tb} (h:l.length=2):∃ t v,l=[t,v]:=by
 match l,h with
 | [t,v],_=>exact ⟨t,v,rfl⟩
theorem Eo {j:Jb} {ins:List Tb} {e:Int} (h:j5 j ins= .error e):e≠0:=by
 have N:∀ (a:List Cl) (ns seen:List Bs) (acc:List Cl) (e:Int),cY a seen ns acc= .error e→e≠0:=fun a ns=>by
  induction ns with
  | nil=>intro seen acc e h;cases h
  | cons n ns ih =>
   intro seen acc e h;unfold cY at h;split at h
   ·cases h;decide
   split at h
   ·cases h;decide
   exact ih _ _ _ h
 have O:∀ (cs:List (List Cl)) (e:Int),aL j cs= .error e→e≠0:=fun cs e h=>by
  unfold aL at h;split at h
  ·cases h;decide
  split at h
  ·unfold aX at h
   split at h
   ·cases h;decide
   split at h
   ·cases h;decide
   split at h
   ·cases h;decide
   cases h
  split at h
  ·unfold jQ at h
   split at h
   ·cases h;decide
   split at h
   ·cases h;decide
   split at h
   ·cases h;decide
   cases h
  split at h
  ·unfold cw at h
   split at h
   ·cases h;decide
   split at h
   ·rename_i U M
    cases h
    exact N _ _ _ _ _ M
   cases h
  split at h
  ·split at h
   ·cases h;decide
   cases h
  split at h
  ·unfold dj at h
   split at h
   ·cases h;decide
   split at h
   ·split at h
    ·cases h;decide
    split at h
    ·cases h;decide
    split at h
    ·cases h;decide
    cases h
   cases h;decide
  split at h
  ·unfold cI at h
   split at h
   ·cases h;decide
   split at h
   ·split at h
    ·cases h;decide
    split at h
    ·cases h;decide
    cases h
   cases h;decide
  cases h
 have I:∀ (out:List (List Cl)) (e:Int),bp j ins out= .error e→e≠0:=fun out e h=>by
  unfold bp at h;simp only at h;split at h
  ·cases h
  split at h
  ·cases h
  split at h
  ·split at h
   ·cases h;decide
   cases h
  unfold eW at h;simp only at h;split at h
  ·cases h
  split at h
  ·split at h
   ·cases h;decide
   cases h
  split at h
  ·cases h
  split at h
  ·cases h
  cases h
 have J:∀ (out:List (List Cl)) (D:List (List (List Vl))) (e:Int),dh out D= .error e→e≠0:=fun out=>by
  induction out with
  | nil=>intro D e h;unfold dh at h;cases h
  | cons c cs ih =>
   intro D e h
   cases D with
   | nil=>unfold dh at h;cases h
   | cons r Z =>
    unfold dh at h;split at h
    ·cases h;decide
    split at h
    ·rename_i U M
     cases h
     exact ih _ _ M
    cases h
 unfold j5 at h;split at h
 ·cases h;decide
 split at h
 ·rename_i U M
  cases h
  exact O _ _ M
 split at h
 ·rename_i U M
  cases h
  exact I _ _ M
 exact J _ _ _ h
theorem AZ {j:Jb} {ins l:List Tb} (h:j5 j ins= .ok l):∀ t∈l,ak t=true:=by
 obtain ⟨out,av,I,N,h2,h3⟩:=tW h;have U:=AY h;by_cases h9:j.code=9
 ·-- two parts
  have Z:ins.length=1∧j.outs.length=2:=by
   unfold aL au at N;rw[h9] at N;simp only[show ¬((9:Int)=5∨(9:Int)=7) by decide,if_false,if_true] at N;split at N
   ·cases N
   rename_i hn;simp only[List.length_map] at hn;omega
  obtain ⟨t,rfl⟩:∃ t,ins=[t]:=by
   match ins,Z.1 with
   | [t],_=>exact ⟨t,rfl⟩
  rw[Aa j t h9 Z.2] at h;rw[if_pos (I t (by simp))] at h;split at h
  ·cases h
  injection h with h;rw[←h];intro u hu;simp only[List.mem_cons,List.not_mem_nil,or_false] at hu;rcases hu with rfl|rfl
  ·exact lq j (I t (by simp))
  exact jK (I t (by simp)) (FD (List.length_filter_le _ _) (aY (I t (by simp)))) fun r I=>(List.mem_filter.1 I).1
 have aA:=lA N;rw[if_neg h9] at aA;have ad:l.length=1:=by rw[U,←gP N,aA]
 obtain ⟨u,rfl⟩:∃ u,l=[u]:=by
  match l,ad with
  | [u],_=>exact ⟨u,rfl⟩
 have O:j.code=1∨j.code=2∨j.code=3∨j.code=4∨j.code=5∨j.code=6∨j.code=7∨j.code=8:=by
  refine Classical.byContradiction fun hn=>?_
  unfold aL at N;rw[if_pos] at N
  ·cases N
  left
  unfold au;rw[if_neg (by omega),if_neg (by omega),if_neg (by omega)]
 have h0:j.code / 9=0:=by omega
 have ho:j.outs.length=1:=by rw[←U,ad]
 have D:kq j ins=some u:=by
  refine (gf h0).2 ⟨I,out,av,?_,?_,h3⟩
  ·rw[←N]
   have e1:∀ a,aX { j with outs:=[[120]] } a=aX j a:=fun a=>rfl
   unfold aL;simp only[ho,FG,List.length_nil,Nat.zero_add];rfl
  rw[←h2];have a0:∀ (a:Tb) rs acc,aO { j with outs:=[[120]] } a rs acc=aO j a rs acc:=fun a rs=>by
   induction rs with
   | nil=>intro acc;rfl
   | cons r rs ih =>
    intro acc;unfold aO;have:bu { j with outs:=[[120]] } a r=bu j a r:=rfl;rw[this]
    cases bu j a r with
    | none=>rfl
    | some x=>exact ih _
  unfold bp eW;simp only[a0];rfl
 intro t ht;rw[List.mem_singleton.1 ht];have J:=yP N;rcases O with M|M|M|h4|M|M|h7|h8
 ·rw[M] at J
  obtain ⟨t,rfl⟩:=yQ J;rw[uY j t M] at D;split at D
  ·rename_i hh
   injection D with D;rw[←D];exact lq j hh.1
  cases D
 ·rw[M] at J
  obtain ⟨t,rfl⟩:=yQ J;obtain ⟨I,⟨k,hk⟩,l,hl,rfl⟩:=(Cd M).1 D;exact yi I hk hl
 ·rw[M] at J
  obtain ⟨t,rfl⟩:=yQ J;obtain ⟨I,hp,rfl⟩:=(Ab M).1 D;exact u5 I hp
 ·rw[h4] at J
  obtain ⟨t,rfl⟩:=yQ J;obtain ⟨I,_,rfl⟩:=(AV h4).1 D;exact vJ I
 ·rw[M] at J
  obtain ⟨t,v,rfl⟩:=EQ J;obtain ⟨I,hv,a1,hl,rfl⟩:=(yh M).1 D;exact th I hv a1 hl
 ·rw[M] at J
  obtain ⟨t,rfl⟩:=yQ J;obtain ⟨I,rfl⟩:=(Ad M).1 D;exact uZ I
 ·rw[h7] at J
  obtain ⟨t,v,rfl⟩:=EQ J;exact vK h7 D
 rw[h8] at J;obtain ⟨t,rfl⟩:=yQ J;exact tV h8 D
theorem wH {gv:Bs→Option Tb}:∀ {l:List In} {m D:Tm},fX gv l m= .ok D→(l.map (·.name)).Nodup→(∀ x∈l,∃ t,gv x.name=some t∧t.cols=x.cols∧ak t=true∧D.lookup x.name=some t)∧(∀ n,n∉l.map (·.name)→D.lookup n=m.lookup n)
 | [],m,D,h,_=>by cases h;exact ⟨fun x h=>(by cases h),fun _ _=>rfl⟩
 | x::l,m,D,h,N=>by
  unfold fX at h
  cases M:gv x.name with
  | none=>rw[M] at h;cases h
  | some t =>
   rw[M] at h;simp only at h;by_cases I:t.cols=x.cols∧ak t=true
   ·rw[if_pos I] at h
    rw[List.map_cons,List.nodup_cons] at N;obtain ⟨a,b⟩:=wH h N.2;refine ⟨fun y O=>?_,fun n J=>?_⟩
    ·rcases List.mem_cons.1 O with rfl|O
     ·refine ⟨t,M,I.1,I.2,?_⟩
      rw[b _ N.1,List.lookup_cons];simp
     exact a y O
    rw[List.map_cons,List.mem_cons] at J;rw[b n (fun U=>J (.inr U)),List.lookup_cons];have:(n==x.name)=false:=by simpa using fun e=>J (.inl e)
    rw[this]
   rw[if_neg I] at h;cases h
theorem tX {gv:Bs→Option Tb}:∀ {l:List In} {m:Tm} {x:Int×Int},fX gv l m= .error x→x.2= -1∧x.1≠0
 | [],m,x,h=>by cases h
 | y::l,m,x,h=>by
  unfold fX at h
  cases I:gv y.name with
  | none=>rw[I] at h;cases h;exact ⟨rfl,by decide⟩
  | some t =>
   rw[I] at h;simp only at h;by_cases D:t.cols=y.cols∧ak t=true
   ·rw[if_pos D] at h;exact tX h
   rw[if_neg D] at h;cases h;exact ⟨rfl,by decide⟩
structure Fw (f:Fl) (gv:Bs→Option Tb) (F:Bs→Option Tb):Prop where
 ins:∀ x∈f.ins,∃ t,gv x.name=some t∧t.cols=x.cols∧ak t=true∧F x.name=some t
 jobs:∀ j∈f.jobs,∃ ts,j5 j (j.ins.map fun n=>(F n).getD qN)= .ok ts∧∀ i (h:i<j.outs.length) (h':i<ts.length),F j.outs[i]=some ts[i]
 none:∀ n,n∉bf f→F n=none
theorem qP {f:Fl}:∀ {l:List Nat} {m:Tm} {x:Int×Int},df f l m= .error x→0≤x.2∧x.1≠0
 | [],m,x,h=>by cases h
 | k::l,m,x,h=>by
  unfold df at h
  cases D:j5 (jb f k) ((jb f k).ins.map (getT m)) with
  | error e =>
   rw[D] at h;injection h with h;rw[←h];exact ⟨by show (0:Int)≤(k:Int);omega,Eo D⟩
  | ok cs=>rw[D] at h;exact qP h
theorem pC (l:List Pb) (x:Pb) (h:Tm):fu (l++[x]) h=(x.name,getT h x.src)::fu l h:=by
 unfold fu;rw[List.foldl_append];rfl
theorem ud {h h':Tm}:∀ {l:List Pb},(∀ x∈l,getT h x.src=getT h' x.src)→fu l h=fu l h':=fun {l}=>by
 refine gL (p:=fun l=>(∀ x∈l,getT h x.src=getT h' x.src)→fu l h=fu l h') (fun _=>rfl) (fun l x ih D=>?_) l;rw[pC,pC,ih fun y I=>D y (by simp[I]),D x (by simp)]
theorem mQ {f:Fl} {m:Cm} (I:cQ f= .ok m) {gv:Bs→Option Tb}:∃ l,cG f= .ok l∧fg f l∧l.length=f.jobs.length∧eF f gv=match fX gv f.ins [] with
  | .error e=> .error e
  | .ok h=>match df f l h with
   | .error e=> .error e
   | .ok h'=> .ok (fu f.outs h'):=by
 obtain ⟨_,l,_,_,D,_⟩:=jo I;obtain ⟨J,M⟩:=fF D;refine ⟨l,D,J,M,?_⟩;unfold eF;rw[I];simp only
 cases fX gv f.ins [] with
 | error e=>rfl
 | ok h =>
  simp only[D];all_goals (cases df f l h<;>rfl)
theorem zg {f:Fl} (h:jW f):(f.ins.map (·.name)).Nodup:=by
 have:=h.nodup;unfold bf at this;rw[List.nodup_append] at this;exact this.1
theorem pD {f:Fl} {name:Bs} (M:∀ j∈f.jobs,∀ n∈j.ins,n≠name) (O:∀ j∈f.jobs,name∉j.outs):∀ (l:List Nat) (h J:Tm),(∀ k∈l,k<f.jobs.length)→(∀ n,n≠name→J.lookup n=h.lookup n) →
  (∃ q q1,df f l h= .ok q∧df (aW f name) (l.map (· + 1)) J= .ok q1∧∀ n,n≠name→q1.lookup n=q.lookup n)∨∃ e k,df f l h= .error (e,k)∧df (aW f name) (l.map (· + 1)) J= .error (e,k+1)
 | [],h,J,_,N=> .inl ⟨h,J,rfl,rfl,N⟩
 | k::l,h,J,Z,N=>by
  have hk:=Z k (List.mem_cons_self ..);have hj:jb f k∈f.jobs:=by rw[ee hk];exact FE _
  have e:(jb f k).ins.map (getT J)=(jb f k).ins.map (getT h):=List.map_congr_left fun n I=>by
   unfold getT;rw[N n (M _ hj n I)]
  rw[List.map_cons];unfold df;rw[wu,e]
  cases h2:j5 (jb f k) ((jb f k).ins.map (getT h)) with
  | error x=>exact .inr ⟨x,(k:Int),rfl,by simp⟩
  | ok ts =>
   simp only;refine pD M O l _ _ (fun q hq=>Z q (List.mem_cons_of_mem _ hq)) fun n I=>?_
   have U:∀ (ns:List Bs) (cs:List Tb) (a b:Tm),(∀ n,n≠name→a.lookup n=b.lookup n)→∀ n,n≠name→(putT ns cs a).lookup n=(putT ns cs b).lookup n:=fun ns=>by
    induction ns with
    | nil=>intro cs a b D n I;unfold putT;exact D n I
    | cons x ns ih =>
     intro cs a b D n I
     cases cs with
     | nil=>unfold putT;exact D n I
     | cons c cs =>
      show (putT ns cs ((x,c)::a)).lookup n=(putT ns cs ((x,c)::b)).lookup n;refine ih cs _ _ (fun z hz=>?_) n I;rw[List.lookup_cons,List.lookup_cons,D z hz]
   exact U _ _ _ _ N n I
theorem zh {f:Fl} {m:Cm} {name:Bs} (hc:cQ f= .ok m) (hi:f.ins≠[]) (hn:name∉bf f) (gv:Bs→Option Tb) :
  (∃ a,eF f gv= .ok a∧eF (aW f name) gv= .ok a)∨∃ x y:Int×Int,eF f gv= .error x∧eF (aW f name) gv= .error y∧x.1=y.1∧x.1≠0∧(x.2<0→y.2=x.2)∧(0≤x.2→y.2=x.2+1):=by
 obtain ⟨m',l0,a1,a2,a3,_,_,_⟩:=uI hc hi hn;obtain ⟨l,h3,hv,hl,he⟩:=mQ hc (gv:=gv);obtain ⟨l2,b3,bv,bl,be⟩:=mQ a1 (gv:=gv);rw[h3] at a2;injection a2 with a2;subst a2;rw[a3] at b3;injection b3 with b3;subst b3;have hN:=(sP hc).names;have Z:∀ n∈bf f,n≠name:=fun n J e=>hn (e ▸ J)
 have ad:∀ j∈f.jobs,∀ n∈j.ins,n≠name:=fun j hj n J=>Z n (hN.ins j hj n J)
 have a4:∀ j∈f.jobs,name∉j.outs:=fun j hj J=>hn (by unfold bf;exact List.mem_append_right _ (List.mem_flatMap.2 ⟨j,hj,J⟩))
 rw[he,be]
 show _∨∃ x y:Int×Int,_∧(match fX gv f.ins [] with
  | .error e=> .error e
  | .ok h=>match df (aW f name) (0::l.map (· + 1)) h with
   | .error e=> .error e
   | .ok h'=> .ok (fu f.outs h'):Except (Int×Int) Tm)= .error y∧_
 have M:(match fX gv (aW f name).ins [] with
  | .error e=> .error e
  | .ok h=>match df (aW f name) (0::l.map (· + 1)) h with
   | .error e=> .error e
   | .ok h'=> .ok (fu (aW f name).outs h'):Except (Int×Int) Tm)=match fX gv f.ins [] with
  | .error e=> .error e
  | .ok h=>match df (aW f name) (0::l.map (· + 1)) h with
   | .error e=> .error e
   | .ok h'=> .ok (fu f.outs h'):=rfl
 rw[M]
 cases h0:fX gv f.ins [] with
 | error x =>
  right
  obtain ⟨U,O⟩:=tX h0;exact ⟨x,x,rfl,rfl,rfl,O,fun _=>rfl,fun h=>by omega⟩
 | ok N =>
  simp only;obtain ⟨I,aA,hx⟩:∃ I,I∈f.ins∧f.ins.headD ⟨0,[],[]⟩=I:=by
   cases hf:f.ins with
   | nil=>exact absurd hf hi
   | cons x l=>exact ⟨x,List.mem_cons_self ..,rfl⟩
  obtain ⟨a,b⟩:=wH h0 (zg hN);obtain ⟨t,t1,t2,t3,t4⟩:=a I aA;have av:jb (aW f name) 0=iO name I.name:=by
   show iO name ((f.ins.headD ⟨0,[],[]⟩).name)=_;rw[hx]
  have hd:j5 (iO name I.name) [t]= .ok [⟨t.cols,aB t.rows [] []⟩]:=by
   refine zZ.2 ⟨fun u hu=>by rw[List.mem_singleton.1 hu];exact t3,[t.cols],[aB t.rows [] []],?_,?_,?_⟩
   ·unfold aL au iO
    simp
   ·unfold bp eW iO
    simp
   refine bD.2 ⟨?_,rfl⟩;have h1:=(dQ t.rows [] []).1;have h2:=aY t3;simp at h1;omega
  have D:df (aW f name) (0::l.map (· + 1)) N=df (aW f name) (l.map (· + 1)) ((name,⟨t.cols,aB t.rows [] []⟩)::N):=by
   rw[df,av];have e:(iO name I.name).ins.map (getT N)=[t]:=by
    show [getT N I.name]=[t];unfold getT;rw[t4];rfl
   rw[e,hd];rfl
  rw[D];rcases pD ad a4 l N ((name,⟨t.cols,aB t.rows [] []⟩)::N) hv.lt (fun n J=>by
   rw[List.lookup_cons];have:(n==name)=false:=by simpa using J
   rw[this]) with ⟨q,q1,U,O,e3⟩|⟨e,k,U,O⟩
  ·rw[U,O]
   left
   refine ⟨_,rfl,?_⟩;simp only;congr 1
   refine ud fun x a0=>?_
   unfold getT;rw[e3 _ (Z _ (hN.src x a0))]
  rw[U,O];right
  have h4:=qP U;exact ⟨_,_,rfl,rfl,rfl,h4.2,fun h=>absurd h (by have:=h4.1;simp only at this ⊢;omega),fun _=>rfl⟩
end
end Go.Proofs.YtecpeogejjibaaaGreatDoor
