/- table.Value, table.Print. A table in memory; table.Right of it. api.Tell, plain.Place and is, at nil and at an *api.At. api.Tell of an api.Errno. strings.Split and strings.Cut at one byte, as plain functions. slices.Index over kinds[:]. table.cut: a line cut at blanks, but not within '. table.ParseValue. table.Parse: words for what it makes. Values stand in a row; plain. table.Parse. table.Parse: its two ways, told apart. What tables lean on, out of a row's condition; a world in which it is laid. -/
import Derived.Test.YtecpeogejjibaaaGreatDoorEmoM2
import Derived.Test.YtecpeogejjibaaaGreatDoorEmoM4
import Derived.Sort.Grow
import Derived.Lib.ItoaLen
import Derived.Test.YtecpeogejjibaaaGreatDoorEmoM3
import Derived.Deep.CutBlock
import Derived.Lib.Split
import Derived.Lib.CountLaws
import Derived.Lib.ConvBytes
import Derived.Deep.AppendLies
import Derived.Deep.DeepCutAuto
import Derived.Test.YtecpeogejjibaaaGreatDoorRows
import Derived.Lib.LaidTab
import Derived.LaidLaws
import Derived.LaidSub
import Derived.LaidMore
import Derived.Shelf.Vars
import Derived.HandedShaped
set_option linter.unusedSimpArgs false
set_option linter.unusedVariables false
set_option maxRecDepth 100000
set_option maxHeartbeats 16000000
namespace Go.Proofs.YtecpeogejjibaaaGreatDoor
open Go.Lib renaming hid → Fx
open _root_.Nat renaming le_refl → Fy, le_trans → FD, zero_le → FF
open _root_.List renaming getElem?_eq_getElem → FA, getElem_mem → FE, length_cons → FG, length_take → FH, getD_eq_getElem?_getD → FJ
open Go.World renaming block_lt_of_cell? → FC, news_of_block → FI
open aa renaming refl → FK
open ao renaming new → FL
open Go.Value renaming string → FM, slice → FN, pointer → FO, int → FR
open Go.Ending renaming returned → FP
open Go.Obj renaming cells → FQ
open Go.IntKind renaming i64 → FS
section
open Go.RowKit Go.Sort
attribute [local go_sem] ag ab ae af
structure gG (w:World):Prop where
 p10:Lib.TabIs Tryz.prog w "internal/strconv.uint64pow10" .u64 Lib.pow10Tab
 kinds:∀ j,j<3→w.cell? ⟨0,j,none⟩=some (FM (bs (eT j)))
 mlen:∃ m,w.cell? ⟨5,0,none⟩=some (FR FS m)
 esyn:∃ t p,w.cell? ⟨6,0,none⟩=some (.iface t p)
 erng:∃ t p,w.cell? ⟨7,0,none⟩=some (.iface t p)
theorem gG.quiet {w w':World} (h:gG w) (D:aa [] w w'):gG w' :=
  ⟨iV h.p10 D,fun j J=>D.cell_of (h.kinds j J) (by simp),by obtain ⟨m,I⟩:=h.mlen;exact ⟨m,D.cell_of I (by simp)⟩,
   by obtain ⟨t,p,I⟩:=h.esyn;exact ⟨t,p,D.cell_of I (by simp)⟩,by obtain ⟨t,p,I⟩:=h.erng;exact ⟨t,p,D.cell_of I (by simp)⟩⟩
theorem xh (v:Vl) (D:ea v.num) (h:v.word.length≤1000000000) (w:World) (I:gG w) :
  Calls Tryz.prog 170 #[fV v] w fun e w'=>e=FP (FM (bs (bd v)))∧aa [] w w':=xg v D h w I.p10
theorem xi {s:Bs} (h:eC s=true):s.length≤10:=by
 unfold eC at h;simp only[Bool.and_eq_true,decide_eq_true_eq] at h;exact h.1.1.2
theorem si {l:List Cl} (h:cp l=true) {n:Nat} (D:n<l.length):eC l[n].name=true∧(l[n].kind=1∨l[n].kind=2):=by
 unfold cp at h;simp only[Bool.and_eq_true,List.all_eq_true] at h;have:=h.2 n (List.mem_range.2 D);unfold fY at this;rw[FA D] at this;simp only[Bool.and_eq_true,Bool.or_eq_true,decide_eq_true_eq] at this;exact this.1
theorem uq {v:Vl} (h:eS v=true):(bd v).length≤21∧ea v.num∧v.word.length≤16:=by
 unfold eS at h;unfold bd ea;by_cases I:v.kind=1
 ·rw[if_pos I] at h ⊢
  simp only[Bool.and_eq_true,decide_eq_true_eq,beq_iff_eq] at h;have:=Lib.itoa_length_le v.num (by omega) (by omega);exact ⟨this,⟨by omega,by omega⟩,by rw[h.1.1];simp⟩
 rw[if_neg I] at h ⊢;by_cases D:v.kind=2
 ·rw[if_pos D] at h
  simp only[Bool.and_eq_true,decide_eq_true_eq] at h;refine ⟨?_,⟨by omega,by omega⟩,h.1.2⟩;simp;omega
 rw[if_neg D] at h;cases h
theorem jE {t:Tb} (h:ak t=true):cp t.cols=true∧t.cols.length≤6∧t.rows.length≤60∧∀ r∈t.rows,fv t.cols r=true:=by
 unfold ak at h;simp only[Bool.and_eq_true,decide_eq_true_eq,List.all_eq_true] at h;have D:=h.1.1;unfold cp at D;simp only[Bool.and_eq_true,decide_eq_true_eq] at D;exact ⟨h.1.1,D.1.2,h.1.2,h.2⟩
end
section
open Go.RowKit
attribute [local go_sem] ag ab ae af
structure aZ (w:World) (t:Tb) (A B:Option Addr) (c d:Nat):Prop where
 cols:Rd w [] 2 A t.cols.length (ai t.cols)
 cc:t.cols.length≤c
 rows:cM w [] B t.rows
 cd:t.rows.length≤d
 names:∀ x∈t.cols,x.name.length≤1000000000
 ln:t.cols.length≤4294967296
 lm:t.rows.length≤4294967296
 lr:∀ r∈t.rows,r.length≤4294967296
theorem aZ.quiet {w w':World} {t:Tb} {A B:Option Addr} {c d:Nat} (h:aZ w t A B c d) (D:aa [] w w'):aZ w' t A B c d :=
 ⟨h.cols.keep D,h.cc,h.rows.keep D,h.cd,h.names,h.ln,h.lm,h.lr⟩
theorem aZ.right {w:World} {t:Tb} {A B:Option Addr} {c d:Nat} (h:aZ w t A B c d) :
  Calls Tryz.prog 13 #[jP A t.cols.length c B t.rows.length d] w fun e w'=>e=FP (.bool (ak t))∧aa [] w w' :=
 wW t A B c d w h.cols h.cc h.rows h.names h.ln h.lm h.lr
end
section
open Go.RowKit Go.BigFrame
theorem ww (g:Nat) (e p:Int) (w:World) (D:iJ w) (I:ao w g 75 #[FR FS e,FR FS p]) :
  Calls Tryz.prog 23 #[.iface 73 (FO (some ⟨g,0,none⟩))] w fun J w'=>J=FP (FR FS e)∧aa [] w w':=by
 have h:w.cell? ⟨g,0,none⟩=some (FR FS e):=I.cell 0;have hE':∀ o,(w.alloc o).cell? ⟨2,0,none⟩=some (.iface 208 (.agg #[FO (some ⟨13,34,none⟩)])):=fun o=>(World.cell?_alloc_lt w o ⟨2,0,none⟩ (FC w ⟨2,0,none⟩ D)).trans D
 have hC':∀ o,(w.alloc o).cell? ⟨g,0,none⟩=some (FR FS e):=fun o=>(World.cell?_alloc_lt w o ⟨g,0,none⟩ (FC w ⟨g,0,none⟩ h)).trans h
 have N:=Fx hE';have M:=Fx hC';clear D hE' I h hC';go_enter Tryz.func23,Tryz.ntmps23
 go_wp2_with (go_at_call 63;refine (EJ g e _ (FR FS 0) _ (N.out _) (M.out _) (by simp) (by simp)).mono ?_;rintro J w' ⟨rfl,rfl⟩)
 go_ret;refine ⟨by simp,?_⟩;repeat first|exact FK _ _|refine aa.alloc ?_ _|refine aa.setCell ?_ (.inr (Fy _)) _
theorem oy (e:Int) (w:World) (h:iJ w) :
  Calls Tryz.prog 23 #[.iface 37 (FR FS e)] w fun D w'=>D=FP (FR FS e)∧aa [] w w':=by
 have hE':∀ o,(w.alloc o).cell? ⟨2,0,none⟩=some (.iface 208 (.agg #[FO (some ⟨13,34,none⟩)])):=fun o=>(World.cell?_alloc_lt w o ⟨2,0,none⟩ (FC w ⟨2,0,none⟩ h)).trans h
 have I:=Fx hE';clear h hE';go_enter Tryz.func23,Tryz.ntmps23
 go_wp2_with (go_at_call 63;refine (D6 _ _ (FR FS 0) _ (I.out _) (by simp) (by simp)).mono ?_;rintro D w' ⟨rfl,rfl⟩)
 go_ret;refine ⟨by simp,?_⟩;repeat first|exact FK _ _|refine aa.alloc ?_ _|refine aa.setCell ?_ (.inr (Fy _)) _
end
section
open Go.RowKit
theorem iC (c:UInt8) (l:Bs):Lib.index (c::l) [c]=0:=by unfold Lib.index;simp
theorem jt {b c:UInt8} (h:b≠c) (l:Bs):Lib.index (b::l) [c]=if Lib.index l [c]= -1 then -1 else Lib.index l [c]+1:=by
 have D:([c]:Bs).isPrefixOf (b::l)=false:=by
  simp only[List.isPrefixOf,Bool.and_true,beq_eq_false_iff_ne];exact fun e=>h e.symm
 conv=>lhs;unfold Lib.index
 rw[D];simp
theorem qC (c:UInt8):∀ s:Bs,Lib.splitK [c] 0 (Lib.count s [c]) s=ax c s
 | []=>by rw[Lib.count_miss (by rfl)];rfl
 | b::l=>by
  have ih:=qC c l;unfold ax;by_cases D:b=c
  ·subst D
   rw[if_pos rfl,Lib.count_hit (i:=0) (by simp) (iC b l),Nat.add_comm];simp only[FG,List.length_nil,Nat.zero_add,List.drop_succ_cons,List.drop_zero];rw[←ih];conv=>lhs;unfold Lib.splitK
   rw[iC];simp
  rw[if_neg D];have I:=jt D l;rcases Lib.index_spec l [c] with ⟨h,_⟩|⟨i,h,J,_,_⟩
  ·rw[if_pos h] at I
   rw[Lib.count_miss I];rw[Lib.count_miss h] at ih;rw[←ih];rfl
  rw[if_neg (by omega),h] at I;have hp':Lib.index (b::l) [c]=((i+1:Nat):Int):=by omega
  rw[Lib.count_hit (by simp) hp',Nat.add_comm];rw[Lib.count_hit (by simp) h,Nat.add_comm] at ih;simp only[FG,List.length_nil,Nat.zero_add,List.drop_succ_cons] at ih ⊢;conv at ih=>lhs;unfold Lib.splitK
  conv=>lhs;unfold Lib.splitK
  rw[hp',if_neg (by rw[beq_iff_eq];omega)];rw[h,if_neg (by rw[beq_iff_eq];omega)] at ih;rw[←ih];simp[show ((i:Int)+1).toNat=i+1 by omega]
theorem wD (c:UInt8):∀ s:Bs,(Lib.cut s [c]).1=(fT c s).1∧(Lib.cut s [c]).2.1=(fT c s).2
 | []=>by unfold Lib.cut;exact ⟨rfl,rfl⟩
 | b::l=>by
  have ih:=wD c l;unfold fT;by_cases I:b=c
  ·subst I
   rw[if_pos rfl];unfold Lib.cut;rw[iC];simp
  rw[if_neg I];have D:=jt I l;unfold Lib.cut at ih ⊢;rcases Lib.index_spec l [c] with ⟨h,_⟩|⟨i,h,J,_,_⟩
  ·rw[if_pos h] at D
   rw[D,if_neg (by decide)];rw[h,if_neg (by decide)] at ih;exact ⟨by rw[←ih.1],ih.2⟩
  rw[if_neg (by omega),h] at D;rw[D,if_pos (by omega)];rw[h,if_pos (by omega)] at ih;simp only[show ((i:Int)+1).toNat=i+1 by omega,Int.toNat_natCast,FG,List.length_nil,Nat.zero_add,List.take_succ_cons,List.drop_succ_cons] at ih ⊢;exact ⟨by rw[ih.1],ih.2⟩
theorem yq (c:UInt8) (s:Bs):ax c s≠[]:=by
 cases s with
 | nil=>simp[ax]
 | cons b l =>
  unfold ax;split
  ·simp
  split<;>simp
theorem eO (c:UInt8):∀ s:Bs,(ax c s).length≤s.length+1∧1≤(ax c s).length∧∀ u∈ax c s,u.length≤s.length
 | []=>by unfold ax;exact ⟨Fy _,Fy _,fun u D=>by simp at D;rw[D];exact Fy _⟩
 | b::l=>by
  obtain ⟨N,M,I⟩:=eO c l;unfold ax;split
  ·refine ⟨by simp;omega,by simp,fun u D=>?_⟩
   rcases List.mem_cons.1 D with rfl|D
   ·simp
   have:=I u D;simp;omega
  split
  ·rename_i h t J
   rw[J] at N I;refine ⟨by simp at *;omega,by simp,fun u D=>?_⟩;rcases List.mem_cons.1 D with rfl|D
   ·have:=I h (List.mem_cons_self ..);simp;omega
   have:=I u (List.mem_cons_of_mem _ D);simp;omega
  rename_i J;rw[J] at M;simp at M
theorem oG (c:UInt8):∀ s:Bs,(fT c s).1.length≤s.length∧(fT c s).2.length≤s.length
 | []=>⟨Fy _,Fy _⟩
 | b::l=>by
  obtain ⟨h,D⟩:=oG c l;unfold fT;split
  ·exact ⟨by simp,by simp⟩
  exact ⟨by simp;omega,by simp;omega⟩
theorem Ak:∀ l:List ByteArray,l.map Value.string=strs (l.map (·.data.toList))
 | []=>rfl
 | b::l=>by
  have ih:=Ak l;unfold strs at *;simp only[List.map_cons];rw[ih];rfl
theorem u9 (c:UInt8) (s:Bs):(Lib.splitB ⟨#[c]⟩ 0 (Lib.countB (bs s) ⟨#[c]⟩) (bs s)).map Value.string=strs (ax c s):=by
 rw[Ak,Lib.splitB_data,←qC];rfl
theorem oH (c:UInt8):∀ s:Bs,Lib.count s [c]+1=(ax c s).length
 | []=>by rw[Lib.count_miss (by rfl)];rfl
 | b::l=>by
  have ih:=oH c l;unfold ax;by_cases J:b=c
  ·subst J
   rw[if_pos rfl,Lib.count_hit (i:=0) (by simp) (iC b l)];simp;omega
  rw[if_neg J];have M:=jt J l;have N:Lib.count (b::l) [c]=Lib.count l [c]:=by
   rcases Lib.index_spec l [c] with ⟨D,_⟩|⟨i,D,O,_,_⟩
   ·rw[if_pos D] at M
    rw[Lib.count_miss M,Lib.count_miss D]
   rw[if_neg (by omega),D] at M;have hp':Lib.index (b::l) [c]=((i+1:Nat):Int):=by omega
   rw[Lib.count_hit (by simp) hp',Lib.count_hit (by simp) D];simp
  rw[N];split
  ·rename_i h t I
   rw[I] at ih;simpa using ih
  rename_i I;exact absurd I (yq c l)
theorem yr (c:UInt8) (s:Bs) (N:s.length≤1000000000) (w:World) (M:gG w) :
  Calls Tryz.prog 45 #[FM (bs s),FM ⟨#[c]⟩] w fun e w'=>e=FP (FN (some ⟨w.heap.size,0,none⟩) (ax c s).length (ax c s).length)∧Rd w' [] 1 (some ⟨w.heap.size,0,none⟩) (ax c s).length (strs (ax c s))∧aa [] w w':=by
 obtain ⟨m,J⟩:=M.mlen;refine (Tryz.strings_Split (bs s) ⟨#[c]⟩ m w (by rw[ag];omega) J (Fy 1)).mono ?_;rintro e w' ⟨rfl,rfl⟩;have D:Lib.countB (bs s) ⟨#[c]⟩+1=(ax c s).length:=oH c s;rw[D];refine ⟨rfl,?_,(FK _ _).alloc _⟩;rw[u9];refine ⟨by rw[ja,Nat.mul_one],fun _=>⟨_,rfl,by simp,by simp,fun j u I=>?_⟩⟩;have h:=(FL w 9 (strs (ax c s)).toArray).cell j;rw[cJ,Nat.zero_add];rw[h];simpa using I
theorem tj (c:UInt8) (s:Bs) (I:s.length≤1000000000) (w:World) (O:gG w) :
  Calls Tryz.prog 45 #[FM (bs s),FM ⟨#[c]⟩] w fun e w'=>∃ b o,e=FP (FN (some ⟨b,o,none⟩) (ax c s).length (ax c s).length)∧w.heap.size≤b∧b<w'.heap.size∧(∀ j u,(strs (ax c s))[j]? = some u→w'.cell? ⟨b,o+j,none⟩=some u)∧aa [] w w':=by
 refine (yr c s I w O).mono ?_;rintro e w' ⟨rfl,h,J⟩;obtain ⟨b,o,D,_,M,N⟩:=h.open' (eO c s).2.1 (by decide);exact ⟨b,o,by rw[D],by injection D with D;injection D with D;omega,M,N,J⟩
theorem Am (c:UInt8) (s:Bs) (J:s.length≤1000000000) (w:World) (I:gG w) :
  Calls Tryz.prog 47 #[FM (bs s),FM ⟨#[c]⟩] w fun e w'=>(∃ b,e=FP (.tuple #[FM (bs (fT c s).1),FM (bs (fT c s).2),.bool b]))∧aa [] w w':=by
 obtain ⟨m,D⟩:=I.mlen;refine (Tryz.strings_Cut (bs s) ⟨#[c]⟩ m w (by rw[ag];omega) D).mono ?_;rintro e w' ⟨rfl,n,rfl⟩;have h:=wD c s;refine ⟨⟨(Lib.cut s [c]).2.2,?_⟩,(FK _ _).drewN _⟩;rw[←h.1,←h.2];rfl
end
section
open Go.RowKit
attribute [local go_sem] ag ab ae af
def oI (k:Bs):Int:=if k=[] then 0 else if k=[105,110,116] then 1 else if k=[116,101,120,116] then 2 else -1
theorem Ap (k:Bs):max (oI k) 0=(EZ k:Int):=by
 unfold oI EZ;by_cases h:k=[]
 ·subst h;rfl
 rw[if_neg h];split
 ·rfl
 split<;>rfl
theorem Cf {k:Bs} (j:Nat) (D:j<3) (h:k=eT j):oI k=(j:Int):=by
 subst h
 match j,D with
 | 0,_=>rfl
 | 1,_=>rfl
 | 2,_=>rfl
theorem yt {k:Bs} (h:∀ j,j<3→(k==eT j)=false):oI k= -1:=by
 have D:¬k=[]:=fun e=>by have:=h 0 (by omega);rw[e] at this;exact absurd this (by decide)
 have I:¬k=[105,110,116]:=fun e=>by have:=h 1 (by omega);rw[e] at this;exact absurd this (by decide)
 have J:¬k=[116,101,120,116]:=fun e=>by have:=h 2 (by omega);rw[e] at this;exact absurd this (by decide)
 unfold oI;rw[if_neg D,if_neg I,if_neg J]
theorem tn (k:Bs) (w:World) (N:∀ j,j<3→w.cell? ⟨0,j,none⟩=some (FM (bs (eT j)))) :
  Calls Tryz.prog 48 #[FN (some ⟨0,0,none⟩) 3 3,FM (bs k)] w fun e w'=>e=FP (FR FS (oI k))∧w=w':=by
 have Z:=Fx N;clear N;go_enter Tryz.func48,Tryz.ntmps48
 go_wp2;go_loop [8] (fun i=>∃ n:Nat,n≤3∧i=FR FS n∧Hid (∀ j,j<n→(k==eT j)=false)) (fun i=>3-(intOf i).toNat)
 case atStart=>exact ⟨0,FF _,rfl,fun j M=>absurd M (by omega)⟩
 obtain ⟨n,hn,rfl,I⟩:=hrel;by_cases J:n<3
 ·have d1:=Z.out n J
  have hlt':(n:Int)<3:=by omega
  cases O:(k==eT n) with
  | true =>
   have D:oI k=(n:Int):=Cf n J (by simpa using O);have U:=Fx D;generalize eT n=kw at *;clear D;go_wp2;go_ret;exact ⟨by rw[U.out];rfl,rfl⟩
  | false =>
   have hno':Hid (∀ j,j<n+1→(k==eT j)=false):=fun j M=>by
    by_cases h:j<n
    ·exact I j h
    obtain rfl:j=n:=by omega
    exact O
   generalize eT n=kw at *;go_wp2;go_round
   case rel=>exact ⟨n+1,by omega,by go_num,hno'⟩
   case measure=>simp[intOf];omega
 obtain rfl:n=3:=by omega
 have D:Hid (oI k= -1):=yt fun j M=>I j M
 go_wp2;go_ret;exact ⟨by rw[D.out];rfl,rfl⟩
theorem rI (k:Bs) (w:World) (h:gG w) :
  Calls Tryz.prog 48 #[FN (some ⟨0,0,none⟩) 3 3,FM (bs k)] w fun e w'=>e=FP (FR FS (oI k))∧aa [] w w':=by
 refine (tn k w h.kinds).mono ?_;rintro e w' ⟨rfl,rfl⟩;exact ⟨rfl,FK _ _⟩
theorem l7 (s:Bs):∀ k,(ei s k).2.1≤k∧(ei s k).1.length≤k
 | 0=>⟨Fy _,Fy _⟩
 | k+1=>by
  have ih:=l7 s k;unfold ei;simp only;split
  ·exact ⟨by simp only;omega,by simp only;omega⟩
  split
  ·exact ⟨Fy _,by simp;omega⟩
  omega
theorem tq (s:Bs):∀ k,∀ u∈(ei s k).1,u.length≤s.length
 | 0,u,h=>by cases h
 | k+1,u,h=>by
  have ih:=tq s k;unfold ei at h;simp only at h;split at h
  ·exact ih u h
  split at h
  ·rcases List.mem_append.1 h with h|h
   ·exact ih u h
   rw[List.mem_singleton] at h;subst h;rw[List.length_drop,FH];omega
  exact ih u h
theorem Aw (s:Bs):∀ u∈fU s,u.length≤s.length:=fun u h=>by
 unfold fU at h;rcases List.mem_append.1 h with h|h
 ·exact tq s _ u h
 rw[List.mem_singleton] at h;subst h;rw[List.length_drop];omega
theorem Cg (s:Bs) (hs:s.length≤1000000) (w:World) :
  Calls Tryz.prog 49 #[FM (bs s)] w fun e w'=>∃ A c,e=FP (FN A (fU s).length c)∧w'.ownsRow w.heap.size 9 1 (FN A (fU s).length c) (fU s).length (strs (fU s))∧aa [] w w':=by
 obtain ⟨i0,hi,bb,be,a9⟩:=info_parts C7;go_enter Tryz.func49,Tryz.ntmps49
 go_wp2;go_loopw [3,4,5,9] (fun v f q i wr=>∃ n:Nat,n≤s.length∧i=FR FS n∧f=FR FS ((ei s n).2.1:Nat)∧q= .bool (ei s n).2.2∧wr.ownsRow w.heap.size 9 1 v (ei s n).1.length (strs (ei s n).1)∧aa [] w wr) (fun _ _ _ i _=>s.length-(intOf i).toNat)
 case atStart=>exact ⟨0,FF _,rfl,rfl,rfl,World.ownsRow_nil _ _ _ _,FK _ _⟩
 obtain ⟨n,hn,rfl,rfl,rfl,N,hk⟩:=hrel;have a4:=l7 s n;by_cases bj:n<s.length
 ·have hg:s.getD n 0=s[n]:=by rw[FJ,FA bj];rfl
  have D:ei s (n+1)=(if s[n]=39 then ((ei s n).1,(ei s n).2.1,!(ei s n).2.2) else if s[n]=32 && !(ei s n).2.2 then ((ei s n).1++[(s.take n).drop (ei s n).2.1],n+1,(ei s n).2.2) else ei s n):=by
   conv=>lhs;unfold ei
   simp only[hg]
  generalize a3:ei s n=r at *;obtain ⟨o,f,q⟩:=r;simp only at a4 D N;have bl:((bs s)[n]'(by rw[ag];exact bj))=s[n]:=iQ s n _;generalize s[n]=b at *;have ad:b=39↔(b.toNat:Int)=39:=⟨fun h=>by rw[h];rfl,fun h=>UInt8.toNat_inj.1 (by have:(39:UInt8).toNat=39:=rfl;omega)⟩;have Z:b=32↔(b.toNat:Int)=32:=⟨fun h=>by rw[h];rfl,fun h=>UInt8.toNat_inj.1 (by have:(32:UInt8).toNat=32:=rfl;omega)⟩;have HO:=Fx N;have HK:=Fx hk;clear N hk hg a3;by_cases O:b=39
  ·rw[if_pos O] at D
   have t1:((b.toNat:Int)==39)=true:=by rw[beq_iff_eq];exact ad.1 O
   have J:=Fx D;clear D ad Z O;go_wp2;go_roundw
   case rel=>exact ⟨n+1,by omega,by go_num,by rw[J.out],by rw[J.out],by rw[J.out];exact HO.out,HK.out⟩
   case measure=>simp[intOf];omega
  rw[if_neg O] at D;have t1:((b.toNat:Int)==39)=false:=by rw[beq_eq_false_iff_ne];exact fun h=>O (ad.2 h)
  by_cases U:b=32
  ·have t2:((b.toNat:Int)==32)=true:=by rw[beq_iff_eq];exact Z.1 U
   cases q with
   | true =>
    rw[if_neg (by simp)] at D;have J:=Fx D;clear D ad Z O U;go_wp2;go_roundw
    case rel=>exact ⟨n+1,by omega,by go_num,by rw[J.out],by rw[J.out],by rw[J.out];exact HO.out,HK.out⟩
    case measure=>simp[intOf];omega
   | false =>
    rw[if_pos (by simp[U])] at D;have J:=Fx D;have bo:=fun W=>jG (P:=Tryz.prog) Tryz.underlying9 s f n a4.1 hn W
    have a0:=Fx (show o.length+1≤maxLen∧(o.length+1)*16≤140737488355328 by simp only[maxLen];omega);have a6:=Fx (show w.heap.size≤wr.heap.size+1 from Nat.le_succ_of_le HK.out.size);clear D ad Z O U;go_wp2_with (at_builtin;refine wpList_append_lies _ rfl _ _ 44 rfl _ 9 i0 _ 1 16 Tryz.underlying44 hi bb be a9 rfl (by decide) _ o.length (strs o) rfl (HO.out.alloc _) ⟨wr.heap.size,0,none⟩ 1 1 [FM (bs ((s.take n).drop f))] rfl rfl (FI (heap_alloc_new _ _)) (by simp[Value.oneCell']) (by decide) a0.out.1 a0.out.2 (by simp;exact a6.out) _ rfl ?_;intro gw a2 w8 I M av aA)
    have a5:=Fx ((HK.out.alloc _).grown M (fun g hg=> .inr (HO.out.lt g hg).1));rw[←fE] at I;have a7:=Fx I;have bk:(o++[(s.take n).drop f]).length=o.length+1:=by simp
    have bm:=Fx bk;clear I M av aA bk bo;go_wp2;go_roundw
    case rel=>exact ⟨n+1,by omega,by go_num,by rw[J.out];show Value.int IntKind.i64 ((n:Int)+1)=FR FS ((n+1:Nat):Int);go_num,by rw[J.out],by rw[J.out];simp only;rw[bm.out];exact a7.out,a5.out⟩
    case measure=>simp[intOf];omega
  rw[if_neg (by simp[U])] at D;have t2:((b.toNat:Int)==32)=false:=by rw[beq_eq_false_iff_ne];exact fun h=>U (Z.2 h)
  have J:=Fx D;clear D ad Z O U;go_wp2;go_roundw
  case rel=>exact ⟨n+1,by omega,by go_num,by rw[J.out],by rw[J.out],by rw[J.out];exact HO.out,HK.out⟩
  case measure=>simp[intOf];omega
 obtain rfl:n=s.length:=by omega
 have a1:fU s=(ei s s.length).1++[s.drop (ei s s.length).2.1]:=rfl;generalize a3:ei s s.length=r at *;obtain ⟨o,f,q⟩:=r;simp only at a4 N a1;have HCL:=Fx a1;have ba:(fU s).length=o.length+1:=by rw[a1];simp
 have bc:=Fx ba;have HO:=Fx N;have HK:=Fx hk;have a0:=Fx (show o.length+1≤maxLen∧(o.length+1)*16≤140737488355328 by simp only[maxLen];omega);have a6:=Fx (show w.heap.size≤wr.heap.size+1 from Nat.le_succ_of_le HK.out.size);have bq:(f:Int)≤(s.length:Int):=by omega
 have a8:(s.take s.length).drop f=s.drop f:=by rw[List.take_of_length_le (Fy _)]
 have br:=Fx a8;clear N hk a1 a3 ba a8;go_wp2_with (at_builtin;refine wpList_append_lies _ rfl _ _ 44 rfl _ 9 i0 _ 1 16 Tryz.underlying44 hi bb be a9 rfl (by decide) _ o.length (strs o) rfl (HO.out.alloc _) ⟨wr.heap.size,0,none⟩ 1 1 [FM (bs (s.drop f))] rfl rfl (FI (heap_alloc_new _ _)) (by simp[Value.oneCell']) (by decide) a0.out.1 a0.out.2 (by simp;exact a6.out) _ rfl ?_;intro gw a2 w8 I M av aA)
 have a5:=Fx ((HK.out.alloc _).grown M (fun g hg=> .inr (HO.out.lt g hg).1));rw[←fE,←HCL.out] at I;have a7:=Fx I;clear I M av aA;go_ret;exact ⟨some ⟨gw,0,none⟩,a2,by rw[bc.out];rfl,by rw[bc.out];exact a7.out,a5.out⟩
end
section
open Go.RowKit Go.Sort
attribute [local go_sem] ag ab ae af
theorem AA (s:Bs) (D:s.length≤1000000000) (w:World) (h:gG w) :
  (∃ v,Lib.atoiAll s= .ok v∧ea v∧Calls Tryz.prog 83 #[FM (bs s)] w fun e w'=>e=FP (.tuple #[FR FS v,.nilIface])∧aa [] w w') ∨
  ((∀ v,Lib.atoiAll s≠ .ok v)∧Calls Tryz.prog 83 #[FM (bs s)] w fun e w'=>(∃ n t p,e=FP (.tuple #[FR FS n,.iface t p]))∧aa [] w w'):=nQ s D w h.esyn h.erng
def EL:Value:= .agg #[FR FS 0,FR FS 0,FM (bs [])]
def AB:Option Vl→Value
 | some v=> .tuple #[fV v,.nilIface]
 | none=> .tuple #[EL,.iface 37 (FR FS 3)]
theorem tr (s:Bs) (hs:s.length≤1000000000) (w:World) (O:eG s=true) :
  Calls Tryz.prog 50 #[FM (bs s)] w fun e w'=>e=FP (AB (pI s))∧aa [] w w':=by
 have M:pI s=if eS ⟨2,0,(s.take (s.length-1)).drop 1⟩ then some ⟨2,0,(s.take (s.length-1)).drop 1⟩ else none:=by
  unfold pI EB;rw[if_pos O]
 rw[M];unfold eG at O;simp only[Bool.and_eq_true,decide_eq_true_eq] at O;obtain ⟨⟨h2,h0⟩,U⟩:=O;have av:0<(bs s).size:=by rw[ag];omega
 have g0:((bs s)[0]'av)=39:=by
  rw[iQ];rw[FJ,FA (by omega)] at h0;exact h0
 obtain ⟨k,hk,hk'⟩:∃ k,s.length-1=k∧k+1=s.length:=⟨s.length-1,rfl,by omega⟩
 rw[hk] at U ⊢;have ad:k<(bs s).size:=by rw[ag];omega
 have g1:((bs s)[k]'ad)=39:=by
  rw[iQ];rw[FJ,FA (by omega)] at U;exact U
 have e1:(s.length:Int)-1=(k:Int):=by omega
 have l2:(2:Int)≤(s.length:Int):=by omega
 have l3:(1:Int)≤(k:Int):=by omega
 have l4:(k:Int)<(s.length:Int):=by omega
 have a0:∀ W,(Instr.slice 9 (FM (bs s)) (some (FR FS 1)) (some (FR FS (k:Int))) none).run Tryz.prog W= .ok (FM (bs ((s.take k).drop 1))) W:=fun W=>jG (P:=Tryz.prog) Tryz.underlying9 s 1 k (by omega) (by omega) W
 have D:=fun W=>cB ⟨2,0,(s.take k).drop 1⟩ W
 generalize (s.take k).drop 1=u at *;have aA:(((39:UInt8).toNat:Int)==39)=true:=rfl;clear h0 U h2 hk M;have HK':=Fx hk';clear hk'
 cases N:eS ⟨2,0,u⟩ with
 | true =>
  rw[N] at D;have I:=Fx D;clear D N;show Calls _ _ _ _ fun e w'=>e=FP (.tuple #[.agg #[FR FS 2,FR FS 0,FM (bs u)],.nilIface])∧aa [] w w'
  go_enter Tryz.func50,Tryz.ntmps50
  go_wp2_with (go_at_call 28;refine (I.out _).mono ?_;rintro e J ⟨rfl,h⟩;have Z:=h.cell_of (p:=⟨w.heap.size,0,none⟩) (v:=FR FS 0) (by simp) (by simp);have c1:=h.cell_of (p:=⟨w.heap.size,1,none⟩) (v:=FR FS 0) (by simp) (by simp);have c2:=h.cell_of (p:=⟨w.heap.size,2,none⟩) (v:=FM ⟨#[]⟩) (by simp) (by simp);have f0:J.frozen? ⟨w.heap.size,0,none⟩=false:=(h.frozen (p:=⟨w.heap.size,0,none⟩) (by simp;omega) (by simp)).trans (by simp);have f1:J.frozen? ⟨w.heap.size,1,none⟩=false:=(h.frozen (p:=⟨w.heap.size,1,none⟩) (by simp;omega) (by simp)).trans (by simp);have f2:J.frozen? ⟨w.heap.size,2,none⟩=false:=(h.frozen (p:=⟨w.heap.size,2,none⟩) (by simp;omega) (by simp)).trans (by simp);have d0:=h.cell_of (p:=⟨w.heap.size+1,0,none⟩) (v:=FR FS 2) (by simp) (by simp);have d1:=h.cell_of (p:=⟨w.heap.size+1,1,none⟩) (v:=FR FS 0) (by simp) (by simp);have d2:=h.cell_of (p:=⟨w.heap.size+1,2,none⟩) (v:=FM (bs u)) (by simp) (by simp))
  refine bodyPost_ret (v:= .tuple #[.agg #[FR FS 2,FR FS 0,FM (bs u)],.nilIface]) (by simp[results,Tryz.results50,go_sem,Z,c1,c2]) rfl ⟨rfl,?_⟩;refine aa.setCell (aa.setCell (aa.setCell (aa.trans ?_ h) (.inr (Fy _)) _) (.inr (Fy _)) _) (.inr (Fy _)) _;repeat first|exact FK _ _|refine aa.alloc ?_ _|refine aa.setCell ?_ (.inr (by simp)) _
 | false =>
  rw[N] at D;have I:=Fx D;clear D N;show Calls _ _ _ _ fun e w'=>e=FP (.tuple #[.agg #[FR FS 0,FR FS 0,FM (bs [])],.iface 37 (FR FS 3)])∧aa [] w w'
  go_enter Tryz.func50,Tryz.ntmps50
  go_wp2_with (go_at_call 28;refine (I.out _).mono ?_;rintro e J ⟨rfl,h⟩;have Z:=h.cell_of (p:=⟨w.heap.size,0,none⟩) (v:=FR FS 0) (by simp) (by simp);have c1:=h.cell_of (p:=⟨w.heap.size,1,none⟩) (v:=FR FS 0) (by simp) (by simp);have c2:=h.cell_of (p:=⟨w.heap.size,2,none⟩) (v:=FM ⟨#[]⟩) (by simp) (by simp);have f0:J.frozen? ⟨w.heap.size,0,none⟩=false:=(h.frozen (p:=⟨w.heap.size,0,none⟩) (by simp;omega) (by simp)).trans (by simp);have f1:J.frozen? ⟨w.heap.size,1,none⟩=false:=(h.frozen (p:=⟨w.heap.size,1,none⟩) (by simp;omega) (by simp)).trans (by simp);have f2:J.frozen? ⟨w.heap.size,2,none⟩=false:=(h.frozen (p:=⟨w.heap.size,2,none⟩) (by simp;omega) (by simp)).trans (by simp);have d0:=h.cell_of (p:=⟨w.heap.size+1,0,none⟩) (v:=FR FS 2) (by simp) (by simp);have d1:=h.cell_of (p:=⟨w.heap.size+1,1,none⟩) (v:=FR FS 0) (by simp) (by simp);have d2:=h.cell_of (p:=⟨w.heap.size+1,2,none⟩) (v:=FM (bs u)) (by simp) (by simp))
  refine bodyPost_ret (v:= .tuple #[.agg #[FR FS 0,FR FS 0,FM (bs [])],.iface 37 (FR FS 3)]) (by simp[results,Tryz.results50,go_sem,Z,c1,c2];try rfl) rfl ⟨rfl,?_⟩;refine aa.setCell (aa.setCell (aa.setCell (aa.trans ?_ h) (.inr (Fy _)) _) (.inr (Fy _)) _) (.inr (Fy _)) _;repeat first|exact FK _ _|refine aa.alloc ?_ _|refine aa.setCell ?_ (.inr (by simp)) _
theorem vd {s:Bs} (h:eG s=false):s.length<2∨(∃ J:0<(bs s).size,(2:Int)≤(s.length:Int)∧((((bs s)[0]'J).toNat:Int)==39)=false) ∨
  (∃ (J:0<(bs s).size) (k:Nat) (D:k<(bs s).size),(2:Int)≤(s.length:Int)∧(s.length:Int)-1=(k:Int)∧((((bs s)[0]'J).toNat:Int)==39)=true∧((((bs s)[k]'D).toNat:Int)==39)=false):=by
 by_cases N:s.length<2
 ·exact .inl N
 right
 have J:0<(bs s).size:=by rw[ag];omega
 have I:∀ (k:Nat) (D:k<(bs s).size),((((bs s)[k]'D).toNat:Int)==39)=decide (s.getD k 0=39):=fun k D=>by
  have hk':k<s.length:=by rw[ag] at D;exact D
  rw[iQ,FJ,FA hk',Option.getD_some,Bool.eq_iff_iff,beq_iff_eq,decide_eq_true_iff];constructor
  ·intro h;exact UInt8.toNat_inj.1 (by have:(39:UInt8).toNat=39:=rfl;omega)
  intro h;rw[h];rfl
 unfold eG at h;rw[decide_eq_true (show 2≤s.length by omega),Bool.true_and,Bool.and_eq_false_iff] at h;by_cases M:s.getD 0 0=39
 ·right
  have D:s.length-1<(bs s).size:=by rw[ag];omega
  refine ⟨J,s.length-1,D,by omega,by omega,by rw[I,decide_eq_true M],?_⟩;rw[I];rcases h with h|h
  ·rw[decide_eq_true M] at h;cases h
  exact h
 left
 exact ⟨J,by omega,by rw[I,decide_eq_false M]⟩
theorem ve (s:Bs) (hs:s.length≤1000000000) (w:World) (hE:gG w) (hq:eG s=false) :
  Calls Tryz.prog 50 #[FM (bs s)] w fun e w'=>e=FP (AB (pI s))∧aa [] w w':=by
 have O:pI s=match (match Lib.atoiAll s with | .ok n=>if Lib.itoa n=s then some (⟨1,n,[]⟩:Vl) else none|_=>none) with|some v=>if eS v then some v else none|none=>none:=by
  unfold pI EB;rw[hq];rfl
 have aA:=fun W (q:aa [] w W)=>AA s hs W (hE.quiet q)
 have HE:=Fx hE;have HQ:=Fx (vd hq);clear hE hq;have J:=Fx (((FK [] w).alloc (FQ #[FR FS 0,FR FS 0,FM ⟨#[]⟩] 46)).alloc (FQ #[FR FS 2,FR FS 0,FM ⟨#[]⟩] 46));have a0:=Fx ((FL w 46 #[FR FS 0,FR FS 0,FM ⟨#[]⟩]).alloc (FQ #[FR FS 2,FR FS 0,FM ⟨#[]⟩] 46));have a5:=FL (w.alloc (FQ #[FR FS 0,FR FS 0,FM ⟨#[]⟩] 46)) 46 #[FR FS 2,FR FS 0,FM ⟨#[]⟩];rw[show (w.alloc (FQ #[FR FS 0,FR FS 0,FM ⟨#[]⟩] 46)).heap.size=w.heap.size+1 from Array.size_push _] at a5;have a4:=Fx a5;clear a5;rcases ha:Lib.atoiAll s with n|_|_
 ·
  rw[ha] at O;have a3:=rf ha;have M:∀ W (_:aa [] w W),Calls Tryz.prog 83 #[FM (bs s)] W fun e w'=>e=FP (.tuple #[FR FS n,.nilIface])∧aa [] W w':=fun W q=>by
   rcases aA W q with ⟨v,h1,h2,h3⟩|⟨h1,h3⟩
   ·rw[ha] at h1;injection h1 with h1;subst h1;exact h3
   exact absurd ha (h1 n)
  have a6:∀ W (_:aa [] w W),Calls Tryz.prog 84 #[FR FS n] W fun e w'=>e=FP (FM (bs (Lib.itoa n)))∧aa [] W w':=fun W q=>by
   refine (Tryz.strconv_Itoa n a3.1 a3.2 W (HE.out.quiet q).p10).mono ?_;rintro e w' ⟨rfl,k2,os,rfl⟩;exact ⟨rfl,((FK _ _).drewN _).trans (nA _ _)⟩
  have Z:=Fx M;have a2:=Fx a6;clear aA M a6 ha a3;by_cases hi:Lib.itoa n=s
  ·have I:pI s=if eS ⟨1,n,[]⟩ then some ⟨1,n,[]⟩ else none:=by rw[O];simp only[if_pos hi]
   rw[I];have av:=fun W=>cB ⟨1,n,[]⟩ W
   have a7:(Lib.itoa n==s)=true:=by rw[beq_iff_eq];exact hi
   clear O I hi
   cases hr:eS ⟨1,n,[]⟩ with
   | true =>
    rw[hr] at av;have a1:=Fx av;clear av hr;show Calls _ _ _ _ fun e w'=>e=FP (.tuple #[.agg #[FR FS 1,FR FS n,FM (bs [])],.nilIface])∧aa [] w w'
    rcases HQ.out with l2|⟨h0,l2,b0⟩|⟨h0,k,hk,l2,e1,b0,b1⟩
    all_goals
     go_enter Tryz.func50,Tryz.ntmps50
     go_wp2_with (first|(go_at_call 83;refine (Z.out _ J.out).mono ?_;rintro e w6 ⟨rfl,h⟩)|(go_at_call 84;refine (a2.out _ (J.out.trans h)).mono ?_;rintro e U ⟨rfl,N⟩;have D:=(a0.out.keep h (by simp)).keep N (by simp);have B1:=(a4.out.keep h (by simp)).keep N (by simp);have c0:U.cell? ⟨w.heap.size,0,none⟩=some (FR FS 0):=D.cell 0;have c1:U.cell? ⟨w.heap.size,1,none⟩=some (FR FS 0):=D.cell 1;have c2:U.cell? ⟨w.heap.size,2,none⟩=some (FM ⟨#[]⟩):=D.cell 2;have f0:=D.frozen 0;have f1:=D.frozen 1;have f2:=D.frozen 2;have d0:U.cell? ⟨w.heap.size+1,0,none⟩=some (FR FS 2):=B1.cell 0;have d1:U.cell? ⟨w.heap.size+1,1,none⟩=some (FR FS 0):=B1.cell 1;have d2:U.cell? ⟨w.heap.size+1,2,none⟩=some (FM ⟨#[]⟩):=B1.cell 2;have g0:=B1.frozen 0;have g1:=B1.frozen 1;have g2:=B1.frozen 2)|(go_at_call 28;refine (a1.out _).mono ?_;rintro e w8 ⟨rfl,ad⟩;have B0':=((((D.far (p:=⟨w.heap.size+1,0,none⟩) (by simp) (FR FS 1)).far (p:=⟨w.heap.size+1,1,none⟩) (by simp) (FR FS n)).far (p:=⟨w.heap.size+1,2,none⟩) (by simp) (FM ⟨#[]⟩)).keep ad (by simp));have x0:w8.cell? ⟨w.heap.size,0,none⟩=some (FR FS 0):=B0'.cell 0;have x1:w8.cell? ⟨w.heap.size,1,none⟩=some (FR FS 0):=B0'.cell 1;have x2:w8.cell? ⟨w.heap.size,2,none⟩=some (FM ⟨#[]⟩):=B0'.cell 2;have y0:=B0'.frozen 0;have y1:=B0'.frozen 1;have y2:=B0'.frozen 2;have z:=(((B1.set 0 (FR FS 1)).set 1 (FR FS n)).set 2 (FM ⟨#[]⟩)).keep ad (by simp);have z0:w8.cell? ⟨w.heap.size+1,0,none⟩=some (FR FS 1):=z.cell 0;have z1:w8.cell? ⟨w.heap.size+1,1,none⟩=some (FR FS n):=z.cell 1;have z2:w8.cell? ⟨w.heap.size+1,2,none⟩=some (FM ⟨#[]⟩):=z.cell 2))
     refine bodyPost_ret (v:= .tuple #[.agg #[FR FS 1,FR FS n,FM (bs [])],.nilIface]) (by simp[results,Tryz.results50,go_sem,x0,x1,x2];try rfl) rfl ⟨rfl,?_⟩;refine aa.setCell (aa.setCell (aa.setCell ?_ (.inr (Fy _)) _) (.inr (Fy _)) _) (.inr (Fy _)) _;exact aa.trans (aa.setCell (aa.setCell (aa.setCell ((J.out.trans h).trans N) (.inr (Nat.le_succ _)) _) (.inr (Nat.le_succ _)) _) (.inr (Nat.le_succ _)) _) ad
   | false =>
    rw[hr] at av;have a1:=Fx av;clear av hr;show Calls _ _ _ _ fun e w'=>e=FP (.tuple #[.agg #[FR FS 0,FR FS 0,FM (bs [])],.iface 37 (FR FS 3)])∧aa [] w w'
    rcases HQ.out with l2|⟨h0,l2,b0⟩|⟨h0,k,hk,l2,e1,b0,b1⟩
    all_goals
     go_enter Tryz.func50,Tryz.ntmps50
     go_wp2_with (first|(go_at_call 83;refine (Z.out _ J.out).mono ?_;rintro e w6 ⟨rfl,h⟩)|(go_at_call 84;refine (a2.out _ (J.out.trans h)).mono ?_;rintro e U ⟨rfl,N⟩;have D:=(a0.out.keep h (by simp)).keep N (by simp);have B1:=(a4.out.keep h (by simp)).keep N (by simp);have c0:U.cell? ⟨w.heap.size,0,none⟩=some (FR FS 0):=D.cell 0;have c1:U.cell? ⟨w.heap.size,1,none⟩=some (FR FS 0):=D.cell 1;have c2:U.cell? ⟨w.heap.size,2,none⟩=some (FM ⟨#[]⟩):=D.cell 2;have f0:=D.frozen 0;have f1:=D.frozen 1;have f2:=D.frozen 2;have d0:U.cell? ⟨w.heap.size+1,0,none⟩=some (FR FS 2):=B1.cell 0;have d1:U.cell? ⟨w.heap.size+1,1,none⟩=some (FR FS 0):=B1.cell 1;have d2:U.cell? ⟨w.heap.size+1,2,none⟩=some (FM ⟨#[]⟩):=B1.cell 2;have g0:=B1.frozen 0;have g1:=B1.frozen 1;have g2:=B1.frozen 2)|(go_at_call 28;refine (a1.out _).mono ?_;rintro e w8 ⟨rfl,ad⟩;have B0':=((((D.far (p:=⟨w.heap.size+1,0,none⟩) (by simp) (FR FS 1)).far (p:=⟨w.heap.size+1,1,none⟩) (by simp) (FR FS n)).far (p:=⟨w.heap.size+1,2,none⟩) (by simp) (FM ⟨#[]⟩)).keep ad (by simp));have x0:w8.cell? ⟨w.heap.size,0,none⟩=some (FR FS 0):=B0'.cell 0;have x1:w8.cell? ⟨w.heap.size,1,none⟩=some (FR FS 0):=B0'.cell 1;have x2:w8.cell? ⟨w.heap.size,2,none⟩=some (FM ⟨#[]⟩):=B0'.cell 2;have y0:=B0'.frozen 0;have y1:=B0'.frozen 1;have y2:=B0'.frozen 2;have z:=(((B1.set 0 (FR FS 1)).set 1 (FR FS n)).set 2 (FM ⟨#[]⟩)).keep ad (by simp);have z0:w8.cell? ⟨w.heap.size+1,0,none⟩=some (FR FS 1):=z.cell 0;have z1:w8.cell? ⟨w.heap.size+1,1,none⟩=some (FR FS n):=z.cell 1;have z2:w8.cell? ⟨w.heap.size+1,2,none⟩=some (FM ⟨#[]⟩):=z.cell 2))
     refine bodyPost_ret (v:= .tuple #[.agg #[FR FS 0,FR FS 0,FM (bs [])],.iface 37 (FR FS 3)]) (by simp[results,Tryz.results50,go_sem,x0,x1,x2];try rfl) rfl ⟨rfl,?_⟩;refine aa.setCell (aa.setCell (aa.setCell ?_ (.inr (Fy _)) _) (.inr (Fy _)) _) (.inr (Fy _)) _;exact aa.trans (aa.setCell (aa.setCell (aa.setCell ((J.out.trans h).trans N) (.inr (Nat.le_succ _)) _) (.inr (Nat.le_succ _)) _) (.inr (Nat.le_succ _)) _) ad
  have I:pI s=none:=by rw[O];simp only[if_neg hi]
  rw[I];have a7:(Lib.itoa n==s)=false:=by rw[beq_eq_false_iff_ne];exact hi
  clear O I hi;show Calls _ _ _ _ fun e w'=>e=FP (.tuple #[.agg #[FR FS 0,FR FS 0,FM (bs [])],.iface 37 (FR FS 3)])∧aa [] w w'
  rcases HQ.out with l2|⟨h0,l2,b0⟩|⟨h0,k,hk,l2,e1,b0,b1⟩
  all_goals
   go_enter Tryz.func50,Tryz.ntmps50
   go_wp2_with (first|(go_at_call 83;refine (Z.out _ J.out).mono ?_;rintro e w6 ⟨rfl,h⟩)|(go_at_call 84;refine (a2.out _ (J.out.trans h)).mono ?_;rintro e U ⟨rfl,N⟩;have D:=(a0.out.keep h (by simp)).keep N (by simp);have B1:=(a4.out.keep h (by simp)).keep N (by simp);have c0:U.cell? ⟨w.heap.size,0,none⟩=some (FR FS 0):=D.cell 0;have c1:U.cell? ⟨w.heap.size,1,none⟩=some (FR FS 0):=D.cell 1;have c2:U.cell? ⟨w.heap.size,2,none⟩=some (FM ⟨#[]⟩):=D.cell 2;have f0:=D.frozen 0;have f1:=D.frozen 1;have f2:=D.frozen 2;have d0:U.cell? ⟨w.heap.size+1,0,none⟩=some (FR FS 2):=B1.cell 0;have d1:U.cell? ⟨w.heap.size+1,1,none⟩=some (FR FS 0):=B1.cell 1;have d2:U.cell? ⟨w.heap.size+1,2,none⟩=some (FM ⟨#[]⟩):=B1.cell 2;have g0:=B1.frozen 0;have g1:=B1.frozen 1;have g2:=B1.frozen 2))
   refine bodyPost_ret (v:= .tuple #[.agg #[FR FS 0,FR FS 0,FM (bs [])],.iface 37 (FR FS 3)]) (by simp[results,Tryz.results50,go_sem,c0,c1,c2];try rfl) rfl ⟨rfl,?_⟩;refine aa.setCell (aa.setCell (aa.setCell ?_ (.inr (Fy _)) _) (.inr (Fy _)) _) (.inr (Fy _)) _;exact (J.out.trans h).trans N
 ·
  rw[ha] at O;have I:pI s=none:=O;rw[I];have M:∀ W (_:aa [] w W),Calls Tryz.prog 83 #[FM (bs s)] W fun e w'=>(∃ n t p,e=FP (.tuple #[FR FS n,.iface t p]))∧aa [] W w':=fun W q=>by
   rcases aA W q with ⟨v,h1,h2,h3⟩|⟨h1,h3⟩
   ·rw[ha] at h1;cases h1
   exact h3
  have Z:=Fx M;clear aA M O I ha;show Calls _ _ _ _ fun e w'=>e=FP (.tuple #[.agg #[FR FS 0,FR FS 0,FM (bs [])],.iface 37 (FR FS 3)])∧aa [] w w'
  rcases HQ.out with l2|⟨h0,l2,b0⟩|⟨h0,k,hk,l2,e1,b0,b1⟩
  all_goals
   go_enter Tryz.func50,Tryz.ntmps50
   go_wp2_with (first|(go_at_call 83;refine (Z.out _ J.out).mono ?_;rintro e w6 ⟨⟨n,t,p,rfl⟩,h⟩;have D:=(a0.out.keep h (by simp));have c0:w6.cell? ⟨w.heap.size,0,none⟩=some (FR FS 0):=D.cell 0;have c1:w6.cell? ⟨w.heap.size,1,none⟩=some (FR FS 0):=D.cell 1;have c2:w6.cell? ⟨w.heap.size,2,none⟩=some (FM ⟨#[]⟩):=D.cell 2;have f0:=D.frozen 0;have f1:=D.frozen 1;have f2:=D.frozen 2))
   refine bodyPost_ret (v:= .tuple #[.agg #[FR FS 0,FR FS 0,FM (bs [])],.iface 37 (FR FS 3)]) (by simp[results,Tryz.results50,go_sem,c0,c1,c2];try rfl) rfl ⟨rfl,?_⟩;refine aa.setCell (aa.setCell (aa.setCell ?_ (.inr (Fy _)) _) (.inr (Fy _)) _) (.inr (Fy _)) _;exact J.out.trans h
 
 rw[ha] at O;have I:pI s=none:=O;rw[I];have M:∀ W (_:aa [] w W),Calls Tryz.prog 83 #[FM (bs s)] W fun e w'=>(∃ n t p,e=FP (.tuple #[FR FS n,.iface t p]))∧aa [] W w':=fun W q=>by
  rcases aA W q with ⟨v,h1,h2,h3⟩|⟨h1,h3⟩
  ·rw[ha] at h1;cases h1
  exact h3
 have Z:=Fx M;clear aA M O I ha;show Calls _ _ _ _ fun e w'=>e=FP (.tuple #[.agg #[FR FS 0,FR FS 0,FM (bs [])],.iface 37 (FR FS 3)])∧aa [] w w'
 rcases HQ.out with l2|⟨h0,l2,b0⟩|⟨h0,k,hk,l2,e1,b0,b1⟩
 all_goals
  go_enter Tryz.func50,Tryz.ntmps50
  go_wp2_with (first|(go_at_call 83;refine (Z.out _ J.out).mono ?_;rintro e w6 ⟨⟨n,t,p,rfl⟩,h⟩;have D:=(a0.out.keep h (by simp));have c0:w6.cell? ⟨w.heap.size,0,none⟩=some (FR FS 0):=D.cell 0;have c1:w6.cell? ⟨w.heap.size,1,none⟩=some (FR FS 0):=D.cell 1;have c2:w6.cell? ⟨w.heap.size,2,none⟩=some (FM ⟨#[]⟩):=D.cell 2;have f0:=D.frozen 0;have f1:=D.frozen 1;have f2:=D.frozen 2))
  refine bodyPost_ret (v:= .tuple #[.agg #[FR FS 0,FR FS 0,FM (bs [])],.iface 37 (FR FS 3)]) (by simp[results,Tryz.results50,go_sem,c0,c1,c2];try rfl) rfl ⟨rfl,?_⟩;refine aa.setCell (aa.setCell (aa.setCell ?_ (.inr (Fy _)) _) (.inr (Fy _)) _) (.inr (Fy _)) _;exact J.out.trans h
theorem ju (s:Bs) (h:s.length≤1000000000) (w:World) (I:gG w) :
  Calls Tryz.prog 50 #[FM (bs s)] w fun e w'=>e=FP (AB (pI s))∧aa [] w w':=by
 cases D:eG s with
 | true=>exact tr s h w D
 | false=>exact ve s h w I D
end
section
open Go.RowKit
attribute [local go_sem] ag ab ae af
def AC (R:PR) (e:Ending) (w':World):Prop:=match R with
 | .ok t=>∃ A B c d,e=FP (.tuple #[jP A t.cols.length c B t.rows.length d,.nilIface])∧aZ w' t A B c d
 | .bad x p=>∃ g,e=FP (.tuple #[jP none 0 0 none 0 0,.iface 73 (FO (some ⟨g,0,none⟩))])∧ao w' g 75 #[FR FS x,FR FS p]
theorem rJ {w w':World} {base:Nat} {e:TypeId} {size n:Nat} {v:Value} {xs:List Value} {o:Obj} (h:w.ownsRow base e size v n xs) (D:aa [] w.drew w'):(w'.alloc o).ownsRow base e size v n xs :=
 (aC h (L:=[]) ⟨D.os,D.output,D.size,D.block⟩ (fun _ _=>by simp)).alloc o
theorem Ch {w w':World} {b:Nat} {o:Obj} (h:b≤w.heap.size) (D:aa [] w.drew w'):b≤(w'.alloc o).heap.size:=by
 have I:=D.size;have J:w.drew.heap.size=w.heap.size:=rfl;simp;omega
theorem jv {w:World} {base:Nat} {e t:TypeId} {size n:Nat} {v:Value} {xs:List Value} {g:Nat} {cs:Array Value} (h:w.ownsRow base e size v n xs) (J:ao w g t cs) (I:e≠t):v.ownBlock≠some g:=fun M=>by
 rcases h.2 with ⟨rfl,_⟩|⟨O,cap,cur,rfl,_,D,_⟩
 ·cases M
 have:O=g:=by simpa[Value.ownBlock] using M
 subst this;unfold ao at J;rw[J] at D;injection D with D;injection D with _ N;exact I N.symm
theorem aa.of_drew {w w':World} {L:List Nat} (h:aa L w.drew w'):aa L w w':=⟨h.os,h.output,h.size,h.block⟩
theorem yu {O wr w5 w6 I:World} {bt gw cap n m size:Nat} {v r:Value} {xs ys:List Value} {o:Obj} {e:TypeId} (he:e≠54) (ad:aa [bt] O wr) (a0:aa [] wr w5)
  (N:w5.ownsRow O.heap.size e size v n xs) (Z:ao w5 bt 54 #[v,r]) (U:aa [] w5.drew w6) (D:I.ownsRow O.heap.size e size (FN (some ⟨gw,0,none⟩) m cap) m ys) (h:(w6.alloc o).grownBy I v.ownBlock) :
  (I.setCell ⟨bt,0,none⟩ (FN (some ⟨gw,0,none⟩) m cap)).ownsRow O.heap.size e size (FN (some ⟨gw,0,none⟩) m cap) m ys∧ao (I.setCell ⟨bt,0,none⟩ (FN (some ⟨gw,0,none⟩) m cap)) bt 54 #[FN (some ⟨gw,0,none⟩) m cap,r]∧aa [bt] O (I.setCell ⟨bt,0,none⟩ (FN (some ⟨gw,0,none⟩) m cap)):=by
 have M:=(Z.keep U.of_drew (by simp)).alloc o;have aA:=jv N Z he;have J:ao I bt 54 #[v,r]:=(h.block bt M.lt (fun e=>aA e.symm)).trans M;have av:=jv D J he;have a1:aa [bt] O I:=aa.grown (((ad.trans (a0.weaken (by simp))).trans (U.of_drew.weaken (by simp))).alloc o) h (fun g hg=> .inr (N.lt g hg).1);refine ⟨aC D (aa.setCell (FK [bt] I) (.inl (by simp)) _) (fun g hg hm=>?_),?_,a1.setCell (.inl (by simp)) _⟩
 ·have:g=bt:=by simpa using hm
  subst this;exact av hg
 exact (J.set 0 _).congr rfl
theorem gX (x p:Int) (w:World) :
  Calls Tryz.prog 46 #[FR FS x,FR FS p] w fun e w'=>∃ g,e=FP (.tuple #[.agg #[FN none 0 0,FN none 0 0],.iface 73 (FO (some ⟨g,0,none⟩))])∧ao w' g 75 #[FR FS x,FR FS p]∧aa [] w w':=by
 go_enter Tryz.func46,Tryz.ntmps46
 go_wp2;refine bodyPost_ret (v:= .tuple #[.agg #[FN none 0 0,FN none 0 0],.iface 73 (FO (some ⟨w.heap.size+1,0,none⟩))]) (by simp[results,Tryz.results46,go_sem]) rfl ⟨_,rfl,?_,?_⟩
 ·have h:=FL (w.alloc (FQ #[FN none 0 0,FN none 0 0] 54)) 75 #[FR FS x,FR FS p]
  rw[show (w.alloc (FQ #[FN none 0 0,FN none 0 0] 54)).heap.size=w.heap.size+1 from Array.size_push _] at h;exact h
 repeat first|exact FK _ _|refine aa.alloc ?_ _|refine aa.setCell ?_ (.inr (by simp)) _
theorem vf {l:List Bs} (h:0<l.length):l[0]=l.headD []:=by
 cases l with
 | nil=>simp at h
 | cons=>rfl
theorem jL (l:Bs):(bG l).length=(ax 32 l).length:=by simp[bG]
theorem rK (l:List Cl) (n:Nat) (h:n<l.length):ai (l.take (n+1))=ai (l.take n)++fi l[n]:=by
 rw[List.take_succ_eq_append_getElem h,iS];simp[ai]
theorem EM:(Tryz.prog.info? 64).map (fun i=>(i.zero,i.size,i.bytes))=some (some (.agg #[FM ⟨#[]⟩,FR FS 0]),2,24):=by kernel_rfl
theorem Dd:(Tryz.prog.info? 46).map (fun i=>(i.zero,i.size,i.bytes))=some (some (.agg #[FR FS 0,FR FS 0,FM ⟨#[]⟩]),3,32):=by kernel_rfl
theorem jw:(Tryz.prog.info? 89).map (fun i=>(i.zero,i.size,i.bytes))=some (some (FN none 0 0),1,24):=by kernel_rfl
theorem mH (l:Bs):∀ x∈bG l,x.name.length≤l.length:=fun x h=>by
 obtain ⟨u,D,rfl⟩:=List.mem_map.1 h;exact FD (oG 58 u).1 ((eO 32 l).2.2 u D)
def iK (W:World) (base:Nat) (vr:Value) (rs:List (List Vl)):Prop :=
 ∃ us:List Value,us.length=rs.length∧W.ownsRow base 89 1 vr rs.length us∧∀ i (h:i<us.length) (h':i<rs.length),W.ownsRow base 46 3 us[i] rs[i].length (al rs[i])
theorem iK.nil (W:World) (base:Nat):iK W base (FN none 0 0) []:=⟨[],rfl,World.ownsRow_nil _ _ _ _,fun i h=>by simp at h⟩
theorem Ci (l:List Bs) (m:Nat) (h:m+1<l.length):l.tail.drop m=l[m+1]::l.tail.drop (m+1):=by
 cases l with
 | nil=>simp at h
 | cons a t =>
  simp only[List.tail_cons,List.getElem_cons_succ];exact List.drop_eq_getElem_cons (by simpa using h)
theorem vg {l:Bs} {M:Nat} {Z W:World} {v:Value} (J:(ax 32 l).length=M) (h1:1≤M) (U:M≤4294967296) (hl:l.length≤1000000) (h:W.ownsRow Z.heap.size 64 2 v M (ai ((bG l).take M))) :
  Calls Tryz.prog 19 #[v] W fun e w'=>e=FP (.bool (cp (bG l)))∧aa [] W w':=by
 obtain ⟨g,cap,rfl,D⟩:∃ g cap,v=FN (some ⟨g,0,none⟩) M cap∧M≤cap:=by
  rcases h.2 with ⟨_,h0⟩|⟨g,cap,cur,hv,_,_,O,_⟩
  ·omega
  exact ⟨g,cap,hv,O⟩
 have I:(bG l).length=M:=by rw[jL,J]
 rw[List.take_of_length_le (by omega)] at h;subst I;exact gj (bG l) _ cap W (Rd.of_own h (fun _ _=>by simp)) D (fun x N=>FD (mH l x N) (by omega)) U
theorem iD {w:World} {base:Nat} {e:TypeId} {size n:Nat} {v:Value} {xs:List Value} (h:w.ownsRow base e size v n xs):∃ A c,v=FN A n c∧n≤c∧Rd w [] size A n xs:=by
 rcases h.2 with ⟨rfl,rfl⟩|⟨g,cap,cur,rfl,I,J,D,r⟩
 ·refine ⟨none,0,rfl,Fy _,?_⟩
  have:xs=[]:=List.eq_nil_of_length_eq_zero (by rw[h.1];simp);rw[this];exact Rd.nil
 exact ⟨_,cap,rfl,D,Rd.of_own h (fun _ _=>by simp)⟩
theorem fP {w:World} {base:Nat} {e:TypeId} {size n:Nat} {v:Value} {xs:List Value} (h:w.ownsRow base e size v n xs) (O:1≤n):∃ g cap,v=FN (some ⟨g,0,none⟩) n cap∧n≤cap∧base≤g∧g<w.heap.size∧∀ j u,xs[j]? = some u→w.cell? ⟨g,j,none⟩=some u:=by
 rcases h.2 with ⟨_,N⟩|⟨g,cap,cur,rfl,D,M,J,r⟩
 ·omega
 refine ⟨g,cap,rfl,J,D,(Array.getElem?_eq_some_iff.1 M).1,fun j u I=>?_⟩;have:=h.cells (g:=g) rfl j u I;rwa [cJ,Nat.zero_add] at this
theorem gY {w:World} {base D:Nat} {e:TypeId} {size n:Nat} {v:Value} {xs:List Value} (h:w.ownsRow D e size v n xs) (J:base≤D):w.ownsRow base e size v n xs:=by
 refine ⟨h.1,?_⟩;rcases h.2 with N|⟨g,cap,cur,I,M,r⟩
 ·exact .inl N
 exact .inr ⟨g,cap,cur,I,FD J M,r⟩
theorem rL {w:World} {base b i:Nat} {e t:TypeId} {size n:Nat} {v u:Value} {xs:List Value} {cs:Array Value} (h:w.ownsRow base e size v n xs) (J:ao w b t cs) (I:e≠t):(w.setCell ⟨b,i,none⟩ u).ownsRow base e size v n xs :=
 aC h (aa.setCell (FK [b] w) (.inl (by simp)) u) (fun g M D=>jv h J I (by simp at D;rw[M,D]))
theorem l8 {w w':World} {base b:Nat} {e t:TypeId} {size n:Nat} {v:Value} {xs:List Value} {cs:Array Value} (h:w.ownsRow base e size v n xs) (I:aa [b] w w') (M:ao w b t cs) (J:e≠t):w'.ownsRow base e size v n xs :=
 aC h I (fun g N D=>jv h M J (by simp at D;rw[N,D]))
theorem qD {w w':World} {base U:Nat} {e:TypeId} {size n:Nat} {v:Value} {xs:List Value} {I:Option Nat} (h:w.ownsRow base e size v n xs) (M:w.grownBy w' I) (Z:∀ g,I=some g→∃ cs N,w.heap[g]? = some (FQ cs U N)) (he:e≠U):w'.ownsRow base e size v n xs:=by
 refine aC (L:=I.toList) h (aa.grown (FK _ w) M (fun g M=> .inl (by rw[M];simp))) (fun g O J=>?_)
 obtain ⟨cs,N,hh⟩:=Z g (by cases I with
  | none=>cases J
  | some x=>simp at J;rw[J])
 rcases h.2 with ⟨rfl,_⟩|⟨g',cap,cur,rfl,_,D,_⟩
 ·cases O
 have:g'=g:=by simpa[Value.ownBlock] using O
 subst this;rw[hh] at D;injection D with D;injection D with _ h2;exact he h2.symm
theorem tt {w:World} {base:Nat} {e:TypeId} {size n:Nat} {v:Value} {xs:List Value} (h:w.ownsRow base e size v n xs):∀ g,v.ownBlock=some g→∃ cs J,w.heap[g]? = some (FQ cs e J):=fun g I=>by
 rcases h.2 with ⟨rfl,_⟩|⟨M,cap,cur,rfl,_,D,_⟩
 ·cases I
 have:M=g:=by simpa[Value.ownBlock] using I
 subst this;exact ⟨_,_,D⟩
section
variable {W W':World} {base b i:Nat} {vr u vq:Value} {rs:List (List Vl)} {q:List Vl} {cs:Array Value} {t:TypeId}
theorem iK.keep (h:iK W base vr rs) (D:aa [] W W'):iK W' base vr rs:=by
 obtain ⟨us,J,M,I⟩:=h;exact ⟨us,J,aC M D (fun _ _=>by simp),fun i a c=>aC (I i a c) D (fun _ _=>by simp)⟩
theorem iK.keepb (h:iK W base vr rs) (D:aa [b] W W') (I:ao W b t cs) (N:89≠t) (U:46≠t):iK W' base vr rs:=by
 obtain ⟨us,O,M,J⟩:=h;exact ⟨us,O,l8 M D I N,fun i a c=>l8 (J i a c) D I U⟩
theorem iK.set (h:iK W base vr rs) (D:ao W b t cs) (J:89≠t) (I:46≠t):iK (W.setCell ⟨b,i,none⟩ u) base vr rs :=
 h.keepb (aa.setCell (FK [b] W) (.inl (by simp)) u) D J I
theorem iK.rd (h:iK W base vr rs):∃ B d,vr=FN B rs.length d∧rs.length≤d∧cM W [] B rs:=by
 obtain ⟨us,N,O,M⟩:=h;obtain ⟨B,d,I,hd,D⟩:=iD O;refine ⟨B,d,I,hd,us,N,D,fun i a c=>?_⟩;obtain ⟨A,k,I,J,D⟩:=iD (M i a c);exact ⟨A,k,I,J,D⟩
theorem gZ {us:List Value} {o:Obj} {gw cap:Nat} (M:us.length=rs.length) (U:∀ i (h:i<us.length) (h':i<rs.length),W.ownsRow base 46 3 us[i] rs[i].length (al rs[i]))
  (O:W.ownsRow base 89 1 vr rs.length us) (Z:W.ownsRow base 46 3 vq q.length (al q)) (J:(W.alloc o).grownBy W' vr.ownBlock)
  (I:W'.ownsRow base 89 1 (FN (some ⟨gw,0,none⟩) (rs.length+1) cap) (rs.length+1) (us++[vq])):iK W' base (FN (some ⟨gw,0,none⟩) (rs.length+1) cap) (rs++[q]):=by
 refine ⟨us++[vq],by simp[M],by simpa using I,fun i a c=>?_⟩;have D:=fun g J=>tt (O.alloc o) g J
 by_cases N:i<us.length
 ·rw[List.getElem_append_left N,List.getElem_append_left (by omega)]
  exact qD ((U i N (by omega)).alloc o) J D (by decide)
 have hi':i=us.length:=by simp at a;omega
 subst hi';rw[List.getElem_append_right (Fy _),List.getElem_append_right (by omega)];simp only[M,Nat.sub_self,List.getElem_cons_zero];exact qD (Z.alloc o) J D (by decide)
end
theorem AD {W:World} {base h n:Nat} {v vr:Value} {cols:List Cl} {rs:List (List Vl)} (hn:cols.length=n) (Z:W.ownsRow base 64 2 v n (ai cols)) (D:iK W h vr rs) (h1:∀ x∈cols,x.name.length≤1000000000) (N:cols.length≤4294967296) (h3:rs.length≤60) (U:∀ r∈rs,r.length≤4294967296) :
  ∃ A B c d,v=FN A cols.length c∧vr=FN B rs.length d∧aZ W ⟨cols,rs⟩ A B c d:=by
 subst hn;obtain ⟨A,c,O,M,I⟩:=iD Z;obtain ⟨B,d,J,hd,hB⟩:=D.rd;exact ⟨A,B,c,d,O,J,I,M,hB,hd,h1,N,by simp only;omega,U⟩
theorem yv {p:Bs} (h:pI p=none) (D:p.length≤1000000000) (w:World) (I:gG w) :
  Calls Tryz.prog 50 #[FM (bs p)] w fun e w'=>e=FP (.tuple #[.agg #[FR FS 0,FR FS 0,FM ⟨#[]⟩],.iface 37 (FR FS 3)])∧aa [] w w':=by
 have:=ju p D w I;rw[h] at this;exact this
theorem yx {p:Bs} {u:Vl} (h:pI p=some u) (D:p.length≤1000000000) (w:World) (I:gG w) :
  Calls Tryz.prog 50 #[FM (bs p)] w fun e w'=>e=FP (.tuple #[.agg #[FR FS u.kind,FR FS u.num,FM (bs u.word)],.nilIface])∧aa [] w w':=by
 have:=ju p D w I;rw[h] at this;exact this
theorem AE (w:World) (o D:Obj):((w.alloc o).alloc D).heap[w.heap.size+1]? = some D:=by
 have h:=heap_alloc_new (w.alloc o) D;rw[show (w.alloc o).heap.size=w.heap.size+1 from Array.size_push _] at h;exact h
theorem lu {w:World} {g:Nat} {t:TypeId} {x y z:Int} (h:ao w g t #[FR FS x,FR FS y]) (D:y=z):ao w g t #[FR FS x,FR FS z]:=D ▸ h
theorem ly (q:List Vl) (v:Vl):al (q++[v])=al q++[FR FS v.kind,FR FS v.num,FM (bs v.word)]:=by simp[al,eH]
theorem vh {ps:List Bs} {n:Nat} (h:n<ps.length) (q:List Vl):kM (ps.drop n) q=match pI ps[n] with
  | none=>none
  | some v=>kM (ps.drop (n+1)) (q++[v]):=by
 rw[List.drop_eq_getElem_cons h];rfl
theorem vk {cols:List Cl} {q:List Vl} (h:q.length≠cols.length):mR cols q=false:=by
 unfold mR;rw[decide_eq_false h];rfl
theorem AF {cols:List Cl} {q:List Vl} {j:Nat} (h:j<q.length) (h':j<cols.length) (D:q[j].kind≠cols[j].kind):mR cols q=false:=by
 unfold mR;rw[Bool.and_eq_false_iff];right
 rw[List.all_eq_false];refine ⟨(q[j],cols[j]),?_,by simpa using D⟩;rw[List.mem_iff_getElem];exact ⟨j,by rw[List.length_zip];omega,by simp⟩
theorem yz {cols:List Cl} {q:List Vl} (h:q.length=cols.length) (I:∀ j (h:j<q.length) (h':j<cols.length),q[j].kind=cols[j].kind):mR cols q=true:=by
 unfold mR;rw[decide_eq_true h,Bool.true_and,List.all_eq_true];intro p J;obtain ⟨i,D,rfl⟩:=List.getElem_of_mem J;have:=I i (by rw[List.length_zip] at D;omega) (by rw[List.length_zip] at D;omega);simpa using this
end
section
end
section
open Go.RowKit
attribute [local go_sem] ag ab ae af
theorem vT (s:Bs) (hs:s.length≤1000000) (w:World) (hE:gG w) :
    Calls Tryz.prog 18 #[FM (bs s)] w fun e w'=>AC (dE s) e w'∧aa [] w w':=by
  obtain ⟨ic,i4,gm,g7,h7⟩:=info_parts EM;obtain ⟨iv,k7,hJ,g6,h5⟩:=info_parts Dd;obtain ⟨ir,lf,fz,ht,hh⟩:=info_parts jw;have HE:=Fx hE;have g3:=Fx (fun W (q:aa [] w W)=>tj 10 s (by omega) W (hE.quiet q));clear hE;go_enter Tryz.func18,Tryz.ntmps18
  go_wp2_with fail
  refine (g3.out _ ((FK _ _).alloc _)).mono ?_;rintro e w2 ⟨b1,o1,rfl,_,gk,d6,d8⟩;obtain ⟨U,ct⟩:∃ U,(ax 10 s).headD []=U:=⟨_,rfl⟩
  obtain ⟨N,hN⟩:∃ N,(ax 10 s).length=N:=⟨_,rfl⟩
  have cx:=eO 10 s;have d0:w2.cell? ⟨b1,o1,none⟩=some (FM (bs U)):=by
    have h:=d6 0 _ (cC (ax 10 s) 0 cx.2.1);rw[Nat.add_zero] at h;rw[h,←ct];congr 3
    exact vf cx.2.1
  have cz:=Fx (((FK [] w).alloc (FQ #[FN none 0 0,FN none 0 0] 54)).trans d8);have eX:=(FL w 54 #[FN none 0 0,FN none 0 0]).keep d8 (by simp);obtain ⟨br,bZ⟩:∃ br,w.heap.size=br:=⟨_,rfl⟩
  rw[bZ] at eX;have es:=Fx eX;have j4:=Fx bZ;have ha:=Fx ct;have ey:=Fx hN;have g2:=Fx d6;have c9:U.length≤1000000:=by
    rw[←ct]
    cases k3:ax 10 s with
    | nil=>simp
    | cons a t=>have:=cx.2.2 a (by rw[k3];exact List.mem_cons_self ..);simp;omega
  have jx:1≤N:=by omega
  have k8:N≤1000001:=by omega
  have hO:=Fx (fun W (q:aa [] w2 W)=>tj 32 U (by omega) W (HE.out.quiet (cz.out.trans q)));rw[hN];clear d8 eX ct hN d6 cx g3;rw[bZ];clear bZ;go_wp2_with fail
  refine (hO.out _ ((FK _ _).alloc _)).mono ?_;rintro e w3 ⟨b2,o2,rfl,hS,mb,hC,eY⟩;have a2:=(FL w2 54 #[FN none 0 0,FN none 0 0]).keep eY (by simp);obtain ⟨bt,dq⟩:∃ bt,w2.heap.size=bt:=⟨_,rfl⟩
  have ba:=((FK [] w2).alloc (FQ #[FN none 0 0,FN none 0 0] 54)).trans eY;have hH:=Fx (cz.out.trans ba);have ch:=Fx (es.out.keep ba (by simp));have HC1':=Fx (fun (j:Nat) (u:Value) (h:(strs (ax 10 s))[j]? = some u)=>ba.cell_of (g2.out j u h) (by simp));have g8:b2≠bt:=by
    have h9:w2.heap.size+1≤b2:=by simpa using hS
    omega
  have c8:b1≠bt:=by omega
  have c7:br≠bt:=by have:=es.out.lt;omega
  have lv:w.heap.size≤bt:=by have:=cz.out.size;omega
  have I:w.heap.size≤br:=by have:=j4.out;omega
  rw[dq] at a2 ⊢;have fs:=Fx a2;have hi:=Fx hC;have ds:b1<w3.heap.size:=Nat.lt_of_lt_of_le gk ba.size;have hY:=eO 32 U;obtain ⟨M,hM⟩:∃ M,(ax 32 U).length=M:=⟨_,rfl⟩
  have b3:=Fx hM;have hb:1≤M:=by omega
  have ks:M≤1000001:=by omega
  have eb:=hY.2.2;have fr:=Fx eb;rw[hM];clear eY ba a2 dq hC hY hM eb hO es cz g2 gk d0;go_wp2;go_loopw [28] (fun i wr=>∃ (n:Nat) (v:Value),n≤M∧i=FR FS n∧wr.ownsRow w3.heap.size 64 2 v n (ai ((bG U).take n))∧ao wr bt 54 #[v,FN none 0 0]∧aa [bt] w3 wr) (fun i _=>M-(intOf i).toNat)
  case atStart=>exact ⟨0,_,FF _,rfl,World.ownsRow_nil _ _ _ _,fs.out,FK _ _⟩
  obtain ⟨n,v,hn,rfl,bc,a2,a9⟩:=hrel;have hk:=hH.out.trans' a9 (fun y hy hl=>by simp at hy;omega);by_cases cu:n<M
  · -- BEGIN cols
    obtain ⟨u,hu⟩:∃ u,(ax 32 U)[n]'(by rw[b3.out];exact cu)=u:=⟨_,rfl⟩
    have d1:wr.cell? ⟨b2,o2+n,none⟩=some (FM (bs u)):=by
      have h:=hi.out n _ (cC (ax 32 U) n (by rw[b3.out];exact cu));rw[hu] at h;refine a9.cell_of h ?_;simpa using g8
    have mo:u.length≤1000000:=by
      rw[←hu];exact FD (fr.out _ (FE _)) c9
    have k9:=oG 58 u;have hv:=Fx (fun W (q:aa [] wr W)=>Am 58 u (by omega) W (HE.out.quiet (hk.trans q)));have d4:ai ((bG U).take (n+1))=ai ((bG U).take n)++fi (zy u):=by
      rw[rK _ _ (by rw[jL,b3.out];exact cu),←hu];simp[bG]
    have bq:=Fx a2;have HK:=Fx hk;have a3:=Fx a9;have HO:=Fx bc;clear a2 hk a9 bc hu;go_wp2_with fail
    refine (hv.out _ (FK _ _)).mono ?_;rintro e w5 ⟨⟨fb,rfl⟩,ad⟩;have ih:Hid (zy u=⟨(fT 58 u).1,EZ (fT 58 u).2⟩):=Fx rfl;have k1:=Fx (fun W (q:aa [] w5 W)=>rI (fT 58 u).2 W (HE.out.quiet ((HK.out.trans ad).trans q)));rw[ih.out] at d4;have dr:ai ((bG U).take (n+1))=ai ((bG U).take n)++[FM (bs (fT 58 u).1),FR FS (max (oI (fT 58 u).2) 0)]:=by rw[d4,Ap];rfl
    have i5:=Fx dr;clear d4 dr ih;generalize (fT 58 u).1=c1 at *;generalize (fT 58 u).2=c2 at *;generalize oI c2=q at *;have be:=bq.out.keep ad (by simp);have fS:w5.cell? ⟨bt,0,none⟩=some v∧w5.frozen? ⟨bt,0,none⟩=false:=⟨by rw[be.cell];rfl,be.frozen 0⟩;have bk:=Fx (aC HO.out ad (fun _ _=>by simp));have jf:v.ownBlock≠some bt:=jv bk.out be (by decide);have j1:=Fx (show w3.heap.size≤w5.heap.size from FD a3.out.size ad.size);have bb:=Fx be;have b7:=Fx ad;clear be ad k9 hv;go_wp2_with fail
    go_region_law (first|(refine step_append_lies _ (by rfl) _ _ _ (by rfl) w3.heap.size 64 ic _ 2 24 Tryz.underlying51 i4 gm g7 h7 rfl (by decide) v n (ai ((bG U).take n)) (by rfl) (rJ bk.out (by assumption)) ⟨w6.heap.size,0,none⟩ 1 1 [FM (bs c1),FR FS (max q 0)] (by rfl) rfl (FI (heap_alloc_new _ _)) (by simp[Value.oneCell']) (by decide) (by simp only[maxLen];omega) (by omega) (Ch j1.out (by assumption)) _ rfl ?_;intro gw cap w7 el bo lr lw;obtain ⟨m1,l4⟩:=aE bo (aD (aI a1 fS (by simp)) _) jf)|(go_simp;go_at_call 48;refine (k1.out _ (FK [] w5).drew).mono ?_;rintro e w6 ⟨rfl,a1⟩;obtain ⟨lc,mE⟩:=aI a1 fS (by simp);have m0:bt<w6.heap.size:=FC w6 ⟨bt,0,none⟩ lc))
    all_goals go_wp2
    all_goals go_roundw
    all_goals first
      | (simp[intOf];omega)
      | (have e8:=yu (by decide) a3.out b7.out bk.out bb.out a1 el bo
         exact ⟨n+1,_,by omega,by go_num,by rw[i5.out];exact e8.1,e8.2.1,e8.2.2⟩)
  · obtain rfl:n=M:=by omega
    have it:=fun W (q:aa [] wr W)=>vg b3.out hb (by omega) c9 (aC bc q (fun _ _=>by simp))
    have c0:wr.cell? ⟨bt,0,none⟩=some v:=by rw[a2.cell];rfl
    have hG:=Fx it;have bq:=Fx a2;have HK:=Fx hk;have a3:=Fx a9;have HO:=Fx bc;clear a2 hk a9 bc it;go_wp2_with fail
    refine (hG.out _ (FK _ _)).mono ?_;rintro e w5 ⟨rfl,ad⟩
    cases hZ:cp (bG U) with
    | false =>
      have hR:Hid (dE s= .bad 3 0):=Fx (by unfold dE;rw[ha.out,hZ];rfl);have lg:=Fx ((ch.out.keep a3.out (by simpa using c7)).keep ad (by simp));have b7:=Fx (HK.out.trans ad);clear ad c0;go_wp2_with fail
      refine (gX 3 0 _).mono ?_;rintro e w6 ⟨g,rfl,hg,a1⟩;have B6:=lg.out.keep a1 (by simp);have c0:w6.cell? ⟨br,0,none⟩=some (FN none 0 0):=B6.cell 0;have c1:w6.cell? ⟨br,1,none⟩=some (FN none 0 0):=B6.cell 1;have f0:=B6.frozen 0;have f1:=B6.frozen 1;go_wp2;refine bodyPost_ret (v:= .tuple #[.agg #[FN none 0 0,FN none 0 0],.iface 73 (FO (some ⟨g,0,none⟩))]) (by simp[results,Tryz.results18,go_sem,c0,c1]) rfl ⟨?_,?_⟩
      · rw[hR.out]
        have Z:g≠br:=hg.ne B6 (by decide);exact ⟨g,rfl,(hg.far Z _).far Z _⟩
      · exact ((b7.out.trans a1).setCell (.inr I) _).setCell (.inr I) _
    | true =>
      have hR:Hid (dE s=fh (bG U) (ax 10 s).tail 0 []):=Fx (by unfold dE;rw[ha.out,hZ];rfl);have f9:=Fx ((ch.out.keep a3.out (by simpa using c7)).keep ad (by simp));have bb:=Fx (bq.out.keep ad (by simp));have b7:=Fx (HK.out.trans ad);have j2:=Fx (fun (j:Nat) (u:Value) (h:(strs (ax 10 s))[j]? = some u)=>ad.cell_of (a3.out.cell_of (HC1'.out j u h) (by simpa using c8)) (by simp));have mh:(1:Int)≤(N:Int):=by omega
      have bk:=Fx (aC HO.out ad (fun _ _=>by simp));have lk:b1<w5.heap.size:=Nat.lt_of_lt_of_le ds (FD a3.out.size ad.size);clear hG bq HK a3 HO ch HC1' hi fs hH fr c0 ad ds;obtain ⟨A1,l3,g4⟩:=tp b1 o1 N jx k8;obtain ⟨gv,cv,rfl,mt,mq,l1,fc⟩:=fP bk.out hb;have kf:=Fx fc;clear fc;go_wp2_with fail
      go_loopw [61] (fun i wr=>∃ (m:Nat) (vr:Value) (rs:List (List Vl)),m≤N-1∧i=FR FS m∧ao wr bt 54 #[FN (some ⟨gv,0,none⟩) n cv,vr]∧iK wr w5.heap.size vr rs∧fh (bG U) ((ax 10 s).tail.drop m) m rs=dE s∧(rs.length≤60∧∀ r∈rs,r.length=n)∧aa [bt] w5 wr) (fun i _=>N-1-(intOf i).toNat)
      case atStart=>exact ⟨0,_,[],FF _,rfl,bb.out,iK.nil _ _,by rw[hR.out,List.drop_zero],by simp,FK _ _⟩
      obtain ⟨m,vr,rs,hm,rfl,a2,cy,cn,⟨kz,h4⟩,a8⟩:=hrel;have hk:=b7.out.trans' a8 (fun y hy hl=>by simp at hy;omega);have hL:=Fx h4;clear h4;obtain ⟨B0,d0,hI,-,-⟩:=cy.rd;subst hI;by_cases cu:m<N-1
      · obtain rfl:=g4 (by omega)
        have d9:m+1<(ax 10 s).length:=by rw[ey.out];omega
        have f8:=Ci (ax 10 s) m d9;have lb:((ax 10 s)[m+1]).length≤1000000:=FD ((eO 10 s).2.2 _ (FE _)) hs;have d1:=a8.cell_of (j2.out (m+1) _ (cC (ax 10 s) (m+1) d9)) (by simpa using c8);have b8:(ax 10 s).tail.drop (m+1)=[]↔m+2=N:=by
          rw[List.drop_eq_nil_iff,List.length_tail,ey.out];omega
        rw[f8] at cn;generalize (ax 10 s)[m+1]=l at *;have d1':wr.cell? ⟨b1,o1+1+m,none⟩=some (FM (bs l)):=by rw[show o1+1+m=o1+(m+1) by omega];exact d1
        have ez:=Fx cn;have hW:=Fx cy;have ci:=Fx a2;have cm:=Fx a8;have cr:=Fx hk;have h6:=Fx b8;clear cn cy a2 a8 hk b8 f8 d1 d9;go_upto_region 15 with (fail)
        go_cut [61,74] from 61 to 152 (fun i t wx=>i=FR FS m∧t= .bool (decide (m+2=N∧l=[]))∧wx=wr)
        case first =>
          by_cases h8:m+2=N
          · have t1:((m:Int)==(N:Int)-2)=true:=by rw[beq_iff_eq];omega
            cases l with
            | nil =>
              go_wp2;go_meet;exact ⟨rfl,by simp[h8],rfl⟩
            | cons a t =>
              go_wp2;go_meet;exact ⟨rfl,by simp,rfl⟩
          · have t1:((m:Int)==(N:Int)-2)=false:=by rw[beq_eq_false_iff_ne];omega
            go_wp2;go_meet;exact ⟨rfl,by simp[h8],rfl⟩
        obtain ⟨rfl,rfl,rfl⟩:=hcut;have hB:=f9.out.keep cm.out (by simpa using c7);have bl:=Fx hB;by_cases av:m+2=N∧l=[]
        · rw[decide_eq_true av]
          have x0:wc.cell? ⟨bt,0,none⟩=some (FN (some ⟨gv,0,none⟩) n cv):=ci.out.cell 0;have x1:wc.cell? ⟨bt,1,none⟩=some (FN B0 rs.length d0):=ci.out.cell 1;have c0:wc.cell? ⟨br,0,none⟩=some (FN none 0 0):=hB.cell 0;have c1:wc.cell? ⟨br,1,none⟩=some (FN none 0 0):=hB.cell 1;have f0:=hB.frozen 0;have f1:=hB.frozen 1;have a5:Hid (dE s= .ok ⟨bG U,rs⟩):=Fx (by rw[←ez.out];unfold fh;rw[if_pos ⟨h6.out.2 av.1,av.2⟩]);clear av hB;go_wp2;have hV:(bG U).length=n:=by rw[jL,b3.out]
          have g5:=l8 bk.out cm.out bb.out (by decide);rw[List.take_of_length_le (by omega)] at g5;have gl:=rL (i:=1) (u:=FN B0 rs.length d0) (rL (i:=0) (u:=FN (some ⟨gv,0,none⟩) n cv) g5 bl.out (by decide)) (bl.out.set 0 _) (by decide);have f7:=iK.set (i:=1) (u:=FN B0 rs.length d0) (iK.set (i:=0) (u:=FN (some ⟨gv,0,none⟩) n cv) hW.out bl.out (by decide) (by decide)) (bl.out.set 0 _) (by decide) (by decide);obtain ⟨A,B,c,d,e1,e2,hT⟩:=AD hV gl f7 (fun x hx=>FD (mH U x hx) (by omega)) (by omega) kz (fun r hr=>by have:=hL.out r hr;omega);refine bodyPost_ret (v:= .tuple #[.agg #[FN (some ⟨gv,0,none⟩) n cv,FN B0 rs.length d0],.nilIface]) (by simp[results,Tryz.results18,go_sem,c0,c1]) rfl ⟨?_,?_⟩
          · rw[a5.out]
            refine ⟨A,B,c,d,?_,?_⟩
            · unfold jP;simp only;rw[←e1,←e2]
            · exact hT
          · exact (cr.out.setCell (.inr I) _).setCell (.inr I) _
        · rw[decide_eq_false av]
          have ev:fh (bG U) (l::(ax 10 s).tail.drop (m+1)) m rs=(match mn (bG U) l with
            | none=> .bad 3 (m+1)
            | some r=>if rs.length=60 then .bad 4 (m+1) else fh (bG U) ((ax 10 s).tail.drop (m+1)) (m+1) (rs++[r])):=by
            conv=>lhs;unfold fh
            rw[if_neg (fun h=>av ⟨h6.out.1 h.1,h.2⟩)];cases mn (bG U) l<;>rfl
          rw[ez.out] at ev;have c3:=Fx ev;clear ev av hB ez;go_wp2_with fail
          refine (Cg l (by omega) _).mono ?_;rintro e w6 ⟨A6,c6,rfl,d3,a1⟩;obtain ⟨K,hK⟩:∃ K,(fU l).length=K:=⟨_,rfl⟩
          have hF:1≤K:=by rw[←hK];unfold fU;simp
          have mU:K≤1000001:=by rw[←hK];have:=(l7 l l.length).2;unfold fU;simp;omega
          rw[hK] at d3 ⊢;obtain ⟨gc,cc,e6,lm,mK,ln,bv⟩:=fP d3 hF;injection e6 with e6 _ e7;subst e6;have hP:=Fx hK;have kd:=Fx bv;have et:=Fx a1;have he:=Fx (ci.out.keep a1 (by simp));have ie:=Fx (bl.out.keep a1 (by simp));have ho:=Fx (hW.out.keep a1);have dz:=Fx (cr.out.trans a1);clear hK d3 bv a1 e7;go_wp2_with fail
          go_loopw [14,79] (fun vq i wx=>∃ (k:Nat) (q:List Vl),k≤K∧q.length=k∧i=FR FS k∧wx.ownsRow w6.heap.size 46 3 vq k (al q)∧kM ((fU l).drop k) q=kM (fU l) []∧aa [] w6 wx) (fun _ i _=>K-(intOf i).toNat)
          case atStart=>exact ⟨0,[],FF _,rfl,rfl,World.ownsRow_nil _ _ _ _,by rw[List.drop_zero],FK _ _⟩
          obtain ⟨k,q,hk,hq,rfl,b6,a7,O⟩:=hrel;by_cases lj:k<K
          · have f6:k<(fU l).length:=by rw[hP.out];exact lj
            rw[vh f6] at a7;have d2:=O.cell_of (kd.out k _ (cC (fU l) k f6)) (by simp);have eb:((fU l)[k]).length≤1000000:=FD (Aw l _ (FE _)) lb;generalize (fU l)[k]=p at *;have j3:=Fx (ie.out.keep O (by simp));have eB:=Fx (dz.out.trans O)
            cases b0:pI p with
            | none =>
              rw[b0] at a7;have d7:=Fx (fun W (x:aa [] wr W)=>yv b0 (by omega) W (HE.out.quiet (eB.out.trans x)));have a5:Hid (dE s= .bad 3 (m+1)):=Fx (by rw[c3.out];unfold mn;rw[←a7]);clear a7 b6 O b0;go_wp2_with fail
              refine (d7.out _ (FK _ _)).mono ?_;rintro e w7 ⟨rfl,b5⟩;have cg:=Fx b5;clear b5;go_wp2_with fail
              refine (gX 3 ((m:Int)+1) _).mono ?_;rintro e a0 ⟨g,rfl,hg,J⟩;have D:=((j3.out.keep cg.out (by simp)).alloc _).keep J (by simp);have c0:a0.cell? ⟨br,0,none⟩=some (FN none 0 0):=D.cell 0;have c1:a0.cell? ⟨br,1,none⟩=some (FN none 0 0):=D.cell 1;have f0:=D.frozen 0;have f1:=D.frozen 1;go_wp2;refine bodyPost_ret (v:= .tuple #[.agg #[FN none 0 0,FN none 0 0],.iface 73 (FO (some ⟨g,0,none⟩))]) (by simp[results,Tryz.results18,go_sem,c0,c1]) rfl ⟨?_,?_⟩
              · rw[a5.out]
                have Z:g≠br:=hg.ne D (by decide);exact ⟨g,rfl,((lu hg (by omega)).far Z _).far Z _⟩
              · exact ((((eB.out.trans cg.out).alloc _).trans J).setCell (.inr I) _).setCell (.inr I) _
            | some u =>
              rw[b0] at a7;have d7:=Fx (fun W (x:aa [] wr W)=>yx b0 (by omega) W (HE.out.quiet (eB.out.trans x)));have kl:=Fx a7;have cd:=Fx b6;have dv:=Fx O;have HQ:=Fx hq;clear a7 b6 O b0 hq;go_wp2_with fail
              refine (d7.out _ (FK _ _)).mono ?_;rintro e w7 ⟨rfl,b5⟩;have cg:=Fx b5;have lG:w6.heap.size≤w7.heap.size:=FD dv.out.size b5.size;clear b5;have i9:=Fx (aC cd.out cg.out (fun _ _=>by simp));have fn:=Fx (show k+1≤maxLen∧(k+1)*32≤140737488355328 by simp only[maxLen];omega);go_wp2_with (at_builtin;(refine wpList_append_lies _ rfl _ _ 89 rfl w6.heap.size 46 iv _ 3 32 Tryz.underlying89 k7 hJ g6 h5 rfl (by decide) _ k (al q) rfl ((i9.out.alloc _).alloc _) ⟨w7.heap.size+1,0,none⟩ 1 1 [FR FS u.kind,FR FS u.num,FM (bs u.word)] rfl rfl (FI (AE _ _ _)) (by simp[Value.oneCell']) (by decide) fn.out.1 fn.out.2 (by simp;omega) _ rfl ?_);intro gw g1 w8 bm bX hX f2)
              have a6:=Fx (((dv.out.trans cg.out).alloc (FQ #[FR FS u.kind,FR FS u.num,FM (bs u.word)] 46)).alloc (FQ #[FR FS u.kind,FR FS u.num,FM (bs u.word)] 46) |>.grown bX (fun g hg=> .inr (cd.out.lt g hg).1));rw[←ly] at bm;have k6:=Fx bm;clear bm bX hX f2;go_wp2;go_roundw
              case rel=>exact ⟨k+1,q++[u],by omega,by simp[HQ.out],by go_num,k6.out,kl.out,a6.out⟩
              case measure=>simp[intOf];omega
          · obtain rfl:k=K:=by omega
            rw[List.drop_of_length_le (by rw[hP.out];exact Fy _)] at a7;obtain ⟨gq,cq,js,l5,km,lo,ff⟩:=fP b6 hF;subst js;have g0:mn (bG U) l=if mR (bG U) q then some q else none:=by unfold mn;rw[←a7];rfl
            have en:=Fx g0;have cd:=Fx b6;have d5:=Fx ff;have HQ:=Fx hq;have bz:=Fx (he.out.keep O (by simp));have e5:=Fx (ie.out.keep O (by simp));have h0:=Fx (ho.out.keep O);have cj:=Fx (dz.out.trans O);have co:=Fx ((cm.out.trans (et.out.weaken (by simp))).trans (O.weaken (by simp)));have lp:w5.heap.size≤gq:=FD (FD cm.out.size et.out.size) km;have ls:gq≠bt:=fun e=>jv cd.out bz.out (by decide) (by rw[e];rfl)
            have gi:gv≠bt:=fun e=>jv bk.out bb.out (by decide) (by rw[e];rfl)
            have hU:=Fx (fun (j:Nat) (u:Value) (h:(ai ((bG U).take n))[j]? = some u)=>co.out.cell_of (kf.out j u h) (by simpa using gi));have ca:(bG U).length=n:=by rw[jL,b3.out]
            have c4:=Fx ca;have mY:n≤1000001:=ks;clear a7 g0 b6 ff hq O ca;obtain ⟨w8,rfl⟩:∃ w8:World,w8=wr:=⟨_,rfl⟩
            have x0:w8.cell? ⟨bt,0,none⟩=some (FN (some ⟨gv,0,none⟩) n cv):=bz.out.cell 0;have x1:w8.cell? ⟨bt,1,none⟩=some (FN B0 rs.length d0):=bz.out.cell 1;by_cases eA:k=n
            · subst eA
              have gz:Hid (∀ (j:Nat) (u:Value),(ai (bG U))[j]? = some u→w8.cell? ⟨gv,j,none⟩=some u):=Fx (by
                have h:=hU.out;rw[List.take_of_length_le (by rw[c4.out];exact Fy _)] at h;exact h)
              go_wp2_with fail
              go_loopw [115] (fun i wx=>∃ j:Nat,j≤k∧i=FR FS j∧Hid (∀ x (h:x<j) (h1:x<q.length) (h2:x<(bG U).length),q[x].kind=(bG U)[x].kind)∧aa [] w8 wx) (fun i _=>k-(intOf i).toNat)
              case atStart=>exact ⟨0,FF _,rfl,fun x h=>absurd h (by omega),FK _ _⟩
              obtain ⟨j,hj,rfl,f3,a4⟩:=hrel;have z0:=a4.cell_of x0 (by simp);have z1:=a4.cell_of x1 (by simp);by_cases hw:j<k
              · have ix:j<q.length:=by rw[HQ.out];exact hw
                have hz:j<(bG U).length:=by rw[c4.out];exact hw
                obtain ⟨e0,e1,e2⟩:=ay q j ix;obtain ⟨_,e4⟩:=aN (bG U) j hz;have y0:=a4.cell_of (d5.out _ _ e0) (by simp);have y1:=a4.cell_of (d5.out _ _ e1) (by simp);have y2:=a4.cell_of (d5.out _ _ e2) (by simp);have y4:=a4.cell_of (gz.out _ _ e4) (by simp);have hl1':bt<wr.heap.size:=FC _ _ z0;have hl2':gv<wr.heap.size:=FC _ _ y4;have a6:=Fx a4;obtain ⟨u,hu⟩:∃ u,q[j]=u:=⟨_,rfl⟩
                obtain ⟨c,hc⟩:∃ c,(bG U)[j]=c:=⟨_,rfl⟩
                rw[hu] at y0 y1 y2;rw[hc] at y4;have HU:=Fx hu;have f4:=Fx hc;have mI:(0:Int)≤(j:Int):=by omega
                have l2:(j:Int)<(k:Int):=by omega
                clear hu hc e0 e1 e2 e4 a4;by_cases b4:u.kind=c.kind
                · have t1:(u.kind != c.kind)=false:=by rw[b4];simp
                  have h3:=Fx b4;clear b4;go_wp2_with fail
                  go_quiet (fail)
                  go_wp2;go_roundw
                  case rel=>exact ⟨j+1,by omega,by go_num,fun x h h1 h2=>by
                    by_cases hx:x<j
                    · exact f3.out x hx h1 h2
                    · obtain rfl:x=j:=by omega
                      rw[HU.out,f4.out];exact h3.out,(a6.out.alloc _).drewN _⟩
                  case measure=>simp[intOf];omega
                · have t1:(u.kind != c.kind)=true:=by rw[bne_iff_ne];exact b4
                  have a5:Hid (dE s= .bad 3 (m+1)):=Fx (by rw[c3.out,en.out,AF ix hz (by rw[HU.out,f4.out];exact b4)];rfl);clear b4;go_wp2_with fail
                  go_quiet (fail)
                  go_wp2_with fail
                  refine (gX 3 ((m:Int)+1) _).mono ?_;rintro e a0 ⟨g,rfl,hg,J⟩;have D:=(((e5.out.keep a6.out (by simp)).alloc _).drewN _).keep J (by simp);have c0:a0.cell? ⟨br,0,none⟩=some (FN none 0 0):=D.cell 0;have c1:a0.cell? ⟨br,1,none⟩=some (FN none 0 0):=D.cell 1;have f0:=D.frozen 0;have f1:=D.frozen 1;go_wp2;refine bodyPost_ret (v:= .tuple #[.agg #[FN none 0 0,FN none 0 0],.iface 73 (FO (some ⟨g,0,none⟩))]) (by simp[results,Tryz.results18,go_sem,c0,c1]) rfl ⟨?_,?_⟩
                  · rw[a5.out]
                    have Z:g≠br:=hg.ne D (by decide);exact ⟨g,rfl,((lu hg (by omega)).far Z _).far Z _⟩
                  · exact (((((cj.out.trans a6.out).alloc _).drewN _).trans J).setCell (.inr I) _).setCell (.inr I) _
              · obtain rfl:j=k:=by omega
                have dt:mR (bG U) q=true:=yz (by rw[HQ.out,c4.out]) (fun x h1 h2=>f3.out x (by rw[HQ.out] at h1;exact h1) h1 h2);have ce:dE s=if rs.length=60 then .bad 4 (m+1) else fh (bG U) ((ax 10 s).tail.drop (m+1)) (m+1) (rs++[q]):=by rw[c3.out,en.out,if_pos dt]
                have jc:=Fx (e5.out.keep a4 (by simp));have hD:=Fx (cj.out.trans a4);have a6:=Fx a4;clear dt a4;by_cases er:rs.length=60
                · have t1:((rs.length:Int)==60)=true:=by rw[beq_iff_eq];omega
                  have a5:Hid (dE s= .bad 4 (m+1)):=Fx (by rw[ce,if_pos er]);clear ce er;go_wp2_with fail
                  refine (gX 4 ((m:Int)+1) _).mono ?_;rintro e a0 ⟨g,rfl,hg,J⟩;have D:=(jc.out).keep J (by simp);have c0:a0.cell? ⟨br,0,none⟩=some (FN none 0 0):=D.cell 0;have c1:a0.cell? ⟨br,1,none⟩=some (FN none 0 0):=D.cell 1;have f0:=D.frozen 0;have f1:=D.frozen 1;go_wp2;refine bodyPost_ret (v:= .tuple #[.agg #[FN none 0 0,FN none 0 0],.iface 73 (FO (some ⟨g,0,none⟩))]) (by simp[results,Tryz.results18,go_sem,c0,c1]) rfl ⟨?_,?_⟩
                  · rw[a5.out]
                    have Z:g≠br:=hg.ne D (by decide);exact ⟨g,rfl,((lu hg (by omega)).far Z _).far Z _⟩
                  · exact (((hD.out).trans J).setCell (.inr I) _).setCell (.inr I) _
                · have t1:((rs.length:Int)==60)=false:=by rw[beq_eq_false_iff_ne];omega
                  rw[if_neg er] at ce;have k0:=Fx ce;clear ce;obtain ⟨us,hf,hp,hQ⟩:=h0.out.keep a6.out;have kg:=Fx hf;have c5:=Fx hp;have kx:=Fx hQ;have bj:=Fx (bz.out.keep a6.out (by simp));have k5:wr.frozen? ⟨bt,1,none⟩=false:=bj.out.frozen 1;have m2:bt<wr.heap.size:=bj.out.lt;have mA:w5.heap.size≤wr.heap.size:=FD co.out.size a6.out.size;have i3:(Value.slice B0 rs.length d0).ownBlock≠some bt:=jv c5.out bj.out (by decide);clear hf hp hQ;go_wp2_with (at_builtin;(refine wpList_append_lies _ rfl _ _ 52 rfl w5.heap.size 89 ir _ 1 24 Tryz.underlying52 lf fz ht hh rfl (by decide) _ rs.length us rfl (c5.out.alloc _) ⟨wr.heap.size,0,none⟩ 1 1 [FN (some ⟨gq,0,none⟩) j cq] rfl rfl (FI (heap_alloc_new _ _)) (by simp[Value.oneCell']) (by decide) (by simp only[maxLen];omega) (by omega) (by simp;omega) _ rfl ?_);intro gw g1 w9 b9 aA e9 hA;obtain ⟨mp,lx⟩:=aE aA (aD ⟨z1,k5⟩ _) i3)
                  have B9:ao w9 bt 54 #[FN (some ⟨gv,0,none⟩) j cv,FN B0 rs.length d0]:=(aA.block bt (bj.out.alloc _).lt (fun e=>i3 e.symm)).trans (bj.out.alloc _);have dB:wr.ownsRow w5.heap.size 46 3 (FN (some ⟨gq,0,none⟩) j cq) q.length (al q):=by
                    rw[HQ.out];exact gY (aC cd.out a6.out (fun _ _=>by simp)) (FD cm.out.size et.out.size)
                  have f5:=Fx (gZ kg.out kx.out c5.out dB aA b9);have k2:Hid (aa [bt] w5 w9):=Fx (((co.out.trans (a6.out.weaken (by simp))).alloc (FQ #[FN (some ⟨gq,0,none⟩) j cq] 89)).grown aA (fun g hg=> .inr (c5.out.lt g hg).1));have HB9':=Fx B9;clear b9 aA e9 hA dB B9;go_wp2;go_roundw
                  case rel=>exact ⟨m+1,_,rs++[q],by omega,by go_num,(HB9'.out.set 1 _).congr rfl,iK.set f5.out HB9'.out (by decide) (by decide),k0.out.symm,⟨by simp;omega,fun r hr=>by
                    rcases List.mem_append.1 hr with hr|hr
                    · exact hL.out r hr
                    · rw[List.mem_singleton] at hr
                      rw[hr,HQ.out]⟩,k2.out.setCell (.inl (by simp)) _⟩
                  case measure=>simp[intOf];omega
            · have t1:(k != n)=true:=by rw[bne_iff_ne];exact eA
              have t2:((k:Int) != (n:Int))=true:=by rw[bne_iff_ne];omega
              have a5:Hid (dE s= .bad 3 (m+1)):=Fx (by rw[c3.out,en.out,vk (by rw[HQ.out,c4.out];exact eA)];rfl);go_wp2_with fail
              refine (gX 3 ((m:Int)+1) _).mono ?_;rintro e a0 ⟨g,rfl,hg,J⟩;have D:=(e5.out).keep J (by simp);have c0:a0.cell? ⟨br,0,none⟩=some (FN none 0 0):=D.cell 0;have c1:a0.cell? ⟨br,1,none⟩=some (FN none 0 0):=D.cell 1;have f0:=D.frozen 0;have f1:=D.frozen 1;go_wp2;refine bodyPost_ret (v:= .tuple #[.agg #[FN none 0 0,FN none 0 0],.iface 73 (FO (some ⟨g,0,none⟩))]) (by simp[results,Tryz.results18,go_sem,c0,c1]) rfl ⟨?_,?_⟩
              · rw[a5.out]
                have Z:g≠br:=hg.ne D (by decide);exact ⟨g,rfl,((lu hg (by omega)).far Z _).far Z _⟩
              · exact (((cj.out).trans J).setCell (.inr I) _).setCell (.inr I) _
      · obtain rfl:m=N-1:=by omega
        have a5:Hid (dE s= .bad 3 (N-1)):=Fx (by
          rw[←cn,List.drop_of_length_le (by rw[List.length_tail,ey.out];omega)];rfl)
        have bl:=Fx (f9.out.keep a8 (by simpa using c7));have cr:=Fx hk;clear cn cy a2 hk a8 g4;go_wp2_with fail
        refine (gX 3 ((N:Int)-1) _).mono ?_;rintro e a0 ⟨g,rfl,hg,J⟩;have D:=(bl.out).keep J (by simp);have c0:a0.cell? ⟨br,0,none⟩=some (FN none 0 0):=D.cell 0;have c1:a0.cell? ⟨br,1,none⟩=some (FN none 0 0):=D.cell 1;have f0:=D.frozen 0;have f1:=D.frozen 1;go_wp2;refine bodyPost_ret (v:= .tuple #[.agg #[FN none 0 0,FN none 0 0],.iface 73 (FO (some ⟨g,0,none⟩))]) (by simp[results,Tryz.results18,go_sem,c0,c1]) rfl ⟨?_,?_⟩
        · rw[a5.out]
          have Z:g≠br:=hg.ne D (by decide);exact ⟨g,rfl,((lu hg (by omega)).far Z _).far Z _⟩
        · exact (((cr.out).trans J).setCell (.inr I) _).setCell (.inr I) _
end
section
open Go.RowKit
theorem By {s:Bs} {t:Tb} (h:dE s= .ok t) (I:s.length≤1000000) (w:World) (M:gG w) :
  Calls Tryz.prog 18 #[FM (bs s)] w fun e w'=>∃ A B c d,e=FP (.tuple #[.agg #[FN A t.cols.length c,FN B t.rows.length d],.nilIface])∧aZ w' t A B c d∧aa [] w w':=by
 have:=vT s I w M;rw[h] at this;refine this.mono ?_;rintro e w' ⟨⟨A,B,c,d,J,N⟩,D⟩;exact ⟨A,B,c,d,J,N,D⟩
end
section
open Go.RowKit Go.Shelf Go.ChangeShapes Go.WideShapes
theorem En.p10g:Tryz.prog.globalNamed "internal/strconv.uint64pow10" = some 10:=by kernel_rfl
theorem En.p10t:(Tryz.prog.globals[10]?).map (·.type)=some 283:=by kernel_rfl
theorem En.kg:Tryz.prog.globalNamed "foreman/table.kinds" = some 0:=by kernel_rfl
theorem En.kt:(Tryz.prog.globals[0]?).map (·.type)=some 121:=by kernel_rfl
theorem En.sg:Tryz.prog.globalNamed "strconv.ErrSyntax" = some 6:=by kernel_rfl
theorem En.st:(Tryz.prog.globals[6]?).map (·.type)=some 34:=by kernel_rfl
theorem En.rg:Tryz.prog.globalNamed "strconv.ErrRange" = some 7:=by kernel_rfl
theorem En.rt:(Tryz.prog.globals[7]?).map (·.type)=some 34:=by kernel_rfl
theorem CZ {D:List (String×DataW Unit)} {W:World}
  (h1:D.filter (fun x=>x.1 == "internal/strconv.uint64pow10")=[("internal/strconv.uint64pow10",Rows.laid_internal_strconv_uint64pow10)])
  (O:D.filter (fun x=>x.1 == "foreman/table.kinds")=[("foreman/table.kinds",Rows.laid_foreman_table_kinds)])
  (h3:D.filter (fun x=>x.1 == "strconv.ErrSyntax")=[("strconv.ErrSyntax",Rows.laid_strconv_ErrSyntax)])
  (U:D.filter (fun x=>x.1 == "strconv.ErrRange")=[("strconv.ErrRange",Rows.laid_strconv_ErrRange)])
  (h:laidMet Tryz.prog D W) (Z:W.ShapedOpen Tryz.prog):gG W:=by
 refine ⟨?_,?_,?_,lJ En.sg En.st Tryz.underlying34 (gF _ _ h3 h),lJ En.rg En.rt Tryz.underlying34 (gF _ _ U h)⟩
 ·have e:(Rows.laid_internal_strconv_uint64pow10:DataW Unit)=Lib.tabData .u64 Lib.pow10Tab:=by kernel_rfl
  have h':=gF _ _ h1 h;rw[e] at h';exact Lib.tabIs_of_head En.p10g En.p10t Tryz.underlying283 Tryz.underlying247 (by kernel_rfl) (by kernel_rfl) h'
 ·have e:(Rows.laid_foreman_table_kinds:DataW Unit)= .agg ([[],[105,110,116],[116,101,120,116]].map fun z=> .lit (.string z)):=by kernel_rfl
  have h':=gF _ _ O h;rw[e] at h';obtain ⟨ps,⟨g',t',cs,fuel,p,q,M,J,I,hd,_,_⟩,_⟩:=h';obtain rfl:=Option.some.inj (En.kg.symm.trans M);obtain rfl:=Option.some.inj (En.kt.symm.trans J);have N:=kc Tryz.underlying121 Tryz.underlying9 (by kernel_rfl) (by kernel_rfl) hd;intro j hj;rw[World.var?_cell En.kg I j,←Array.getElem?_toList,N];rcases j with _|_|_|j
  ·rfl
  ·rfl
  ·rfl
  omega
 exact Go.Proofs.cell_of_shapedOpen_int (t:=3) (zero:= #[.int .i64 0]) Z (of_decide_eq_true (by kernel_rfl)) (by kernel_rfl) rfl (by kernel_rfl) (by kernel_rfl) Tryz.underlying3
end
end Go.Proofs.YtecpeogejjibaaaGreatDoor
