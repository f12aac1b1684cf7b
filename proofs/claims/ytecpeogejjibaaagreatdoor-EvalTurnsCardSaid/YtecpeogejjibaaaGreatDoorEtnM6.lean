/- table.Value, table.Print. A table in memory; table.Right of it. api.Tell, plain.Place and is, at nil and at an *api.At. api.Tell of an api.Errno. strings.Split and strings.Cut at one byte, as plain functions. slices.Index over kinds[:]. table.cut: a line cut at blanks, but not within '. table.ParseValue. table.Parse: words for what it makes. Values stand in a row; plain. table.Parse. table.Parse: its two ways, told apart. What tables lean on, out of a row's condition; a world in which it is laid. -/
import Derived.Test.YtecpeogejjibaaaGreatDoorEtnM2
import Derived.Test.YtecpeogejjibaaaGreatDoorEtnM4
import Derived.Sort.Grow
import Derived.Lib.ItoaLen
import Derived.Test.YtecpeogejjibaaaGreatDoorEtnM3
import Derived.Deep.CutBlock
import Derived.Lib.Split
import Derived.Lib.CountLaws
import Derived.Lib.ConvBytes
import Derived.Deep.AppendLies
import Derived.Deep.DeepCutAuto
import Derived.Test.YtecpeogejjibaaaGreatDoorRows
import Derived.Lib.LaidTab
import Derived.LaidLaws
import Derived.LaidSub
import Derived.LaidMore
import Derived.Shelf.Vars
import Derived.HandedShaped
set_option linter.unusedSimpArgs false
set_option linter.unusedVariables false
set_option maxRecDepth 100000
set_option maxHeartbeats 16000000
namespace Go.Proofs.YtecpeogejjibaaaGreatDoor
open Go.Lib renaming hid → Fk
open _root_.Nat renaming le_refl → Fm, le_trans → Ft, zero_le → Fu
open _root_.List renaming getElem?_eq_getElem → Fp, getElem_mem → Fs, length_cons → Fv, length_take → Fw, getD_eq_getElem?_getD → Fy
open Go.World renaming block_lt_of_cell? → Fq, news_of_block → Fx
open aa renaming refl → Fz
open ao renaming new → FA
open Go.Value renaming string → FC, slice → FD, pointer → FE, int → FH
open Go.Ending renaming returned → FF
open Go.Obj renaming cells → FG
open Go.IntKind renaming i64 → FI
section
open Go.RowKit Go.Sort
attribute [local go_sem] ag ab ae af
structure gG (w:World):Prop where
 p10:Lib.TabIs Tryz.prog w "internal/strconv.uint64pow10" .u64 Lib.pow10Tab
 kinds:∀ j,j<3→w.cell? ⟨0,j,none⟩=some (FC (bs (eP j)))
 mlen:∃ m,w.cell? ⟨5,0,none⟩=some (FH FI m)
 esyn:∃ t p,w.cell? ⟨6,0,none⟩=some (.iface t p)
 erng:∃ t p,w.cell? ⟨7,0,none⟩=some (.iface t p)
theorem gG.quiet {w w':World} (h:gG w) (D:aa [] w w'):gG w' :=
  ⟨iW h.p10 D,fun j I=>D.cell_of (h.kinds j I) (by simp),by obtain ⟨m,H⟩:=h.mlen;exact ⟨m,D.cell_of H (by simp)⟩,
   by obtain ⟨t,p,H⟩:=h.esyn;exact ⟨t,p,D.cell_of H (by simp)⟩,by obtain ⟨t,p,H⟩:=h.erng;exact ⟨t,p,D.cell_of H (by simp)⟩⟩
theorem xt (v:Vl) (H:dX v.num) (D:v.word.length≤1000000000) (w:World) (h:gG w) :
  Calls Tryz.prog 170 #[fV v] w fun e w'=>e=FF (FC (bs (aZ v)))∧aa [] w w':=xq v H D w h.p10
theorem xu {s:Bs} (h:fm s=true):s.length≤10:=by
 unfold fm at h;simp only[Bool.and_eq_true,decide_eq_true_eq] at h;exact h.1.1.2
theorem sn {l:List Cl} (h:bV l=true) {n:Nat} (D:n<l.length):fm l[n].name=true∧(l[n].kind=1∨l[n].kind=2):=by
 unfold bV at h;simp only[Bool.and_eq_true,List.all_eq_true] at h;have:=h.2 n (List.mem_range.2 D);unfold fY at this;rw[Fp D] at this;simp only[Bool.and_eq_true,Bool.or_eq_true,decide_eq_true_eq] at this;exact this.1
theorem uB {v:Vl} (h:eO v=true):(aZ v).length≤21∧dX v.num∧v.word.length≤16:=by
 unfold eO at h;unfold aZ dX;by_cases H:v.kind=1
 ·rw[if_pos H] at h ⊢
  simp only[Bool.and_eq_true,decide_eq_true_eq,beq_iff_eq] at h;have:=Lib.itoa_length_le v.num (by omega) (by omega);exact ⟨this,⟨by omega,by omega⟩,by rw[h.1.1];simp⟩
 rw[if_neg H] at h ⊢;by_cases D:v.kind=2
 ·rw[if_pos D] at h
  simp only[Bool.and_eq_true,decide_eq_true_eq] at h;refine ⟨?_,⟨by omega,by omega⟩,h.1.2⟩;simp;omega
 rw[if_neg D] at h;cases h
theorem jE {t:Tb} (h:ak t=true):bV t.cols=true∧t.cols.length≤6∧t.rows.length≤60∧∀ r∈t.rows,ft t.cols r=true:=by
 unfold ak at h;simp only[Bool.and_eq_true,decide_eq_true_eq,List.all_eq_true] at h;have D:=h.1.1;unfold bV at D;simp only[Bool.and_eq_true,decide_eq_true_eq] at D;exact ⟨h.1.1,D.1.2,h.1.2,h.2⟩
end
section
open Go.RowKit
attribute [local go_sem] ag ab ae af
structure aY (w:World) (t:Tb) (A B:Option Addr) (c d:Nat):Prop where
 cols:Rd w [] 2 A t.cols.length (ai t.cols)
 cc:t.cols.length≤c
 rows:cJ w [] B t.rows
 cd:t.rows.length≤d
 names:∀ x∈t.cols,x.name.length≤1000000000
 ln:t.cols.length≤4294967296
 lm:t.rows.length≤4294967296
 lr:∀ r∈t.rows,r.length≤4294967296
theorem aY.quiet {w w':World} {t:Tb} {A B:Option Addr} {c d:Nat} (h:aY w t A B c d) (D:aa [] w w'):aY w' t A B c d :=
 ⟨h.cols.keep D,h.cc,h.rows.keep D,h.cd,h.names,h.ln,h.lm,h.lr⟩
theorem aY.right {w:World} {t:Tb} {A B:Option Addr} {c d:Nat} (h:aY w t A B c d) :
  Calls Tryz.prog 13 #[jR A t.cols.length c B t.rows.length d] w fun e w'=>e=FF (.bool (ak t))∧aa [] w w' :=
 xh t A B c d w h.cols h.cc h.rows h.names h.ln h.lm h.lr
end
section
open Go.RowKit Go.BigFrame
theorem wH (g:Nat) (e p:Int) (w:World) (h:iJ w) (H:ao w g 75 #[FH FI e,FH FI p]) :
  Calls Tryz.prog 23 #[.iface 73 (FE (some ⟨g,0,none⟩))] w fun I w'=>I=FF (FH FI e)∧aa [] w w':=by
 have D:w.cell? ⟨g,0,none⟩=some (FH FI e):=H.cell 0;have hE':∀ o,(w.alloc o).cell? ⟨2,0,none⟩=some (.iface 208 (.agg #[FE (some ⟨13,34,none⟩)])):=fun o=>(World.cell?_alloc_lt w o ⟨2,0,none⟩ (Fq w ⟨2,0,none⟩ h)).trans h
 have hC':∀ o,(w.alloc o).cell? ⟨g,0,none⟩=some (FH FI e):=fun o=>(World.cell?_alloc_lt w o ⟨g,0,none⟩ (Fq w ⟨g,0,none⟩ D)).trans D
 have M:=Fk hE';have J:=Fk hC';clear h hE' H D hC';go_enter Tryz.func23,Tryz.ntmps23
 go_wp2_with (go_at_call 63;refine (EC g e _ (FH FI 0) _ (M.out _) (J.out _) (by simp) (by simp)).mono ?_;rintro I w' ⟨rfl,rfl⟩)
 go_ret;refine ⟨by simp,?_⟩;repeat first|exact Fz _ _|refine aa.alloc ?_ _|refine aa.setCell ?_ (.inr (Fm _)) _
theorem oy (e:Int) (w:World) (h:iJ w) :
  Calls Tryz.prog 23 #[.iface 37 (FH FI e)] w fun D w'=>D=FF (FH FI e)∧aa [] w w':=by
 have hE':∀ o,(w.alloc o).cell? ⟨2,0,none⟩=some (.iface 208 (.agg #[FE (some ⟨13,34,none⟩)])):=fun o=>(World.cell?_alloc_lt w o ⟨2,0,none⟩ (Fq w ⟨2,0,none⟩ h)).trans h
 have H:=Fk hE';clear h hE';go_enter Tryz.func23,Tryz.ntmps23
 go_wp2_with (go_at_call 63;refine (DU _ _ (FH FI 0) _ (H.out _) (by simp) (by simp)).mono ?_;rintro D w' ⟨rfl,rfl⟩)
 go_ret;refine ⟨by simp,?_⟩;repeat first|exact Fz _ _|refine aa.alloc ?_ _|refine aa.setCell ?_ (.inr (Fm _)) _
end
section
open Go.RowKit
theorem iC (c:UInt8) (l:Bs):Lib.index (c::l) [c]=0:=by unfold Lib.index;simp
theorem jp {b c:UInt8} (h:b≠c) (l:Bs):Lib.index (b::l) [c]=if Lib.index l [c]= -1 then -1 else Lib.index l [c]+1:=by
 have D:([c]:Bs).isPrefixOf (b::l)=false:=by
  simp only[List.isPrefixOf,Bool.and_true,beq_eq_false_iff_ne];exact fun e=>h e.symm
 conv=>lhs;unfold Lib.index
 rw[D];simp
theorem qH (c:UInt8):∀ s:Bs,Lib.splitK [c] 0 (Lib.count s [c]) s=ax c s
 | []=>by rw[Lib.count_miss (by rfl)];rfl
 | b::l=>by
  have ih:=qH c l;unfold ax;by_cases D:b=c
  ·subst D
   rw[if_pos rfl,Lib.count_hit (i:=0) (by simp) (iC b l),Nat.add_comm];simp only[Fv,List.length_nil,Nat.zero_add,List.drop_succ_cons,List.drop_zero];rw[←ih];conv=>lhs;unfold Lib.splitK
   rw[iC];simp
  rw[if_neg D];have H:=jp D l;rcases Lib.index_spec l [c] with ⟨h,_⟩|⟨i,h,I,_,_⟩
  ·rw[if_pos h] at H
   rw[Lib.count_miss H];rw[Lib.count_miss h] at ih;rw[←ih];rfl
  rw[if_neg (by omega),h] at H;have hp':Lib.index (b::l) [c]=((i+1:Nat):Int):=by omega
  rw[Lib.count_hit (by simp) hp',Nat.add_comm];rw[Lib.count_hit (by simp) h,Nat.add_comm] at ih;simp only[Fv,List.length_nil,Nat.zero_add,List.drop_succ_cons] at ih ⊢;conv at ih=>lhs;unfold Lib.splitK
  conv=>lhs;unfold Lib.splitK
  rw[hp',if_neg (by rw[beq_iff_eq];omega)];rw[h,if_neg (by rw[beq_iff_eq];omega)] at ih;rw[←ih];simp[show ((i:Int)+1).toNat=i+1 by omega]
theorem wL (c:UInt8):∀ s:Bs,(Lib.cut s [c]).1=(fT c s).1∧(Lib.cut s [c]).2.1=(fT c s).2
 | []=>by unfold Lib.cut;exact ⟨rfl,rfl⟩
 | b::l=>by
  have ih:=wL c l;unfold fT;by_cases H:b=c
  ·subst H
   rw[if_pos rfl];unfold Lib.cut;rw[iC];simp
  rw[if_neg H];have D:=jp H l;unfold Lib.cut at ih ⊢;rcases Lib.index_spec l [c] with ⟨h,_⟩|⟨i,h,I,_,_⟩
  ·rw[if_pos h] at D
   rw[D,if_neg (by decide)];rw[h,if_neg (by decide)] at ih;exact ⟨by rw[←ih.1],ih.2⟩
  rw[if_neg (by omega),h] at D;rw[D,if_pos (by omega)];rw[h,if_pos (by omega)] at ih;simp only[show ((i:Int)+1).toNat=i+1 by omega,Int.toNat_natCast,Fv,List.length_nil,Nat.zero_add,List.take_succ_cons,List.drop_succ_cons] at ih ⊢;exact ⟨by rw[ih.1],ih.2⟩
theorem yv (c:UInt8) (s:Bs):ax c s≠[]:=by
 cases s with
 | nil=>simp[ax]
 | cons b l =>
  unfold ax;split
  ·simp
  split<;>simp
theorem eJ (c:UInt8):∀ s:Bs,(ax c s).length≤s.length+1∧1≤(ax c s).length∧∀ u∈ax c s,u.length≤s.length
 | []=>by unfold ax;exact ⟨Fm _,Fm _,fun u D=>by simp at D;rw[D];exact Fm _⟩
 | b::l=>by
  obtain ⟨M,J,H⟩:=eJ c l;unfold ax;split
  ·refine ⟨by simp;omega,by simp,fun u D=>?_⟩
   rcases List.mem_cons.1 D with rfl|D
   ·simp
   have:=H u D;simp;omega
  split
  ·rename_i h t I
   rw[I] at M H;refine ⟨by simp at *;omega,by simp,fun u D=>?_⟩;rcases List.mem_cons.1 D with rfl|D
   ·have:=H h (List.mem_cons_self ..);simp;omega
   have:=H u (List.mem_cons_of_mem _ D);simp;omega
  rename_i I;rw[I] at J;simp at J
theorem oG (c:UInt8):∀ s:Bs,(fT c s).1.length≤s.length∧(fT c s).2.length≤s.length
 | []=>⟨Fm _,Fm _⟩
 | b::l=>by
  obtain ⟨D,h⟩:=oG c l;unfold fT;split
  ·exact ⟨by simp,by simp⟩
  exact ⟨by simp;omega,by simp;omega⟩
theorem Ap:∀ l:List ByteArray,l.map Value.string=strs (l.map (·.data.toList))
 | []=>rfl
 | b::l=>by
  have ih:=Ap l;unfold strs at *;simp only[List.map_cons];rw[ih];rfl
theorem vh (c:UInt8) (s:Bs):(Lib.splitB ⟨#[c]⟩ 0 (Lib.countB (bs s) ⟨#[c]⟩) (bs s)).map Value.string=strs (ax c s):=by
 rw[Ap,Lib.splitB_data,←qH];rfl
theorem oH (c:UInt8):∀ s:Bs,Lib.count s [c]+1=(ax c s).length
 | []=>by rw[Lib.count_miss (by rfl)];rfl
 | b::l=>by
  have ih:=oH c l;unfold ax;by_cases H:b=c
  ·subst H
   rw[if_pos rfl,Lib.count_hit (i:=0) (by simp) (iC b l)];simp;omega
  rw[if_neg H];have I:=jp H l;have M:Lib.count (b::l) [c]=Lib.count l [c]:=by
   rcases Lib.index_spec l [c] with ⟨D,_⟩|⟨i,D,N,_,_⟩
   ·rw[if_pos D] at I
    rw[Lib.count_miss I,Lib.count_miss D]
   rw[if_neg (by omega),D] at I;have hp':Lib.index (b::l) [c]=((i+1:Nat):Int):=by omega
   rw[Lib.count_hit (by simp) hp',Lib.count_hit (by simp) D];simp
  rw[M];split
  ·rename_i h t J
   rw[J] at ih;simpa using ih
  rename_i J;exact absurd J (yv c l)
theorem yx (c:UInt8) (s:Bs) (M:s.length≤1000000000) (w:World) (H:gG w) :
  Calls Tryz.prog 45 #[FC (bs s),FC ⟨#[c]⟩] w fun e w'=>e=FF (FD (some ⟨w.heap.size,0,none⟩) (ax c s).length (ax c s).length)∧Rd w' [] 1 (some ⟨w.heap.size,0,none⟩) (ax c s).length (strs (ax c s))∧aa [] w w':=by
 obtain ⟨m,I⟩:=H.mlen;refine (Tryz.strings_Split (bs s) ⟨#[c]⟩ m w (by rw[ag];omega) I (Fm 1)).mono ?_;rintro e w' ⟨rfl,rfl⟩;have D:Lib.countB (bs s) ⟨#[c]⟩+1=(ax c s).length:=oH c s;rw[D];refine ⟨rfl,?_,(Fz _ _).alloc _⟩;rw[vh];refine ⟨by rw[jd,Nat.mul_one],fun _=>⟨_,rfl,by simp,by simp,fun j u J=>?_⟩⟩;have h:=(FA w 9 (strs (ax c s)).toArray).cell j;rw[cI,Nat.zero_add];rw[h];simpa using J
theorem tt (c:UInt8) (s:Bs) (M:s.length≤1000000000) (w:World) (I:gG w) :
  Calls Tryz.prog 45 #[FC (bs s),FC ⟨#[c]⟩] w fun e w'=>∃ b o,e=FF (FD (some ⟨b,o,none⟩) (ax c s).length (ax c s).length)∧w.heap.size≤b∧b<w'.heap.size∧(∀ j u,(strs (ax c s))[j]? = some u→w'.cell? ⟨b,o+j,none⟩=some u)∧aa [] w w':=by
 refine (yx c s M w I).mono ?_;rintro e w' ⟨rfl,h,J⟩;obtain ⟨b,o,D,_,H,N⟩:=h.open' (eJ c s).2.1 (by decide);exact ⟨b,o,by rw[D],by injection D with D;injection D with D;omega,H,N,J⟩
theorem Aw (c:UInt8) (s:Bs) (I:s.length≤1000000000) (w:World) (D:gG w) :
  Calls Tryz.prog 47 #[FC (bs s),FC ⟨#[c]⟩] w fun e w'=>(∃ b,e=FF (.tuple #[FC (bs (fT c s).1),FC (bs (fT c s).2),.bool b]))∧aa [] w w':=by
 obtain ⟨m,H⟩:=D.mlen;refine (Tryz.strings_Cut (bs s) ⟨#[c]⟩ m w (by rw[ag];omega) H).mono ?_;rintro e w' ⟨rfl,n,rfl⟩;have h:=wL c s;refine ⟨⟨(Lib.cut s [c]).2.2,?_⟩,(Fz _ _).drewN _⟩;rw[←h.1,←h.2];rfl
end
section
open Go.RowKit
attribute [local go_sem] ag ab ae af
def oI (k:Bs):Int:=if k=[] then 0 else if k=[105,110,116] then 1 else if k=[116,101,120,116] then 2 else -1
theorem AA (k:Bs):max (oI k) 0=(EV k:Int):=by
 unfold oI EV;by_cases h:k=[]
 ·subst h;rfl
 rw[if_neg h];split
 ·rfl
 split<;>rfl
theorem Ce {k:Bs} (j:Nat) (D:j<3) (h:k=eP j):oI k=(j:Int):=by
 subst h
 match j,D with
 | 0,_=>rfl
 | 1,_=>rfl
 | 2,_=>rfl
theorem yz {k:Bs} (h:∀ j,j<3→(k==eP j)=false):oI k= -1:=by
 have D:¬k=[]:=fun e=>by have:=h 0 (by omega);rw[e] at this;exact absurd this (by decide)
 have I:¬k=[105,110,116]:=fun e=>by have:=h 1 (by omega);rw[e] at this;exact absurd this (by decide)
 have H:¬k=[116,101,120,116]:=fun e=>by have:=h 2 (by omega);rw[e] at this;exact absurd this (by decide)
 unfold oI;rw[if_neg D,if_neg I,if_neg H]
theorem tu (k:Bs) (w:World) (M:∀ j,j<3→w.cell? ⟨0,j,none⟩=some (FC (bs (eP j)))) :
  Calls Tryz.prog 48 #[FD (some ⟨0,0,none⟩) 3 3,FC (bs k)] w fun e w'=>e=FF (FH FI (oI k))∧w=w':=by
 have O:=Fk M;clear M;go_enter Tryz.func48,Tryz.ntmps48
 go_wp2;go_loop [8] (fun i=>∃ n:Nat,n≤3∧i=FH FI n∧Hid (∀ j,j<n→(k==eP j)=false)) (fun i=>3-(intOf i).toNat)
 case atStart=>exact ⟨0,Fu _,rfl,fun j J=>absurd J (by omega)⟩
 obtain ⟨n,Z,rfl,I⟩:=hrel;by_cases H:n<3
 ·have V:=O.out n H
  have hlt':(n:Int)<3:=by omega
  cases N:(k==eP n) with
  | true =>
   have D:oI k=(n:Int):=Ce n H (by simpa using N);have U:=Fk D;generalize eP n=kw at *;clear D;go_wp2;go_ret;exact ⟨by rw[U.out];rfl,rfl⟩
  | false =>
   have hno':Hid (∀ j,j<n+1→(k==eP j)=false):=fun j J=>by
    by_cases h:j<n
    ·exact I j h
    obtain rfl:j=n:=by omega
    exact N
   generalize eP n=kw at *;go_wp2;go_round
   case rel=>exact ⟨n+1,by omega,by go_num,hno'⟩
   case measure=>simp[intOf];omega
 obtain rfl:n=3:=by omega
 have D:Hid (oI k= -1):=yz fun j J=>I j J
 go_wp2;go_ret;exact ⟨by rw[D.out];rfl,rfl⟩
theorem rN (k:Bs) (w:World) (h:gG w) :
  Calls Tryz.prog 48 #[FD (some ⟨0,0,none⟩) 3 3,FC (bs k)] w fun e w'=>e=FF (FH FI (oI k))∧aa [] w w':=by
 refine (tu k w h.kinds).mono ?_;rintro e w' ⟨rfl,rfl⟩;exact ⟨rfl,Fz _ _⟩
theorem l8 (s:Bs):∀ k,(ef s k).2.1≤k∧(ef s k).1.length≤k
 | 0=>⟨Fm _,Fm _⟩
 | k+1=>by
  have ih:=l8 s k;unfold ef;simp only;split
  ·exact ⟨by simp only;omega,by simp only;omega⟩
  split
  ·exact ⟨Fm _,by simp;omega⟩
  omega
theorem tw (s:Bs):∀ k,∀ u∈(ef s k).1,u.length≤s.length
 | 0,u,h=>by cases h
 | k+1,u,h=>by
  have ih:=tw s k;unfold ef at h;simp only at h;split at h
  ·exact ih u h
  split at h
  ·rcases List.mem_append.1 h with h|h
   ·exact ih u h
   rw[List.mem_singleton] at h;subst h;rw[List.length_drop,Fw];omega
  exact ih u h
theorem AB (s:Bs):∀ u∈fU s,u.length≤s.length:=fun u h=>by
 unfold fU at h;rcases List.mem_append.1 h with h|h
 ·exact tw s _ u h
 rw[List.mem_singleton] at h;subst h;rw[List.length_drop];omega
theorem Cf (s:Bs) (hs:s.length≤1000000) (w:World) :
  Calls Tryz.prog 49 #[FC (bs s)] w fun e w'=>∃ A c,e=FF (FD A (fU s).length c)∧w'.ownsRow w.heap.size 9 1 (FD A (fU s).length c) (fU s).length (strs (fU s))∧aa [] w w':=by
 obtain ⟨i0,hi,be,bc,a8⟩:=info_parts C5;go_enter Tryz.func49,Tryz.ntmps49
 go_wp2;go_loopw [3,4,5,9] (fun v f q i wr=>∃ n:Nat,n≤s.length∧i=FH FI n∧f=FH FI ((ef s n).2.1:Nat)∧q= .bool (ef s n).2.2∧wr.ownsRow w.heap.size 9 1 v (ef s n).1.length (strs (ef s n).1)∧aa [] w wr) (fun _ _ _ i _=>s.length-(intOf i).toNat)
 case atStart=>exact ⟨0,Fu _,rfl,rfl,rfl,World.ownsRow_nil _ _ _ _,Fz _ _⟩
 obtain ⟨n,hn,rfl,rfl,rfl,M,hk⟩:=hrel;have a2:=l8 s n;by_cases a6:n<s.length
 ·have hg:s.getD n 0=s[n]:=by rw[Fy,Fp a6];rfl
  have D:ef s (n+1)=(if s[n]=39 then ((ef s n).1,(ef s n).2.1,!(ef s n).2.2) else if s[n]=32 && !(ef s n).2.2 then ((ef s n).1++[(s.take n).drop (ef s n).2.1],n+1,(ef s n).2.2) else ef s n):=by
   conv=>lhs;unfold ef
   simp only[hg]
  generalize a4:ef s n=r at *;obtain ⟨o,f,q⟩:=r;simp only at a2 D M;have bm:((bs s)[n]'(by rw[ag];exact a6))=s[n]:=iR s n _;generalize s[n]=b at *;have V:b=39↔(b.toNat:Int)=39:=⟨fun h=>by rw[h];rfl,fun h=>UInt8.toNat_inj.1 (by have:(39:UInt8).toNat=39:=rfl;omega)⟩;have U:b=32↔(b.toNat:Int)=32:=⟨fun h=>by rw[h];rfl,fun h=>UInt8.toNat_inj.1 (by have:(32:UInt8).toNat=32:=rfl;omega)⟩;have HO:=Fk M;have HK:=Fk hk;clear M hk hg a4;by_cases N:b=39
  ·rw[if_pos N] at D
   have t1:((b.toNat:Int)==39)=true:=by rw[beq_iff_eq];exact V.1 N
   have H:=Fk D;clear D V U N;go_wp2;go_roundw
   case rel=>exact ⟨n+1,by omega,by go_num,by rw[H.out],by rw[H.out],by rw[H.out];exact HO.out,HK.out⟩
   case measure=>simp[intOf];omega
  rw[if_neg N] at D;have t1:((b.toNat:Int)==39)=false:=by rw[beq_eq_false_iff_ne];exact fun h=>N (V.2 h)
  by_cases O:b=32
  ·have t2:((b.toNat:Int)==32)=true:=by rw[beq_iff_eq];exact U.1 O
   cases q with
   | true =>
    rw[if_neg (by simp)] at D;have H:=Fk D;clear D V U N O;go_wp2;go_roundw
    case rel=>exact ⟨n+1,by omega,by go_num,by rw[H.out],by rw[H.out],by rw[H.out];exact HO.out,HK.out⟩
    case measure=>simp[intOf];omega
   | false =>
    rw[if_pos (by simp[O])] at D;have H:=Fk D;have bk:=fun W=>jG (P:=Tryz.prog) Tryz.underlying9 s f n a2.1 hn W
    have av:=Fk (show o.length+1≤maxLen∧(o.length+1)*16≤140737488355328 by simp only[maxLen];omega);have a1:=Fk (show w.heap.size≤wr.heap.size+1 from Nat.le_succ_of_le HK.out.size);clear D V U N O;go_wp2_with (at_builtin;refine wpList_append_lies _ rfl _ _ 44 rfl _ 9 i0 _ 1 16 Tryz.underlying44 hi be bc a8 rfl (by decide) _ o.length (strs o) rfl (HO.out.alloc _) ⟨wr.heap.size,0,none⟩ 1 1 [FC (bs ((s.take n).drop f))] rfl rfl (Fx (heap_alloc_new _ _)) (by simp[Value.oneCell']) (by decide) av.out.1 av.out.2 (by simp;exact a1.out) _ rfl ?_;intro gw a0 w8 I J ad Z)
    have a5:=Fk ((HK.out.alloc _).grown J (fun g hg=> .inr (HO.out.lt g hg).1));rw[←fB] at I;have a3:=Fk I;have a9:(o++[(s.take n).drop f]).length=o.length+1:=by simp
    have bj:=Fk a9;clear I J ad Z a9 bk;go_wp2;go_roundw
    case rel=>exact ⟨n+1,by omega,by go_num,by rw[H.out];show Value.int IntKind.i64 ((n:Int)+1)=FH FI ((n+1:Nat):Int);go_num,by rw[H.out],by rw[H.out];simp only;rw[bj.out];exact a3.out,a5.out⟩
    case measure=>simp[intOf];omega
  rw[if_neg (by simp[O])] at D;have t2:((b.toNat:Int)==32)=false:=by rw[beq_eq_false_iff_ne];exact fun h=>O (U.2 h)
  have H:=Fk D;clear D V U N O;go_wp2;go_roundw
  case rel=>exact ⟨n+1,by omega,by go_num,by rw[H.out],by rw[H.out],by rw[H.out];exact HO.out,HK.out⟩
  case measure=>simp[intOf];omega
 obtain rfl:n=s.length:=by omega
 have aA:fU s=(ef s s.length).1++[s.drop (ef s s.length).2.1]:=rfl;generalize a4:ef s s.length=r at *;obtain ⟨o,f,q⟩:=r;simp only at a2 M aA;have HCL:=Fk aA;have ba:(fU s).length=o.length+1:=by rw[aA];simp
 have a7:=Fk ba;have HO:=Fk M;have HK:=Fk hk;have av:=Fk (show o.length+1≤maxLen∧(o.length+1)*16≤140737488355328 by simp only[maxLen];omega);have a1:=Fk (show w.heap.size≤wr.heap.size+1 from Nat.le_succ_of_le HK.out.size);have bq:(f:Int)≤(s.length:Int):=by omega
 have bb:(s.take s.length).drop f=s.drop f:=by rw[List.take_of_length_le (Fm _)]
 have bo:=Fk bb;clear M hk aA a4 ba bb;go_wp2_with (at_builtin;refine wpList_append_lies _ rfl _ _ 44 rfl _ 9 i0 _ 1 16 Tryz.underlying44 hi be bc a8 rfl (by decide) _ o.length (strs o) rfl (HO.out.alloc _) ⟨wr.heap.size,0,none⟩ 1 1 [FC (bs (s.drop f))] rfl rfl (Fx (heap_alloc_new _ _)) (by simp[Value.oneCell']) (by decide) av.out.1 av.out.2 (by simp;exact a1.out) _ rfl ?_;intro gw a0 w8 I J ad Z)
 have a5:=Fk ((HK.out.alloc _).grown J (fun g hg=> .inr (HO.out.lt g hg).1));rw[←fB,←HCL.out] at I;have a3:=Fk I;clear I J ad Z;go_ret;exact ⟨some ⟨gw,0,none⟩,a0,by rw[a7.out];rfl,by rw[a7.out];exact a3.out,a5.out⟩
end
section
open Go.RowKit Go.Sort
attribute [local go_sem] ag ab ae af
theorem AC (s:Bs) (D:s.length≤1000000000) (w:World) (h:gG w) :
  (∃ v,Lib.atoiAll s= .ok v∧dX v∧Calls Tryz.prog 83 #[FC (bs s)] w fun e w'=>e=FF (.tuple #[FH FI v,.nilIface])∧aa [] w w') ∨
  ((∀ v,Lib.atoiAll s≠ .ok v)∧Calls Tryz.prog 83 #[FC (bs s)] w fun e w'=>(∃ n t p,e=FF (.tuple #[FH FI n,.iface t p]))∧aa [] w w'):=nQ s D w h.esyn h.erng
def EE:Value:= .agg #[FH FI 0,FH FI 0,FC (bs [])]
def AE:Option Vl→Value
 | some v=> .tuple #[fV v,.nilIface]
 | none=> .tuple #[EE,.iface 37 (FH FI 3)]
theorem tz (s:Bs) (hs:s.length≤1000000000) (w:World) (N:ew s=true) :
  Calls Tryz.prog 50 #[FC (bs s)] w fun e w'=>e=FF (AE (pM s))∧aa [] w w':=by
 have J:pM s=if eO ⟨2,0,(s.take (s.length-1)).drop 1⟩ then some ⟨2,0,(s.take (s.length-1)).drop 1⟩ else none:=by
  unfold pM Es;rw[if_pos N]
 rw[J];unfold ew at N;simp only[Bool.and_eq_true,decide_eq_true_eq] at N;obtain ⟨⟨h2,Z⟩,M⟩:=N;have ad:0<(bs s).size:=by rw[ag];omega
 have g0:((bs s)[0]'ad)=39:=by
  rw[iR];rw[Fy,Fp (by omega)] at Z;exact Z
 obtain ⟨k,hk,hk'⟩:∃ k,s.length-1=k∧k+1=s.length:=⟨s.length-1,rfl,by omega⟩
 rw[hk] at M ⊢;have U:k<(bs s).size:=by rw[ag];omega
 have g1:((bs s)[k]'U)=39:=by
  rw[iR];rw[Fy,Fp (by omega)] at M;exact M
 have e1:(s.length:Int)-1=(k:Int):=by omega
 have l2:(2:Int)≤(s.length:Int):=by omega
 have l3:(1:Int)≤(k:Int):=by omega
 have l4:(k:Int)<(s.length:Int):=by omega
 have aA:∀ W,(Instr.slice 9 (FC (bs s)) (some (FH FI 1)) (some (FH FI (k:Int))) none).run Tryz.prog W= .ok (FC (bs ((s.take k).drop 1))) W:=fun W=>jG (P:=Tryz.prog) Tryz.underlying9 s 1 k (by omega) (by omega) W
 have D:=fun W=>cp ⟨2,0,(s.take k).drop 1⟩ W
 generalize (s.take k).drop 1=u at *;have av:(((39:UInt8).toNat:Int)==39)=true:=rfl;clear Z M h2 hk J;have HK':=Fk hk';clear hk'
 cases O:eO ⟨2,0,u⟩ with
 | true =>
  rw[O] at D;have H:=Fk D;clear D O;show Calls _ _ _ _ fun e w'=>e=FF (.tuple #[.agg #[FH FI 2,FH FI 0,FC (bs u)],.nilIface])∧aa [] w w'
  go_enter Tryz.func50,Tryz.ntmps50
  go_wp2_with (go_at_call 28;refine (H.out _).mono ?_;rintro e I ⟨rfl,h⟩;have c0:=h.cell_of (p:=⟨w.heap.size,0,none⟩) (v:=FH FI 0) (by simp) (by simp);have V:=h.cell_of (p:=⟨w.heap.size,1,none⟩) (v:=FH FI 0) (by simp) (by simp);have c2:=h.cell_of (p:=⟨w.heap.size,2,none⟩) (v:=FC ⟨#[]⟩) (by simp) (by simp);have f0:I.frozen? ⟨w.heap.size,0,none⟩=false:=(h.frozen (p:=⟨w.heap.size,0,none⟩) (by simp;omega) (by simp)).trans (by simp);have f1:I.frozen? ⟨w.heap.size,1,none⟩=false:=(h.frozen (p:=⟨w.heap.size,1,none⟩) (by simp;omega) (by simp)).trans (by simp);have f2:I.frozen? ⟨w.heap.size,2,none⟩=false:=(h.frozen (p:=⟨w.heap.size,2,none⟩) (by simp;omega) (by simp)).trans (by simp);have d0:=h.cell_of (p:=⟨w.heap.size+1,0,none⟩) (v:=FH FI 2) (by simp) (by simp);have d1:=h.cell_of (p:=⟨w.heap.size+1,1,none⟩) (v:=FH FI 0) (by simp) (by simp);have d2:=h.cell_of (p:=⟨w.heap.size+1,2,none⟩) (v:=FC (bs u)) (by simp) (by simp))
  refine bodyPost_ret (v:= .tuple #[.agg #[FH FI 2,FH FI 0,FC (bs u)],.nilIface]) (by simp[results,Tryz.results50,go_sem,c0,V,c2]) rfl ⟨rfl,?_⟩;refine aa.setCell (aa.setCell (aa.setCell (aa.trans ?_ h) (.inr (Fm _)) _) (.inr (Fm _)) _) (.inr (Fm _)) _;repeat first|exact Fz _ _|refine aa.alloc ?_ _|refine aa.setCell ?_ (.inr (by simp)) _
 | false =>
  rw[O] at D;have H:=Fk D;clear D O;show Calls _ _ _ _ fun e w'=>e=FF (.tuple #[.agg #[FH FI 0,FH FI 0,FC (bs [])],.iface 37 (FH FI 3)])∧aa [] w w'
  go_enter Tryz.func50,Tryz.ntmps50
  go_wp2_with (go_at_call 28;refine (H.out _).mono ?_;rintro e I ⟨rfl,h⟩;have c0:=h.cell_of (p:=⟨w.heap.size,0,none⟩) (v:=FH FI 0) (by simp) (by simp);have V:=h.cell_of (p:=⟨w.heap.size,1,none⟩) (v:=FH FI 0) (by simp) (by simp);have c2:=h.cell_of (p:=⟨w.heap.size,2,none⟩) (v:=FC ⟨#[]⟩) (by simp) (by simp);have f0:I.frozen? ⟨w.heap.size,0,none⟩=false:=(h.frozen (p:=⟨w.heap.size,0,none⟩) (by simp;omega) (by simp)).trans (by simp);have f1:I.frozen? ⟨w.heap.size,1,none⟩=false:=(h.frozen (p:=⟨w.heap.size,1,none⟩) (by simp;omega) (by simp)).trans (by simp);have f2:I.frozen? ⟨w.heap.size,2,none⟩=false:=(h.frozen (p:=⟨w.heap.size,2,none⟩) (by simp;omega) (by simp)).trans (by simp);have d0:=h.cell_of (p:=⟨w.heap.size+1,0,none⟩) (v:=FH FI 2) (by simp) (by simp);have d1:=h.cell_of (p:=⟨w.heap.size+1,1,none⟩) (v:=FH FI 0) (by simp) (by simp);have d2:=h.cell_of (p:=⟨w.heap.size+1,2,none⟩) (v:=FC (bs u)) (by simp) (by simp))
  refine bodyPost_ret (v:= .tuple #[.agg #[FH FI 0,FH FI 0,FC (bs [])],.iface 37 (FH FI 3)]) (by simp[results,Tryz.results50,go_sem,c0,V,c2];try rfl) rfl ⟨rfl,?_⟩;refine aa.setCell (aa.setCell (aa.setCell (aa.trans ?_ h) (.inr (Fm _)) _) (.inr (Fm _)) _) (.inr (Fm _)) _;repeat first|exact Fz _ _|refine aa.alloc ?_ _|refine aa.setCell ?_ (.inr (by simp)) _
theorem vk {s:Bs} (h:ew s=false):s.length<2∨(∃ I:0<(bs s).size,(2:Int)≤(s.length:Int)∧((((bs s)[0]'I).toNat:Int)==39)=false) ∨
  (∃ (I:0<(bs s).size) (k:Nat) (D:k<(bs s).size),(2:Int)≤(s.length:Int)∧(s.length:Int)-1=(k:Int)∧((((bs s)[0]'I).toNat:Int)==39)=true∧((((bs s)[k]'D).toNat:Int)==39)=false):=by
 by_cases M:s.length<2
 ·exact .inl M
 right
 have I:0<(bs s).size:=by rw[ag];omega
 have H:∀ (k:Nat) (D:k<(bs s).size),((((bs s)[k]'D).toNat:Int)==39)=decide (s.getD k 0=39):=fun k D=>by
  have hk':k<s.length:=by rw[ag] at D;exact D
  rw[iR,Fy,Fp hk',Option.getD_some,Bool.eq_iff_iff,beq_iff_eq,decide_eq_true_iff];constructor
  ·intro h;exact UInt8.toNat_inj.1 (by have:(39:UInt8).toNat=39:=rfl;omega)
  intro h;rw[h];rfl
 unfold ew at h;rw[decide_eq_true (show 2≤s.length by omega),Bool.true_and,Bool.and_eq_false_iff] at h;by_cases J:s.getD 0 0=39
 ·right
  have D:s.length-1<(bs s).size:=by rw[ag];omega
  refine ⟨I,s.length-1,D,by omega,by omega,by rw[H,decide_eq_true J],?_⟩;rw[H];rcases h with h|h
  ·rw[decide_eq_true J] at h;cases h
  exact h
 left
 exact ⟨I,by omega,by rw[H,decide_eq_false J]⟩
theorem vl (s:Bs) (hs:s.length≤1000000000) (w:World) (hE:gG w) (hq:ew s=false) :
  Calls Tryz.prog 50 #[FC (bs s)] w fun e w'=>e=FF (AE (pM s))∧aa [] w w':=by
 have N:pM s=match (match Lib.atoiAll s with | .ok n=>if Lib.itoa n=s then some (⟨1,n,[]⟩:Vl) else none|_=>none) with|some v=>if eO v then some v else none|none=>none:=by
  unfold pM Es;rw[hq];rfl
 have ad:=fun W (q:aa [] w W)=>AC s hs W (hE.quiet q)
 have HE:=Fk hE;have HQ:=Fk (vk hq);clear hE hq;have I:=Fk (((Fz [] w).alloc (FG #[FH FI 0,FH FI 0,FC ⟨#[]⟩] 46)).alloc (FG #[FH FI 2,FH FI 0,FC ⟨#[]⟩] 46));have aA:=Fk ((FA w 46 #[FH FI 0,FH FI 0,FC ⟨#[]⟩]).alloc (FG #[FH FI 2,FH FI 0,FC ⟨#[]⟩] 46));have a1:=FA (w.alloc (FG #[FH FI 0,FH FI 0,FC ⟨#[]⟩] 46)) 46 #[FH FI 2,FH FI 0,FC ⟨#[]⟩];rw[show (w.alloc (FG #[FH FI 0,FH FI 0,FC ⟨#[]⟩] 46)).heap.size=w.heap.size+1 from Array.size_push _] at a1;have a4:=Fk a1;clear a1;rcases ha:Lib.atoiAll s with n|_|_
 ·
  rw[ha] at N;have a2:=rl ha;have J:∀ W (_:aa [] w W),Calls Tryz.prog 83 #[FC (bs s)] W fun e w'=>e=FF (.tuple #[FH FI n,.nilIface])∧aa [] W w':=fun W q=>by
   rcases ad W q with ⟨v,Z,h2,h3⟩|⟨Z,h3⟩
   ·rw[ha] at Z;injection Z with Z;subst Z;exact h3
   exact absurd ha (Z n)
  have a5:∀ W (_:aa [] w W),Calls Tryz.prog 84 #[FH FI n] W fun e w'=>e=FF (FC (bs (Lib.itoa n)))∧aa [] W w':=fun W q=>by
   refine (Tryz.strconv_Itoa n a2.1 a2.2 W (HE.out.quiet q).p10).mono ?_;rintro e w' ⟨rfl,k2,os,rfl⟩;exact ⟨rfl,((Fz _ _).drewN _).trans (nA _ _)⟩
  have U:=Fk J;have a0:=Fk a5;clear ad J a5 ha a2;by_cases hi:Lib.itoa n=s
  ·have H:pM s=if eO ⟨1,n,[]⟩ then some ⟨1,n,[]⟩ else none:=by rw[N];simp only[if_pos hi]
   rw[H];have av:=fun W=>cp ⟨1,n,[]⟩ W
   have a6:(Lib.itoa n==s)=true:=by rw[beq_iff_eq];exact hi
   clear N H hi
   cases hr:eO ⟨1,n,[]⟩ with
   | true =>
    rw[hr] at av;have a3:=Fk av;clear av hr;show Calls _ _ _ _ fun e w'=>e=FF (.tuple #[.agg #[FH FI 1,FH FI n,FC (bs [])],.nilIface])∧aa [] w w'
    rcases HQ.out with l2|⟨h0,l2,b0⟩|⟨h0,k,hk,l2,e1,b0,b1⟩
    all_goals
     go_enter Tryz.func50,Tryz.ntmps50
     go_wp2_with (first|(go_at_call 83;refine (U.out _ I.out).mono ?_;rintro e w6 ⟨rfl,h⟩)|(go_at_call 84;refine (a0.out _ (I.out.trans h)).mono ?_;rintro e O ⟨rfl,M⟩;have D:=(aA.out.keep h (by simp)).keep M (by simp);have B1:=(a4.out.keep h (by simp)).keep M (by simp);have c0:O.cell? ⟨w.heap.size,0,none⟩=some (FH FI 0):=D.cell 0;have c1:O.cell? ⟨w.heap.size,1,none⟩=some (FH FI 0):=D.cell 1;have c2:O.cell? ⟨w.heap.size,2,none⟩=some (FC ⟨#[]⟩):=D.cell 2;have f0:=D.frozen 0;have f1:=D.frozen 1;have f2:=D.frozen 2;have d0:O.cell? ⟨w.heap.size+1,0,none⟩=some (FH FI 2):=B1.cell 0;have d1:O.cell? ⟨w.heap.size+1,1,none⟩=some (FH FI 0):=B1.cell 1;have d2:O.cell? ⟨w.heap.size+1,2,none⟩=some (FC ⟨#[]⟩):=B1.cell 2;have g0:=B1.frozen 0;have g1:=B1.frozen 1;have g2:=B1.frozen 2)|(go_at_call 28;refine (a3.out _).mono ?_;rintro e w8 ⟨rfl,V⟩;have B0':=((((D.far (p:=⟨w.heap.size+1,0,none⟩) (by simp) (FH FI 1)).far (p:=⟨w.heap.size+1,1,none⟩) (by simp) (FH FI n)).far (p:=⟨w.heap.size+1,2,none⟩) (by simp) (FC ⟨#[]⟩)).keep V (by simp));have x0:w8.cell? ⟨w.heap.size,0,none⟩=some (FH FI 0):=B0'.cell 0;have x1:w8.cell? ⟨w.heap.size,1,none⟩=some (FH FI 0):=B0'.cell 1;have x2:w8.cell? ⟨w.heap.size,2,none⟩=some (FC ⟨#[]⟩):=B0'.cell 2;have y0:=B0'.frozen 0;have y1:=B0'.frozen 1;have y2:=B0'.frozen 2;have z:=(((B1.set 0 (FH FI 1)).set 1 (FH FI n)).set 2 (FC ⟨#[]⟩)).keep V (by simp);have z0:w8.cell? ⟨w.heap.size+1,0,none⟩=some (FH FI 1):=z.cell 0;have z1:w8.cell? ⟨w.heap.size+1,1,none⟩=some (FH FI n):=z.cell 1;have z2:w8.cell? ⟨w.heap.size+1,2,none⟩=some (FC ⟨#[]⟩):=z.cell 2))
     refine bodyPost_ret (v:= .tuple #[.agg #[FH FI 1,FH FI n,FC (bs [])],.nilIface]) (by simp[results,Tryz.results50,go_sem,x0,x1,x2];try rfl) rfl ⟨rfl,?_⟩;refine aa.setCell (aa.setCell (aa.setCell ?_ (.inr (Fm _)) _) (.inr (Fm _)) _) (.inr (Fm _)) _;exact aa.trans (aa.setCell (aa.setCell (aa.setCell ((I.out.trans h).trans M) (.inr (Nat.le_succ _)) _) (.inr (Nat.le_succ _)) _) (.inr (Nat.le_succ _)) _) V
   | false =>
    rw[hr] at av;have a3:=Fk av;clear av hr;show Calls _ _ _ _ fun e w'=>e=FF (.tuple #[.agg #[FH FI 0,FH FI 0,FC (bs [])],.iface 37 (FH FI 3)])∧aa [] w w'
    rcases HQ.out with l2|⟨h0,l2,b0⟩|⟨h0,k,hk,l2,e1,b0,b1⟩
    all_goals
     go_enter Tryz.func50,Tryz.ntmps50
     go_wp2_with (first|(go_at_call 83;refine (U.out _ I.out).mono ?_;rintro e w6 ⟨rfl,h⟩)|(go_at_call 84;refine (a0.out _ (I.out.trans h)).mono ?_;rintro e O ⟨rfl,M⟩;have D:=(aA.out.keep h (by simp)).keep M (by simp);have B1:=(a4.out.keep h (by simp)).keep M (by simp);have c0:O.cell? ⟨w.heap.size,0,none⟩=some (FH FI 0):=D.cell 0;have c1:O.cell? ⟨w.heap.size,1,none⟩=some (FH FI 0):=D.cell 1;have c2:O.cell? ⟨w.heap.size,2,none⟩=some (FC ⟨#[]⟩):=D.cell 2;have f0:=D.frozen 0;have f1:=D.frozen 1;have f2:=D.frozen 2;have d0:O.cell? ⟨w.heap.size+1,0,none⟩=some (FH FI 2):=B1.cell 0;have d1:O.cell? ⟨w.heap.size+1,1,none⟩=some (FH FI 0):=B1.cell 1;have d2:O.cell? ⟨w.heap.size+1,2,none⟩=some (FC ⟨#[]⟩):=B1.cell 2;have g0:=B1.frozen 0;have g1:=B1.frozen 1;have g2:=B1.frozen 2)|(go_at_call 28;refine (a3.out _).mono ?_;rintro e w8 ⟨rfl,V⟩;have B0':=((((D.far (p:=⟨w.heap.size+1,0,none⟩) (by simp) (FH FI 1)).far (p:=⟨w.heap.size+1,1,none⟩) (by simp) (FH FI n)).far (p:=⟨w.heap.size+1,2,none⟩) (by simp) (FC ⟨#[]⟩)).keep V (by simp));have x0:w8.cell? ⟨w.heap.size,0,none⟩=some (FH FI 0):=B0'.cell 0;have x1:w8.cell? ⟨w.heap.size,1,none⟩=some (FH FI 0):=B0'.cell 1;have x2:w8.cell? ⟨w.heap.size,2,none⟩=some (FC ⟨#[]⟩):=B0'.cell 2;have y0:=B0'.frozen 0;have y1:=B0'.frozen 1;have y2:=B0'.frozen 2;have z:=(((B1.set 0 (FH FI 1)).set 1 (FH FI n)).set 2 (FC ⟨#[]⟩)).keep V (by simp);have z0:w8.cell? ⟨w.heap.size+1,0,none⟩=some (FH FI 1):=z.cell 0;have z1:w8.cell? ⟨w.heap.size+1,1,none⟩=some (FH FI n):=z.cell 1;have z2:w8.cell? ⟨w.heap.size+1,2,none⟩=some (FC ⟨#[]⟩):=z.cell 2))
     refine bodyPost_ret (v:= .tuple #[.agg #[FH FI 0,FH FI 0,FC (bs [])],.iface 37 (FH FI 3)]) (by simp[results,Tryz.results50,go_sem,x0,x1,x2];try rfl) rfl ⟨rfl,?_⟩;refine aa.setCell (aa.setCell (aa.setCell ?_ (.inr (Fm _)) _) (.inr (Fm _)) _) (.inr (Fm _)) _;exact aa.trans (aa.setCell (aa.setCell (aa.setCell ((I.out.trans h).trans M) (.inr (Nat.le_succ _)) _) (.inr (Nat.le_succ _)) _) (.inr (Nat.le_succ _)) _) V
  have H:pM s=none:=by rw[N];simp only[if_neg hi]
  rw[H];have a6:(Lib.itoa n==s)=false:=by rw[beq_eq_false_iff_ne];exact hi
  clear N H hi;show Calls _ _ _ _ fun e w'=>e=FF (.tuple #[.agg #[FH FI 0,FH FI 0,FC (bs [])],.iface 37 (FH FI 3)])∧aa [] w w'
  rcases HQ.out with l2|⟨h0,l2,b0⟩|⟨h0,k,hk,l2,e1,b0,b1⟩
  all_goals
   go_enter Tryz.func50,Tryz.ntmps50
   go_wp2_with (first|(go_at_call 83;refine (U.out _ I.out).mono ?_;rintro e w6 ⟨rfl,h⟩)|(go_at_call 84;refine (a0.out _ (I.out.trans h)).mono ?_;rintro e O ⟨rfl,M⟩;have D:=(aA.out.keep h (by simp)).keep M (by simp);have B1:=(a4.out.keep h (by simp)).keep M (by simp);have c0:O.cell? ⟨w.heap.size,0,none⟩=some (FH FI 0):=D.cell 0;have c1:O.cell? ⟨w.heap.size,1,none⟩=some (FH FI 0):=D.cell 1;have c2:O.cell? ⟨w.heap.size,2,none⟩=some (FC ⟨#[]⟩):=D.cell 2;have f0:=D.frozen 0;have f1:=D.frozen 1;have f2:=D.frozen 2;have d0:O.cell? ⟨w.heap.size+1,0,none⟩=some (FH FI 2):=B1.cell 0;have d1:O.cell? ⟨w.heap.size+1,1,none⟩=some (FH FI 0):=B1.cell 1;have d2:O.cell? ⟨w.heap.size+1,2,none⟩=some (FC ⟨#[]⟩):=B1.cell 2;have g0:=B1.frozen 0;have g1:=B1.frozen 1;have g2:=B1.frozen 2))
   refine bodyPost_ret (v:= .tuple #[.agg #[FH FI 0,FH FI 0,FC (bs [])],.iface 37 (FH FI 3)]) (by simp[results,Tryz.results50,go_sem,c0,c1,c2];try rfl) rfl ⟨rfl,?_⟩;refine aa.setCell (aa.setCell (aa.setCell ?_ (.inr (Fm _)) _) (.inr (Fm _)) _) (.inr (Fm _)) _;exact (I.out.trans h).trans M
 ·
  rw[ha] at N;have H:pM s=none:=N;rw[H];have J:∀ W (_:aa [] w W),Calls Tryz.prog 83 #[FC (bs s)] W fun e w'=>(∃ n t p,e=FF (.tuple #[FH FI n,.iface t p]))∧aa [] W w':=fun W q=>by
   rcases ad W q with ⟨v,Z,h2,h3⟩|⟨Z,h3⟩
   ·rw[ha] at Z;cases Z
   exact h3
  have U:=Fk J;clear ad J N H ha;show Calls _ _ _ _ fun e w'=>e=FF (.tuple #[.agg #[FH FI 0,FH FI 0,FC (bs [])],.iface 37 (FH FI 3)])∧aa [] w w'
  rcases HQ.out with l2|⟨h0,l2,b0⟩|⟨h0,k,hk,l2,e1,b0,b1⟩
  all_goals
   go_enter Tryz.func50,Tryz.ntmps50
   go_wp2_with (first|(go_at_call 83;refine (U.out _ I.out).mono ?_;rintro e w6 ⟨⟨n,t,p,rfl⟩,h⟩;have D:=(aA.out.keep h (by simp));have c0:w6.cell? ⟨w.heap.size,0,none⟩=some (FH FI 0):=D.cell 0;have c1:w6.cell? ⟨w.heap.size,1,none⟩=some (FH FI 0):=D.cell 1;have c2:w6.cell? ⟨w.heap.size,2,none⟩=some (FC ⟨#[]⟩):=D.cell 2;have f0:=D.frozen 0;have f1:=D.frozen 1;have f2:=D.frozen 2))
   refine bodyPost_ret (v:= .tuple #[.agg #[FH FI 0,FH FI 0,FC (bs [])],.iface 37 (FH FI 3)]) (by simp[results,Tryz.results50,go_sem,c0,c1,c2];try rfl) rfl ⟨rfl,?_⟩;refine aa.setCell (aa.setCell (aa.setCell ?_ (.inr (Fm _)) _) (.inr (Fm _)) _) (.inr (Fm _)) _;exact I.out.trans h
 
 rw[ha] at N;have H:pM s=none:=N;rw[H];have J:∀ W (_:aa [] w W),Calls Tryz.prog 83 #[FC (bs s)] W fun e w'=>(∃ n t p,e=FF (.tuple #[FH FI n,.iface t p]))∧aa [] W w':=fun W q=>by
  rcases ad W q with ⟨v,Z,h2,h3⟩|⟨Z,h3⟩
  ·rw[ha] at Z;cases Z
  exact h3
 have U:=Fk J;clear ad J N H ha;show Calls _ _ _ _ fun e w'=>e=FF (.tuple #[.agg #[FH FI 0,FH FI 0,FC (bs [])],.iface 37 (FH FI 3)])∧aa [] w w'
 rcases HQ.out with l2|⟨h0,l2,b0⟩|⟨h0,k,hk,l2,e1,b0,b1⟩
 all_goals
  go_enter Tryz.func50,Tryz.ntmps50
  go_wp2_with (first|(go_at_call 83;refine (U.out _ I.out).mono ?_;rintro e w6 ⟨⟨n,t,p,rfl⟩,h⟩;have D:=(aA.out.keep h (by simp));have c0:w6.cell? ⟨w.heap.size,0,none⟩=some (FH FI 0):=D.cell 0;have c1:w6.cell? ⟨w.heap.size,1,none⟩=some (FH FI 0):=D.cell 1;have c2:w6.cell? ⟨w.heap.size,2,none⟩=some (FC ⟨#[]⟩):=D.cell 2;have f0:=D.frozen 0;have f1:=D.frozen 1;have f2:=D.frozen 2))
  refine bodyPost_ret (v:= .tuple #[.agg #[FH FI 0,FH FI 0,FC (bs [])],.iface 37 (FH FI 3)]) (by simp[results,Tryz.results50,go_sem,c0,c1,c2];try rfl) rfl ⟨rfl,?_⟩;refine aa.setCell (aa.setCell (aa.setCell ?_ (.inr (Fm _)) _) (.inr (Fm _)) _) (.inr (Fm _)) _;exact I.out.trans h
theorem jq (s:Bs) (h:s.length≤1000000000) (w:World) (H:gG w) :
  Calls Tryz.prog 50 #[FC (bs s)] w fun e w'=>e=FF (AE (pM s))∧aa [] w w':=by
 cases D:ew s with
 | true=>exact tz s h w D
 | false=>exact vl s h w H D
end
section
open Go.RowKit
attribute [local go_sem] ag ab ae af
def AF (R:PR) (e:Ending) (w':World):Prop:=match R with
 | .ok t=>∃ A B c d,e=FF (.tuple #[jR A t.cols.length c B t.rows.length d,.nilIface])∧aY w' t A B c d
 | .bad x p=>∃ g,e=FF (.tuple #[jR none 0 0 none 0 0,.iface 73 (FE (some ⟨g,0,none⟩))])∧ao w' g 75 #[FH FI x,FH FI p]
theorem rO {w w':World} {base:Nat} {e:TypeId} {size n:Nat} {v:Value} {xs:List Value} {o:Obj} (h:w.ownsRow base e size v n xs) (D:aa [] w.drew w'):(w'.alloc o).ownsRow base e size v n xs :=
 (aE h (L:=[]) ⟨D.os,D.output,D.size,D.block⟩ (fun _ _=>by simp)).alloc o
theorem Cg {w w':World} {b:Nat} {o:Obj} (h:b≤w.heap.size) (D:aa [] w.drew w'):b≤(w'.alloc o).heap.size:=by
 have I:=D.size;have H:w.drew.heap.size=w.heap.size:=rfl;simp;omega
theorem jr {w:World} {base:Nat} {e t:TypeId} {size n:Nat} {v:Value} {xs:List Value} {g:Nat} {cs:Array Value} (h:w.ownsRow base e size v n xs) (I:ao w g t cs) (H:e≠t):v.ownBlock≠some g:=fun J=>by
 rcases h.2 with ⟨rfl,_⟩|⟨M,cap,cur,rfl,_,D,_⟩
 ·cases J
 have:M=g:=by simpa[Value.ownBlock] using J
 subst this;unfold ao at I;rw[I] at D;injection D with D;injection D with _ N;exact H N.symm
theorem aa.of_drew {w w':World} {L:List Nat} (h:aa L w.drew w'):aa L w w':=⟨h.os,h.output,h.size,h.block⟩
theorem yA {O wr w5 w6 J:World} {h gw cap n m size:Nat} {v r:Value} {xs ys:List Value} {o:Obj} {e:TypeId} (he:e≠54) (Z:aa [h] O wr) (a0:aa [] wr w5)
  (N:w5.ownsRow O.heap.size e size v n xs) (U:ao w5 h 54 #[v,r]) (ad:aa [] w5.drew w6) (H:J.ownsRow O.heap.size e size (FD (some ⟨gw,0,none⟩) m cap) m ys) (D:(w6.alloc o).grownBy J v.ownBlock) :
  (J.setCell ⟨h,0,none⟩ (FD (some ⟨gw,0,none⟩) m cap)).ownsRow O.heap.size e size (FD (some ⟨gw,0,none⟩) m cap) m ys∧ao (J.setCell ⟨h,0,none⟩ (FD (some ⟨gw,0,none⟩) m cap)) h 54 #[FD (some ⟨gw,0,none⟩) m cap,r]∧aa [h] O (J.setCell ⟨h,0,none⟩ (FD (some ⟨gw,0,none⟩) m cap)):=by
 have M:=(U.keep ad.of_drew (by simp)).alloc o;have aA:=jr N U he;have I:ao J h 54 #[v,r]:=(D.block h M.lt (fun e=>aA e.symm)).trans M;have V:=jr H I he;have av:aa [h] O J:=aa.grown (((Z.trans (a0.weaken (by simp))).trans (ad.of_drew.weaken (by simp))).alloc o) D (fun g hg=> .inr (N.lt g hg).1);refine ⟨aE H (aa.setCell (Fz [h] J) (.inl (by simp)) _) (fun g hg hm=>?_),?_,av.setCell (.inl (by simp)) _⟩
 ·have:g=h:=by simpa using hm
  subst this;exact V hg
 exact (I.set 0 _).congr rfl
theorem gW (x p:Int) (w:World) :
  Calls Tryz.prog 46 #[FH FI x,FH FI p] w fun e w'=>∃ g,e=FF (.tuple #[.agg #[FD none 0 0,FD none 0 0],.iface 73 (FE (some ⟨g,0,none⟩))])∧ao w' g 75 #[FH FI x,FH FI p]∧aa [] w w':=by
 go_enter Tryz.func46,Tryz.ntmps46
 go_wp2;refine bodyPost_ret (v:= .tuple #[.agg #[FD none 0 0,FD none 0 0],.iface 73 (FE (some ⟨w.heap.size+1,0,none⟩))]) (by simp[results,Tryz.results46,go_sem]) rfl ⟨_,rfl,?_,?_⟩
 ·have h:=FA (w.alloc (FG #[FD none 0 0,FD none 0 0] 54)) 75 #[FH FI x,FH FI p]
  rw[show (w.alloc (FG #[FD none 0 0,FD none 0 0] 54)).heap.size=w.heap.size+1 from Array.size_push _] at h;exact h
 repeat first|exact Fz _ _|refine aa.alloc ?_ _|refine aa.setCell ?_ (.inr (by simp)) _
theorem vo {l:List Bs} (h:0<l.length):l[0]=l.headD []:=by
 cases l with
 | nil=>simp at h
 | cons=>rfl
theorem jM (l:Bs):(bE l).length=(ax 32 l).length:=by simp[bE]
theorem rP (l:List Cl) (n:Nat) (h:n<l.length):ai (l.take (n+1))=ai (l.take n)++fe l[n]:=by
 rw[List.take_succ_eq_append_getElem h,iT];simp[ai]
theorem EF:(Tryz.prog.info? 64).map (fun i=>(i.zero,i.size,i.bytes))=some (some (.agg #[FC ⟨#[]⟩,FH FI 0]),2,24):=by kernel_rfl
theorem Db:(Tryz.prog.info? 46).map (fun i=>(i.zero,i.size,i.bytes))=some (some (.agg #[FH FI 0,FH FI 0,FC ⟨#[]⟩]),3,32):=by kernel_rfl
theorem jt:(Tryz.prog.info? 89).map (fun i=>(i.zero,i.size,i.bytes))=some (some (FD none 0 0),1,24):=by kernel_rfl
theorem mN (l:Bs):∀ x∈bE l,x.name.length≤l.length:=fun x h=>by
 obtain ⟨u,D,rfl⟩:=List.mem_map.1 h;exact Ft (oG 58 u).1 ((eJ 32 l).2.2 u D)
def iK (W:World) (base:Nat) (vr:Value) (rs:List (List Vl)):Prop :=
 ∃ us:List Value,us.length=rs.length∧W.ownsRow base 89 1 vr rs.length us∧∀ i (h:i<us.length) (h':i<rs.length),W.ownsRow base 46 3 us[i] rs[i].length (al rs[i])
theorem iK.nil (W:World) (base:Nat):iK W base (FD none 0 0) []:=⟨[],rfl,World.ownsRow_nil _ _ _ _,fun i h=>by simp at h⟩
theorem Ch (l:List Bs) (m:Nat) (h:m+1<l.length):l.tail.drop m=l[m+1]::l.tail.drop (m+1):=by
 cases l with
 | nil=>simp at h
 | cons a t =>
  simp only[List.tail_cons,List.getElem_cons_succ];exact List.drop_eq_getElem_cons (by simpa using h)
theorem vp {l:Bs} {M:Nat} {U W:World} {v:Value} (J:(ax 32 l).length=M) (Z:1≤M) (I:M≤4294967296) (hl:l.length≤1000000) (h:W.ownsRow U.heap.size 64 2 v M (ai ((bE l).take M))) :
  Calls Tryz.prog 19 #[v] W fun e w'=>e=FF (.bool (bV (bE l)))∧aa [] W w':=by
 obtain ⟨g,cap,rfl,D⟩:∃ g cap,v=FD (some ⟨g,0,none⟩) M cap∧M≤cap:=by
  rcases h.2 with ⟨_,h0⟩|⟨g,cap,cur,O,_,_,N,_⟩
  ·omega
  exact ⟨g,cap,O,N⟩
 have H:(bE l).length=M:=by rw[jM,J]
 rw[List.take_of_length_le (by omega)] at h;subst H;exact gj (bE l) _ cap W (Rd.of_own h (fun _ _=>by simp)) D (fun x V=>Ft (mN l x V) (by omega)) I
theorem iD {w:World} {base:Nat} {e:TypeId} {size n:Nat} {v:Value} {xs:List Value} (h:w.ownsRow base e size v n xs):∃ A c,v=FD A n c∧n≤c∧Rd w [] size A n xs:=by
 rcases h.2 with ⟨rfl,rfl⟩|⟨g,cap,cur,rfl,I,H,D,r⟩
 ·refine ⟨none,0,rfl,Fm _,?_⟩
  have:xs=[]:=List.eq_nil_of_length_eq_zero (by rw[h.1];simp);rw[this];exact Rd.nil
 exact ⟨_,cap,rfl,D,Rd.of_own h (fun _ _=>by simp)⟩
theorem fN {w:World} {base:Nat} {e:TypeId} {size n:Nat} {v:Value} {xs:List Value} (h:w.ownsRow base e size v n xs) (M:1≤n):∃ g cap,v=FD (some ⟨g,0,none⟩) n cap∧n≤cap∧base≤g∧g<w.heap.size∧∀ j u,xs[j]? = some u→w.cell? ⟨g,j,none⟩=some u:=by
 rcases h.2 with ⟨_,N⟩|⟨g,cap,cur,rfl,H,D,I,r⟩
 ·omega
 refine ⟨g,cap,rfl,I,H,(Array.getElem?_eq_some_iff.1 D).1,fun j u J=>?_⟩;have:=h.cells (g:=g) rfl j u J;rwa [cI,Nat.zero_add] at this
theorem gX {w:World} {base D:Nat} {e:TypeId} {size n:Nat} {v:Value} {xs:List Value} (h:w.ownsRow D e size v n xs) (H:base≤D):w.ownsRow base e size v n xs:=by
 refine ⟨h.1,?_⟩;rcases h.2 with I|⟨g,cap,cur,J,M,r⟩
 ·exact .inl I
 exact .inr ⟨g,cap,cur,J,Ft H M,r⟩
theorem rQ {w:World} {base b i:Nat} {e t:TypeId} {size n:Nat} {v u:Value} {xs:List Value} {cs:Array Value} (h:w.ownsRow base e size v n xs) (H:ao w b t cs) (J:e≠t):(w.setCell ⟨b,i,none⟩ u).ownsRow base e size v n xs :=
 aE h (aa.setCell (Fz [b] w) (.inl (by simp)) u) (fun g I D=>jr h H J (by simp at D;rw[I,D]))
theorem l9 {w w':World} {base b:Nat} {e t:TypeId} {size n:Nat} {v:Value} {xs:List Value} {cs:Array Value} (h:w.ownsRow base e size v n xs) (I:aa [b] w w') (H:ao w b t cs) (M:e≠t):w'.ownsRow base e size v n xs :=
 aE h I (fun g J D=>jr h H M (by simp at D;rw[J,D]))
theorem qI {w w':World} {base M:Nat} {e:TypeId} {size n:Nat} {v:Value} {xs:List Value} {D:Option Nat} (h:w.ownsRow base e size v n xs) (I:w.grownBy w' D) (hr:∀ g,D=some g→∃ cs O,w.heap[g]? = some (FG cs M O)) (he:e≠M):w'.ownsRow base e size v n xs:=by
 refine aE (L:=D.toList) h (aa.grown (Fz _ w) I (fun g I=> .inl (by rw[I];simp))) (fun g N J=>?_)
 obtain ⟨cs,O,U⟩:=hr g (by cases D with
  | none=>cases J
  | some x=>simp at J;rw[J])
 rcases h.2 with ⟨rfl,_⟩|⟨V,cap,cur,rfl,_,H,_⟩
 ·cases N
 have:V=g:=by simpa[Value.ownBlock] using N
 subst this;rw[U] at H;injection H with H;injection H with _ Z;exact he Z.symm
theorem tB {w:World} {base:Nat} {e:TypeId} {size n:Nat} {v:Value} {xs:List Value} (h:w.ownsRow base e size v n xs):∀ g,v.ownBlock=some g→∃ cs I,w.heap[g]? = some (FG cs e I):=fun g H=>by
 rcases h.2 with ⟨rfl,_⟩|⟨J,cap,cur,rfl,_,D,_⟩
 ·cases H
 have:J=g:=by simpa[Value.ownBlock] using H
 subst this;exact ⟨_,_,D⟩
section
variable {W W':World} {base b i:Nat} {vr u vq:Value} {rs:List (List Vl)} {q:List Vl} {cs:Array Value} {t:TypeId}
theorem iK.keep (h:iK W base vr rs) (D:aa [] W W'):iK W' base vr rs:=by
 obtain ⟨us,J,I,H⟩:=h;exact ⟨us,J,aE I D (fun _ _=>by simp),fun i a c=>aE (H i a c) D (fun _ _=>by simp)⟩
theorem iK.keepb (h:iK W base vr rs) (H:aa [b] W W') (D:ao W b t cs) (O:89≠t) (N:46≠t):iK W' base vr rs:=by
 obtain ⟨us,I,J,M⟩:=h;exact ⟨us,I,l9 J H D O,fun i a c=>l9 (M i a c) H D N⟩
theorem iK.set (h:iK W base vr rs) (D:ao W b t cs) (I:89≠t) (H:46≠t):iK (W.setCell ⟨b,i,none⟩ u) base vr rs :=
 h.keepb (aa.setCell (Fz [b] W) (.inl (by simp)) u) D I H
theorem iK.rd (h:iK W base vr rs):∃ B d,vr=FD B rs.length d∧rs.length≤d∧cJ W [] B rs:=by
 obtain ⟨us,N,M,I⟩:=h;obtain ⟨B,d,D,hd,H⟩:=iD M;refine ⟨B,d,D,hd,us,N,H,fun i a c=>?_⟩;obtain ⟨A,k,D,J,H⟩:=iD (I i a c);exact ⟨A,k,D,J,H⟩
theorem gY {us:List Value} {o:Obj} {gw cap:Nat} (M:us.length=rs.length) (N:∀ i (h:i<us.length) (h':i<rs.length),W.ownsRow base 46 3 us[i] rs[i].length (al rs[i]))
  (O:W.ownsRow base 89 1 vr rs.length us) (U:W.ownsRow base 46 3 vq q.length (al q)) (I:(W.alloc o).grownBy W' vr.ownBlock)
  (H:W'.ownsRow base 89 1 (FD (some ⟨gw,0,none⟩) (rs.length+1) cap) (rs.length+1) (us++[vq])):iK W' base (FD (some ⟨gw,0,none⟩) (rs.length+1) cap) (rs++[q]):=by
 refine ⟨us++[vq],by simp[M],by simpa using H,fun i a c=>?_⟩;have D:=fun g I=>tB (O.alloc o) g I
 by_cases J:i<us.length
 ·rw[List.getElem_append_left J,List.getElem_append_left (by omega)]
  exact qI ((N i J (by omega)).alloc o) I D (by decide)
 have hi':i=us.length:=by simp at a;omega
 subst hi';rw[List.getElem_append_right (Fm _),List.getElem_append_right (by omega)];simp only[M,Nat.sub_self,List.getElem_cons_zero];exact qI (U.alloc o) I D (by decide)
end
theorem AG {W:World} {base h n:Nat} {v vr:Value} {cols:List Cl} {rs:List (List Vl)} (O:cols.length=n) (N:W.ownsRow base 64 2 v n (ai cols)) (Z:iK W h vr rs) (I:∀ x∈cols,x.name.length≤1000000000) (H:cols.length≤4294967296) (h3:rs.length≤60) (V:∀ r∈rs,r.length≤4294967296) :
  ∃ A B c d,v=FD A cols.length c∧vr=FD B rs.length d∧aY W ⟨cols,rs⟩ A B c d:=by
 subst O;obtain ⟨A,c,U,M,J⟩:=iD N;obtain ⟨B,d,e2,hd,D⟩:=Z.rd;exact ⟨A,B,c,d,U,e2,J,M,D,hd,I,H,by simp only;omega,V⟩
theorem yB {p:Bs} (h:pM p=none) (H:p.length≤1000000000) (w:World) (D:gG w) :
  Calls Tryz.prog 50 #[FC (bs p)] w fun e w'=>e=FF (.tuple #[.agg #[FH FI 0,FH FI 0,FC ⟨#[]⟩],.iface 37 (FH FI 3)])∧aa [] w w':=by
 have:=jq p H w D;rw[h] at this;exact this
theorem yC {p:Bs} {u:Vl} (h:pM p=some u) (H:p.length≤1000000000) (w:World) (D:gG w) :
  Calls Tryz.prog 50 #[FC (bs p)] w fun e w'=>e=FF (.tuple #[.agg #[FH FI u.kind,FH FI u.num,FC (bs u.word)],.nilIface])∧aa [] w w':=by
 have:=jq p H w D;rw[h] at this;exact this
theorem AI (w:World) (o D:Obj):((w.alloc o).alloc D).heap[w.heap.size+1]? = some D:=by
 have h:=heap_alloc_new (w.alloc o) D;rw[show (w.alloc o).heap.size=w.heap.size+1 from Array.size_push _] at h;exact h
theorem lu {w:World} {g:Nat} {t:TypeId} {x y z:Int} (h:ao w g t #[FH FI x,FH FI y]) (D:y=z):ao w g t #[FH FI x,FH FI z]:=D ▸ h
theorem ly (q:List Vl) (v:Vl):al (q++[v])=al q++[FH FI v.kind,FH FI v.num,FC (bs v.word)]:=by simp[al,eC]
theorem vt {ps:List Bs} {n:Nat} (h:n<ps.length) (q:List Vl):kK (ps.drop n) q=match pM ps[n] with
  | none=>none
  | some v=>kK (ps.drop (n+1)) (q++[v]):=by
 rw[List.drop_eq_getElem_cons h];rfl
theorem vu {cols:List Cl} {q:List Vl} (h:q.length≠cols.length):mV cols q=false:=by
 unfold mV;rw[decide_eq_false h];rfl
theorem AJ {cols:List Cl} {q:List Vl} {j:Nat} (h:j<q.length) (h':j<cols.length) (D:q[j].kind≠cols[j].kind):mV cols q=false:=by
 unfold mV;rw[Bool.and_eq_false_iff];right
 rw[List.all_eq_false];refine ⟨(q[j],cols[j]),?_,by simpa using D⟩;rw[List.mem_iff_getElem];exact ⟨j,by rw[List.length_zip];omega,by simp⟩
theorem yD {cols:List Cl} {q:List Vl} (h:q.length=cols.length) (I:∀ j (h:j<q.length) (h':j<cols.length),q[j].kind=cols[j].kind):mV cols q=true:=by
 unfold mV;rw[decide_eq_true h,Bool.true_and,List.all_eq_true];intro p H;obtain ⟨i,D,rfl⟩:=List.getElem_of_mem H;have:=I i (by rw[List.length_zip] at D;omega) (by rw[List.length_zip] at D;omega);simpa using this
end
section
end
section
open Go.RowKit
attribute [local go_sem] ag ab ae af
theorem vZ (s:Bs) (hs:s.length≤1000000) (w:World) (hE:gG w) :
    Calls Tryz.prog 18 #[FC (bs s)] w fun e w'=>AF (dy s) e w'∧aa [] w w':=by
  obtain ⟨ic,ih,fs,g6,hY⟩:=info_parts EF;obtain ⟨iv,k5,h6,hF,hP⟩:=info_parts Db;obtain ⟨ir,ie,hh,hH,ha⟩:=info_parts jt;have HE:=Fk hE;have hC:=Fk (fun W (q:aa [] w W)=>tt 10 s (by omega) W (hE.quiet q));clear hE;go_enter Tryz.func18,Tryz.ntmps18
  go_wp2_with fail
  refine (hC.out _ ((Fz _ _).alloc _)).mono ?_;rintro e w2 ⟨b1,o1,rfl,_,hf,ex,et⟩;obtain ⟨O,cx⟩:∃ O,(ax 10 s).headD []=O:=⟨_,rfl⟩
  obtain ⟨N,hN⟩:∃ N,(ax 10 s).length=N:=⟨_,rfl⟩
  have cD:=eJ 10 s;have d0:w2.cell? ⟨b1,o1,none⟩=some (FC (bs O)):=by
    have h:=ex 0 _ (cw (ax 10 s) 0 cD.2.1);rw[Nat.add_zero] at h;rw[h,←cx];congr 3
    exact vo cD.2.1
  have cu:=Fk (((Fz [] w).alloc (FG #[FD none 0 0,FD none 0 0] 54)).trans et);have er:=(FA w 54 #[FD none 0 0,FD none 0 0]).keep et (by simp);obtain ⟨br,bv⟩:∃ br,w.heap.size=br:=⟨_,rfl⟩
  rw[bv] at er;have ez:=Fk er;have jx:=Fk bv;have g5:=Fk cx;have eA:=Fk hN;have gm:=Fk ex;have dr:O.length≤1000000:=by
    rw[←cx]
    cases kl:ax 10 s with
    | nil=>simp
    | cons a t=>have:=cD.2.2 a (by rw[kl];exact List.mem_cons_self ..);simp;omega
  have jf:1≤N:=by omega
  have k6:N≤1000001:=by omega
  have hI:=Fk (fun W (q:aa [] w2 W)=>tt 32 O (by omega) W (HE.out.quiet (cu.out.trans q)));rw[hN];clear et er cx hN ex cD hC;rw[bv];clear bv;go_wp2_with fail
  refine (hI.out _ ((Fz _ _).alloc _)).mono ?_;rintro e w3 ⟨b2,o2,rfl,gz,lw,eY,d7⟩;have a0:=(FA w2 54 #[FD none 0 0,FD none 0 0]).keep d7 (by simp);obtain ⟨bt,c9⟩:∃ bt,w2.heap.size=bt:=⟨_,rfl⟩
  have a8:=((Fz [] w2).alloc (FG #[FD none 0 0,FD none 0 0] 54)).trans d7;have hz:=Fk (cu.out.trans a8);have ce:=Fk (ez.out.keep a8 (by simp));have HC1':=Fk (fun (j:Nat) (u:Value) (h:(strs (ax 10 s))[j]? = some u)=>a8.cell_of (gm.out j u h) (by simp));have g3:b2≠bt:=by
    have h9:w2.heap.size+1≤b2:=by simpa using gz
    omega
  have dv:b1≠bt:=by omega
  have c4:br≠bt:=by have:=ez.out.lt;omega
  have lm:w.heap.size≤bt:=by have:=cu.out.size;omega
  have H:w.heap.size≤br:=by have:=jx.out;omega
  rw[c9] at a0 ⊢;have h8:=Fk a0;have hw:=Fk eY;have c7:b1<w3.heap.size:=Nat.lt_of_lt_of_le hf a8.size;have hW:=eJ 32 O;obtain ⟨M,hM⟩:∃ M,(ax 32 O).length=M:=⟨_,rfl⟩
  have b5:=Fk hM;have ff:1≤M:=by omega
  have kx:M≤1000001:=by omega
  have eB:=hW.2.2;have h7:=Fk eB;rw[hM];clear d7 a8 a0 c9 eY hW hM eB hI ez cu gm hf d0;go_wp2;go_loopw [28] (fun i wr=>∃ (n:Nat) (v:Value),n≤M∧i=FH FI n∧wr.ownsRow w3.heap.size 64 2 v n (ai ((bE O).take n))∧ao wr bt 54 #[v,FD none 0 0]∧aa [bt] w3 wr) (fun i _=>M-(intOf i).toNat)
  case atStart=>exact ⟨0,_,Fu _,rfl,World.ownsRow_nil _ _ _ _,h8.out,Fz _ _⟩
  obtain ⟨n,v,hn,rfl,a9,a0,a7⟩:=hrel;have hk:=hz.out.trans' a7 (fun y hy hl=>by simp at hy;omega);by_cases cz:n<M
  · -- BEGIN cols
    obtain ⟨u,hu⟩:∃ u,(ax 32 O)[n]'(by rw[b5.out];exact cz)=u:=⟨_,rfl⟩
    have d1:wr.cell? ⟨b2,o2+n,none⟩=some (FC (bs u)):=by
      have h:=hw.out n _ (cw (ax 32 O) n (by rw[b5.out];exact cz));rw[hu] at h;refine a7.cell_of h ?_;simpa using g3
    have mI:u.length≤1000000:=by
      rw[←hu];exact Ft (h7.out _ (Fs _)) dr
    have it:=oG 58 u;have e5:=Fk (fun W (q:aa [] wr W)=>Aw 58 u (by omega) W (HE.out.quiet (hk.trans q)));have d3:ai ((bE O).take (n+1))=ai ((bE O).take n)++fe (zF u):=by
      rw[rP _ _ (by rw[jM,b5.out];exact cz),←hu];simp[bE]
    have bX:=Fk a0;have HK:=Fk hk;have a1:=Fk a7;have HO:=Fk a9;clear a0 hk a7 a9 hu;go_wp2_with fail
    refine (e5.out _ (Fz _ _)).mono ?_;rintro e w5 ⟨⟨fb,rfl⟩,V⟩;have f8:Hid (zF u=⟨(fT 58 u).1,EV (fT 58 u).2⟩):=Fk rfl;have k2:=Fk (fun W (q:aa [] w5 W)=>rN (fT 58 u).2 W (HE.out.quiet ((HK.out.trans V).trans q)));rw[f8.out] at d3;have c8:ai ((bE O).take (n+1))=ai ((bE O).take n)++[FC (bs (fT 58 u).1),FH FI (max (oI (fT 58 u).2) 0)]:=by rw[d3,AA];rfl
    have i4:=Fk c8;clear d3 c8 f8;generalize (fT 58 u).1=c1 at *;generalize (fT 58 u).2=c2 at *;generalize oI c2=q at *;have bc:=bX.out.keep V (by simp);have fS:w5.cell? ⟨bt,0,none⟩=some v∧w5.frozen? ⟨bt,0,none⟩=false:=⟨by rw[bc.cell];rfl,bc.frozen 0⟩;have be:=Fk (aE HO.out V (fun _ _=>by simp));have js:v.ownBlock≠some bt:=jr be.out bc (by decide);have j2:=Fk (show w3.heap.size≤w5.heap.size from Ft a1.out.size V.size);have bb:=Fk bc;have b8:=Fk V;clear bc V it e5;go_wp2_with fail
    go_region_law (first|(refine step_append_lies _ (by rfl) _ _ _ (by rfl) w3.heap.size 64 ic _ 2 24 Tryz.underlying51 ih fs g6 hY rfl (by decide) v n (ai ((bE O).take n)) (by rfl) (rO be.out (by assumption)) ⟨w6.heap.size,0,none⟩ 1 1 [FC (bs c1),FH FI (max q 0)] (by rfl) rfl (Fx (heap_alloc_new _ _)) (by simp[Value.oneCell']) (by decide) (by simp only[maxLen];omega) (by omega) (Cg j2.out (by assumption)) _ rfl ?_;intro gw cap w7 eX bo lg ln;obtain ⟨mA,l1⟩:=aC bo (aB (aH aA fS (by simp)) _) js)|(go_simp;go_at_call 48;refine (k2.out _ (Fz [] w5).drew).mono ?_;rintro e w6 ⟨rfl,aA⟩;obtain ⟨k3,mK⟩:=aH aA fS (by simp);have l4:bt<w6.heap.size:=Fq w6 ⟨bt,0,none⟩ k3))
    all_goals go_wp2
    all_goals go_roundw
    all_goals first
      | (simp[intOf];omega)
      | (have es:=yA (by decide) a1.out b8.out be.out bb.out aA eX bo
         exact ⟨n+1,_,by omega,by go_num,by rw[i4.out];exact es.1,es.2.1,es.2.2⟩)
  · obtain rfl:n=M:=by omega
    have f5:=fun W (q:aa [] wr W)=>vp b5.out ff (by omega) dr (aE a9 q (fun _ _=>by simp))
    have c0:wr.cell? ⟨bt,0,none⟩=some v:=by rw[a0.cell];rfl
    have f9:=Fk f5;have bX:=Fk a0;have HK:=Fk hk;have a1:=Fk a7;have HO:=Fk a9;clear a0 hk a7 a9 f5;go_wp2_with fail
    refine (f9.out _ (Fz _ _)).mono ?_;rintro e w5 ⟨rfl,V⟩
    cases f2:bV (bE O) with
    | false =>
      have hR:Hid (dy s= .bad 3 0):=Fk (by unfold dy;rw[g5.out,f2];rfl);have kd:=Fk ((ce.out.keep a1.out (by simpa using c4)).keep V (by simp));have b8:=Fk (HK.out.trans V);clear V c0;go_wp2_with fail
      refine (gW 3 0 _).mono ?_;rintro e w6 ⟨g,rfl,hg,aA⟩;have B6:=kd.out.keep aA (by simp);have c0:w6.cell? ⟨br,0,none⟩=some (FD none 0 0):=B6.cell 0;have c1:w6.cell? ⟨br,1,none⟩=some (FD none 0 0):=B6.cell 1;have f0:=B6.frozen 0;have f1:=B6.frozen 1;go_wp2;refine bodyPost_ret (v:= .tuple #[.agg #[FD none 0 0,FD none 0 0],.iface 73 (FE (some ⟨g,0,none⟩))]) (by simp[results,Tryz.results18,go_sem,c0,c1]) rfl ⟨?_,?_⟩
      · rw[hR.out]
        have U:g≠br:=hg.ne B6 (by decide);exact ⟨g,rfl,(hg.far U _).far U _⟩
      · exact ((b8.out.trans aA).setCell (.inr H) _).setCell (.inr H) _
    | true =>
      have hR:Hid (dy s=fd (bE O) (ax 10 s).tail 0 []):=Fk (by unfold dy;rw[g5.out,f2];rfl);have hG:=Fk ((ce.out.keep a1.out (by simpa using c4)).keep V (by simp));have bb:=Fk (bX.out.keep V (by simp));have b8:=Fk (HK.out.trans V);have kf:=Fk (fun (j:Nat) (u:Value) (h:(strs (ax 10 s))[j]? = some u)=>V.cell_of (a1.out.cell_of (HC1'.out j u h) (by simpa using dv)) (by simp));have mp:(1:Int)≤(N:Int):=by omega
      have be:=Fk (aE HO.out V (fun _ _=>by simp));have lk:b1<w5.heap.size:=Nat.lt_of_lt_of_le c7 (Ft a1.out.size V.size);clear f9 bX HK a1 HO ce HC1' hw h8 hz h7 c0 V c7;obtain ⟨A1,lx,g8⟩:=tv b1 o1 N jf k6;obtain ⟨gv,cv,rfl,l2,lr,lv,fn⟩:=fN be.out ff;have k0:=Fk fn;clear fn;go_wp2_with fail
      go_loopw [61] (fun i wr=>∃ (m:Nat) (vr:Value) (rs:List (List Vl)),m≤N-1∧i=FH FI m∧ao wr bt 54 #[FD (some ⟨gv,0,none⟩) n cv,vr]∧iK wr w5.heap.size vr rs∧fd (bE O) ((ax 10 s).tail.drop m) m rs=dy s∧(rs.length≤60∧∀ r∈rs,r.length=n)∧aa [bt] w5 wr) (fun i _=>N-1-(intOf i).toNat)
      case atStart=>exact ⟨0,_,[],Fu _,rfl,bb.out,iK.nil _ _,by rw[hR.out,List.drop_zero],by simp,Fz _ _⟩
      obtain ⟨m,vr,rs,hm,rfl,a0,cr,cj,⟨i5,hO⟩,a6⟩:=hrel;have hk:=b8.out.trans' a6 (fun y hy hl=>by simp at hy;omega);have hb:=Fk hO;clear hO;obtain ⟨B0,d0,hS,-,-⟩:=cr.rd;subst hS;by_cases cz:m<N-1
      · obtain rfl:=g8 (by omega)
        have ey:m+1<(ax 10 s).length:=by rw[eA.out];omega
        have fz:=Ch (ax 10 s) m ey;have i3:((ax 10 s)[m+1]).length≤1000000:=Ft ((eJ 10 s).2.2 _ (Fs _)) hs;have d1:=a6.cell_of (kf.out (m+1) _ (cw (ax 10 s) (m+1) ey)) (by simpa using dv);have ci:(ax 10 s).tail.drop (m+1)=[]↔m+2=N:=by
          rw[List.drop_eq_nil_iff,List.length_tail,eA.out];omega
        rw[fz] at cj;generalize (ax 10 s)[m+1]=l at *;have d1':wr.cell? ⟨b1,o1+1+m,none⟩=some (FC (bs l)):=by rw[show o1+1+m=o1+(m+1) by omega];exact d1
        have d4:=Fk cj;have e3:=Fk cr;have cn:=Fk a0;have b7:=Fk a6;have ct:=Fk hk;have hX:=Fk ci;clear cj cr a0 a6 hk ci fz d1 ey;go_upto_region 15 with (fail)
        go_cut [61,74] from 61 to 152 (fun i t wx=>i=FH FI m∧t= .bool (decide (m+2=N∧l=[]))∧wx=wr)
        case first =>
          by_cases hL:m+2=N
          · have t1:((m:Int)==(N:Int)-2)=true:=by rw[beq_iff_eq];omega
            cases l with
            | nil =>
              go_wp2;go_meet;exact ⟨rfl,by simp[hL],rfl⟩
            | cons a t =>
              go_wp2;go_meet;exact ⟨rfl,by simp,rfl⟩
          · have t1:((m:Int)==(N:Int)-2)=false:=by rw[beq_eq_false_iff_ne];omega
            go_wp2;go_meet;exact ⟨rfl,by simp[hL],rfl⟩
        obtain ⟨rfl,rfl,rfl⟩:=hcut;have hB:=hG.out.keep b7.out (by simpa using c4);have bk:=Fk hB;by_cases Z:m+2=N∧l=[]
        · rw[decide_eq_true Z]
          have x0:wc.cell? ⟨bt,0,none⟩=some (FD (some ⟨gv,0,none⟩) n cv):=cn.out.cell 0;have x1:wc.cell? ⟨bt,1,none⟩=some (FD B0 rs.length d0):=cn.out.cell 1;have c0:wc.cell? ⟨br,0,none⟩=some (FD none 0 0):=hB.cell 0;have c1:wc.cell? ⟨br,1,none⟩=some (FD none 0 0):=hB.cell 1;have f0:=hB.frozen 0;have f1:=hB.frozen 1;have a4:Hid (dy s= .ok ⟨bE O,rs⟩):=Fk (by rw[←d4.out];unfold fd;rw[if_pos ⟨hX.out.2 Z.1,Z.2⟩]);clear Z hB;go_wp2;have gf:(bE O).length=n:=by rw[jM,b5.out]
          have hQ:=l9 be.out b7.out bb.out (by decide);rw[List.take_of_length_le (by omega)] at hQ;have h3:=rQ (i:=1) (u:=FD B0 rs.length d0) (rQ (i:=0) (u:=FD (some ⟨gv,0,none⟩) n cv) hQ bk.out (by decide)) (bk.out.set 0 _) (by decide);have hV:=iK.set (i:=1) (u:=FD B0 rs.length d0) (iK.set (i:=0) (u:=FD (some ⟨gv,0,none⟩) n cv) e3.out bk.out (by decide) (by decide)) (bk.out.set 0 _) (by decide) (by decide);obtain ⟨A,B,c,d,e1,e2,hT⟩:=AG gf h3 hV (fun x hx=>Ft (mN O x hx) (by omega)) (by omega) i5 (fun r hr=>by have:=hb.out r hr;omega);refine bodyPost_ret (v:= .tuple #[.agg #[FD (some ⟨gv,0,none⟩) n cv,FD B0 rs.length d0],.nilIface]) (by simp[results,Tryz.results18,go_sem,c0,c1]) rfl ⟨?_,?_⟩
          · rw[a4.out]
            refine ⟨A,B,c,d,?_,?_⟩
            · unfold jR;simp only;rw[←e1,←e2]
            · exact hT
          · exact (ct.out.setCell (.inr H) _).setCell (.inr H) _
        · rw[decide_eq_false Z]
          have d9:fd (bE O) (l::(ax 10 s).tail.drop (m+1)) m rs=(match mw (bE O) l with
            | none=> .bad 3 (m+1)
            | some r=>if rs.length=60 then .bad 4 (m+1) else fd (bE O) ((ax 10 s).tail.drop (m+1)) (m+1) (rs++[r])):=by
            conv=>lhs;unfold fd
            rw[if_neg (fun h=>Z ⟨hX.out.1 h.1,h.2⟩)];cases mw (bE O) l<;>rfl
          rw[d4.out] at d9;have c3:=Fk d9;clear d9 Z hB d4;go_wp2_with fail
          refine (Cf l (by omega) _).mono ?_;rintro e w6 ⟨A6,c6,rfl,eb,aA⟩;obtain ⟨K,hK⟩:∃ K,(fU l).length=K:=⟨_,rfl⟩
          have hA:1≤K:=by rw[←hK];unfold fU;simp
          have l5:K≤1000001:=by rw[←hK];have:=(l8 l l.length).2;unfold fU;simp;omega
          rw[hK] at eb ⊢;obtain ⟨gc,cc,e6,lb,ls,lj,bq⟩:=fN eb hA;injection e6 with e6 _ e7;subst e6;have gl:=Fk hK;have jc:=Fk bq;have d5:=Fk aA;have f3:=Fk (cn.out.keep aA (by simp));have ho:=Fk (bk.out.keep aA (by simp));have f6:=Fk (e3.out.keep aA);have c5:=Fk (ct.out.trans aA);clear hK eb bq aA e7;go_wp2_with fail
          go_loopw [14,79] (fun vq i wx=>∃ (k:Nat) (q:List Vl),k≤K∧q.length=k∧i=FH FI k∧wx.ownsRow w6.heap.size 46 3 vq k (al q)∧kK ((fU l).drop k) q=kK (fU l) []∧aa [] w6 wx) (fun _ i _=>K-(intOf i).toNat)
          case atStart=>exact ⟨0,[],Fu _,rfl,rfl,World.ownsRow_nil _ _ _ _,by rw[List.drop_zero],Fz _ _⟩
          obtain ⟨k,q,hk,hq,rfl,bZ,a5,J⟩:=hrel;by_cases k1:k<K
          · have e9:k<(fU l).length:=by rw[gl.out];exact k1
            rw[vt e9] at a5;have d2:=J.cell_of (jc.out k _ (cw (fU l) k e9)) (by simp);have eB:((fU l)[k]).length≤1000000:=Ft (AB l _ (Fs _)) i3;generalize (fU l)[k]=p at *;have k7:=Fk (ho.out.keep J (by simp));have dB:=Fk (c5.out.trans J)
            cases b4:pM p with
            | none =>
              rw[b4] at a5;have dz:=Fk (fun W (x:aa [] wr W)=>yB b4 (by omega) W (HE.out.quiet (dB.out.trans x)));have a4:Hid (dy s= .bad 3 (m+1)):=Fk (by rw[c3.out];unfold mw;rw[←a5]);clear a5 bZ J b4;go_wp2_with fail
              refine (dz.out _ (Fz _ _)).mono ?_;rintro e w7 ⟨rfl,b0⟩;have ch:=Fk b0;clear b0;go_wp2_with fail
              refine (gW 3 ((m:Int)+1) _).mono ?_;rintro e av ⟨g,rfl,hg,I⟩;have D:=((k7.out.keep ch.out (by simp)).alloc _).keep I (by simp);have c0:av.cell? ⟨br,0,none⟩=some (FD none 0 0):=D.cell 0;have c1:av.cell? ⟨br,1,none⟩=some (FD none 0 0):=D.cell 1;have f0:=D.frozen 0;have f1:=D.frozen 1;go_wp2;refine bodyPost_ret (v:= .tuple #[.agg #[FD none 0 0,FD none 0 0],.iface 73 (FE (some ⟨g,0,none⟩))]) (by simp[results,Tryz.results18,go_sem,c0,c1]) rfl ⟨?_,?_⟩
              · rw[a4.out]
                have U:g≠br:=hg.ne D (by decide);exact ⟨g,rfl,((lu hg (by omega)).far U _).far U _⟩
              · exact ((((dB.out.trans ch.out).alloc _).trans I).setCell (.inr H) _).setCell (.inr H) _
            | some u =>
              rw[b4] at a5;have dz:=Fk (fun W (x:aa [] wr W)=>yC b4 (by omega) W (HE.out.quiet (dB.out.trans x)));have j4:=Fk a5;have cm:=Fk bZ;have ds:=Fk J;have HQ:=Fk hq;clear a5 bZ J b4 hq;go_wp2_with fail
              refine (dz.out _ (Fz _ _)).mono ?_;rintro e w7 ⟨rfl,b0⟩;have ch:=Fk b0;have mt:w6.heap.size≤w7.heap.size:=Ft ds.out.size b0.size;clear b0;have j1:=Fk (aE cm.out ch.out (fun _ _=>by simp));have g7:=Fk (show k+1≤maxLen∧(k+1)*32≤140737488355328 by simp only[maxLen];omega);go_wp2_with (at_builtin;(refine wpList_append_lies _ rfl _ _ 89 rfl w6.heap.size 46 iv _ 3 32 Tryz.underlying89 k5 h6 hF hP rfl (by decide) _ k (al q) rfl ((j1.out.alloc _).alloc _) ⟨w7.heap.size+1,0,none⟩ 1 1 [FH FI u.kind,FH FI u.num,FC (bs u.word)] rfl rfl (Fx (AI _ _ _)) (by simp[Value.oneCell']) (by decide) g7.out.1 g7.out.2 (by simp;omega) _ rfl ?_);intro gw hD w8 bj bz fr g2)
              have a3:=Fk (((ds.out.trans ch.out).alloc (FG #[FH FI u.kind,FH FI u.num,FC (bs u.word)] 46)).alloc (FG #[FH FI u.kind,FH FI u.num,FC (bs u.word)] 46) |>.grown bz (fun g hg=> .inr (cm.out.lt g hg).1));rw[←ly] at bj;have ix:=Fk bj;clear bj bz fr g2;go_wp2;go_roundw
              case rel=>exact ⟨k+1,q++[u],by omega,by simp[HQ.out],by go_num,ix.out,j4.out,a3.out⟩
              case measure=>simp[intOf];omega
          · obtain rfl:k=K:=by omega
            rw[List.drop_of_length_le (by rw[gl.out];exact Fm _)] at a5;obtain ⟨gq,cq,kg,ml,km,lf,ht⟩:=fN bZ hA;subst kg;have he:mw (bE O) l=if mV (bE O) q then some q else none:=by unfold mw;rw[←a5];rfl
            have en:=Fk he;have cm:=Fk bZ;have ev:=Fk ht;have HQ:=Fk hq;have bm:=Fk (f3.out.keep J (by simp));have el:=Fk (ho.out.keep J (by simp));have f7:=Fk (f6.out.keep J);have cg:=Fk (c5.out.trans J);have cd:=Fk ((b7.out.trans (d5.out.weaken (by simp))).trans (J.weaken (by simp)));have lc:w5.heap.size≤gq:=Ft (Ft b7.out.size d5.out.size) km;have lo:gq≠bt:=fun e=>jr cm.out bm.out (by decide) (by rw[e];rfl)
            have gi:gv≠bt:=fun e=>jr be.out bb.out (by decide) (by rw[e];rfl)
            have hv:=Fk (fun (j:Nat) (u:Value) (h:(ai ((bE O).take n))[j]? = some u)=>cd.out.cell_of (k0.out j u h) (by simpa using gi));have ca:(bE O).length=n:=by rw[jM,b5.out]
            have cy:=Fk ca;have mh:n≤1000001:=kx;clear a5 he bZ ht hq J ca;obtain ⟨w8,rfl⟩:∃ w8:World,w8=wr:=⟨_,rfl⟩
            have x0:w8.cell? ⟨bt,0,none⟩=some (FD (some ⟨gv,0,none⟩) n cv):=bm.out.cell 0;have x1:w8.cell? ⟨bt,1,none⟩=some (FD B0 rs.length d0):=bm.out.cell 1;by_cases d8:k=n
            · subst d8
              have fc:Hid (∀ (j:Nat) (u:Value),(ai (bE O))[j]? = some u→w8.cell? ⟨gv,j,none⟩=some u):=Fk (by
                have h:=hv.out;rw[List.take_of_length_le (by rw[cy.out];exact Fm _)] at h;exact h)
              go_wp2_with fail
              go_loopw [115] (fun i wx=>∃ j:Nat,j≤k∧i=FH FI j∧Hid (∀ x (h:x<j) (h1:x<q.length) (h2:x<(bE O).length),q[x].kind=(bE O)[x].kind)∧aa [] w8 wx) (fun i _=>k-(intOf i).toNat)
              case atStart=>exact ⟨0,Fu _,rfl,fun x h=>absurd h (by omega),Fz _ _⟩
              obtain ⟨j,hj,rfl,gk,a2⟩:=hrel;have z0:=a2.cell_of x0 (by simp);have z1:=a2.cell_of x1 (by simp);by_cases g1:j<k
              · have hJ:j<q.length:=by rw[HQ.out];exact g1
                have hp:j<(bE O).length:=by rw[cy.out];exact g1
                obtain ⟨e0,e1,e2⟩:=ay q j hJ;obtain ⟨_,e4⟩:=aN (bE O) j hp;have y0:=a2.cell_of (ev.out _ _ e0) (by simp);have y1:=a2.cell_of (ev.out _ _ e1) (by simp);have y2:=a2.cell_of (ev.out _ _ e2) (by simp);have y4:=a2.cell_of (fc.out _ _ e4) (by simp);have hl1':bt<wr.heap.size:=Fq _ _ z0;have hl2':gv<wr.heap.size:=Fq _ _ y4;have a3:=Fk a2;obtain ⟨u,hu⟩:∃ u,q[j]=u:=⟨_,rfl⟩
                obtain ⟨c,hc⟩:∃ c,(bE O)[j]=c:=⟨_,rfl⟩
                rw[hu] at y0 y1 y2;rw[hc] at y4;have HU:=Fk hu;have h5:=Fk hc;have mq:(0:Int)≤(j:Int):=by omega
                have mE:(j:Int)<(k:Int):=by omega
                clear hu hc e0 e1 e2 e4 a2;by_cases b3:u.kind=c.kind
                · have t1:(u.kind != c.kind)=false:=by rw[b3];simp
                  have hi:=Fk b3;clear b3;go_wp2_with fail
                  go_quiet (fail)
                  go_wp2;go_roundw
                  case rel=>exact ⟨j+1,by omega,by go_num,fun x h h1 h2=>by
                    by_cases hx:x<j
                    · exact gk.out x hx h1 h2
                    · obtain rfl:x=j:=by omega
                      rw[HU.out,h5.out];exact hi.out,(a3.out.alloc _).drewN _⟩
                  case measure=>simp[intOf];omega
                · have t1:(u.kind != c.kind)=true:=by rw[bne_iff_ne];exact b3
                  have a4:Hid (dy s= .bad 3 (m+1)):=Fk (by rw[c3.out,en.out,AJ hJ hp (by rw[HU.out,h5.out];exact b3)];rfl);clear b3;go_wp2_with fail
                  go_quiet (fail)
                  go_wp2_with fail
                  refine (gW 3 ((m:Int)+1) _).mono ?_;rintro e av ⟨g,rfl,hg,I⟩;have D:=(((el.out.keep a3.out (by simp)).alloc _).drewN _).keep I (by simp);have c0:av.cell? ⟨br,0,none⟩=some (FD none 0 0):=D.cell 0;have c1:av.cell? ⟨br,1,none⟩=some (FD none 0 0):=D.cell 1;have f0:=D.frozen 0;have f1:=D.frozen 1;go_wp2;refine bodyPost_ret (v:= .tuple #[.agg #[FD none 0 0,FD none 0 0],.iface 73 (FE (some ⟨g,0,none⟩))]) (by simp[results,Tryz.results18,go_sem,c0,c1]) rfl ⟨?_,?_⟩
                  · rw[a4.out]
                    have U:g≠br:=hg.ne D (by decide);exact ⟨g,rfl,((lu hg (by omega)).far U _).far U _⟩
                  · exact (((((cg.out.trans a3.out).alloc _).drewN _).trans I).setCell (.inr H) _).setCell (.inr H) _
              · obtain rfl:j=k:=by omega
                have dq:mV (bE O) q=true:=yD (by rw[HQ.out,cy.out]) (fun x h1 h2=>gk.out x (by rw[HQ.out] at h1;exact h1) h1 h2);have b6:dy s=if rs.length=60 then .bad 4 (m+1) else fd (bE O) ((ax 10 s).tail.drop (m+1)) (m+1) (rs++[q]):=by rw[c3.out,en.out,if_pos dq]
                have k8:=Fk (el.out.keep a2 (by simp));have f4:=Fk (cg.out.trans a2);have a3:=Fk a2;clear dq a2;by_cases d6:rs.length=60
                · have t1:((rs.length:Int)==60)=true:=by rw[beq_iff_eq];omega
                  have a4:Hid (dy s= .bad 4 (m+1)):=Fk (by rw[b6,if_pos d6]);clear b6 d6;go_wp2_with fail
                  refine (gW 4 ((m:Int)+1) _).mono ?_;rintro e av ⟨g,rfl,hg,I⟩;have D:=(k8.out).keep I (by simp);have c0:av.cell? ⟨br,0,none⟩=some (FD none 0 0):=D.cell 0;have c1:av.cell? ⟨br,1,none⟩=some (FD none 0 0):=D.cell 1;have f0:=D.frozen 0;have f1:=D.frozen 1;go_wp2;refine bodyPost_ret (v:= .tuple #[.agg #[FD none 0 0,FD none 0 0],.iface 73 (FE (some ⟨g,0,none⟩))]) (by simp[results,Tryz.results18,go_sem,c0,c1]) rfl ⟨?_,?_⟩
                  · rw[a4.out]
                    have U:g≠br:=hg.ne D (by decide);exact ⟨g,rfl,((lu hg (by omega)).far U _).far U _⟩
                  · exact (((f4.out).trans I).setCell (.inr H) _).setCell (.inr H) _
                · have t1:((rs.length:Int)==60)=false:=by rw[beq_eq_false_iff_ne];omega
                  rw[if_neg d6] at b6;have j3:=Fk b6;clear b6;obtain ⟨us,g0,e8,hZ⟩:=f7.out.keep a3.out;have kz:=Fk g0;have co:=Fk e8;have k9:=Fk hZ;have ba:=Fk (bm.out.keep a3.out (by simp));have ks:wr.frozen? ⟨bt,1,none⟩=false:=ba.out.frozen 1;have lp:bt<wr.heap.size:=ba.out.lt;have mb:w5.heap.size≤wr.heap.size:=Ft cd.out.size a3.out.size;have g4:(Value.slice B0 rs.length d0).ownBlock≠some bt:=jr co.out ba.out (by decide);clear g0 e8 hZ;go_wp2_with (at_builtin;(refine wpList_append_lies _ rfl _ _ 52 rfl w5.heap.size 89 ir _ 1 24 Tryz.underlying52 ie hh hH ha rfl (by decide) _ rs.length us rfl (co.out.alloc _) ⟨wr.heap.size,0,none⟩ 1 1 [FD (some ⟨gq,0,none⟩) j cq] rfl rfl (Fx (heap_alloc_new _ _)) (by simp[Value.oneCell']) (by decide) (by simp only[maxLen];omega) (by omega) (by simp;omega) _ rfl ?_);intro gw hD w9 b9 ad h0 h4;obtain ⟨lG,l3⟩:=aC ad (aB ⟨z1,ks⟩ _) g4)
                  have B9:ao w9 bt 54 #[FD (some ⟨gv,0,none⟩) j cv,FD B0 rs.length d0]:=(ad.block bt (ba.out.alloc _).lt (fun e=>g4 e.symm)).trans (ba.out.alloc _);have dt:wr.ownsRow w5.heap.size 46 3 (FD (some ⟨gq,0,none⟩) j cq) q.length (al q):=by
                    rw[HQ.out];exact gX (aE cm.out a3.out (fun _ _=>by simp)) (Ft b7.out.size d5.out.size)
                  have hU:=Fk (gY kz.out k9.out co.out dt ad b9);have i9:Hid (aa [bt] w5 w9):=Fk (((cd.out.trans (a3.out.weaken (by simp))).alloc (FG #[FD (some ⟨gq,0,none⟩) j cq] 89)).grown ad (fun g hg=> .inr (co.out.lt g hg).1));have HB9':=Fk B9;clear b9 ad h0 h4 dt B9;go_wp2;go_roundw
                  case rel=>exact ⟨m+1,_,rs++[q],by omega,by go_num,(HB9'.out.set 1 _).congr rfl,iK.set hU.out HB9'.out (by decide) (by decide),j3.out.symm,⟨by simp;omega,fun r hr=>by
                    rcases List.mem_append.1 hr with hr|hr
                    · exact hb.out r hr
                    · rw[List.mem_singleton] at hr
                      rw[hr,HQ.out]⟩,i9.out.setCell (.inl (by simp)) _⟩
                  case measure=>simp[intOf];omega
            · have t1:(k != n)=true:=by rw[bne_iff_ne];exact d8
              have t2:((k:Int) != (n:Int))=true:=by rw[bne_iff_ne];omega
              have a4:Hid (dy s= .bad 3 (m+1)):=Fk (by rw[c3.out,en.out,vu (by rw[HQ.out,cy.out];exact d8)];rfl);go_wp2_with fail
              refine (gW 3 ((m:Int)+1) _).mono ?_;rintro e av ⟨g,rfl,hg,I⟩;have D:=(el.out).keep I (by simp);have c0:av.cell? ⟨br,0,none⟩=some (FD none 0 0):=D.cell 0;have c1:av.cell? ⟨br,1,none⟩=some (FD none 0 0):=D.cell 1;have f0:=D.frozen 0;have f1:=D.frozen 1;go_wp2;refine bodyPost_ret (v:= .tuple #[.agg #[FD none 0 0,FD none 0 0],.iface 73 (FE (some ⟨g,0,none⟩))]) (by simp[results,Tryz.results18,go_sem,c0,c1]) rfl ⟨?_,?_⟩
              · rw[a4.out]
                have U:g≠br:=hg.ne D (by decide);exact ⟨g,rfl,((lu hg (by omega)).far U _).far U _⟩
              · exact (((cg.out).trans I).setCell (.inr H) _).setCell (.inr H) _
      · obtain rfl:m=N-1:=by omega
        have a4:Hid (dy s= .bad 3 (N-1)):=Fk (by
          rw[←cj,List.drop_of_length_le (by rw[List.length_tail,eA.out];omega)];rfl)
        have bk:=Fk (hG.out.keep a6 (by simpa using c4));have ct:=Fk hk;clear cj cr a0 hk a6 g8;go_wp2_with fail
        refine (gW 3 ((N:Int)-1) _).mono ?_;rintro e av ⟨g,rfl,hg,I⟩;have D:=(bk.out).keep I (by simp);have c0:av.cell? ⟨br,0,none⟩=some (FD none 0 0):=D.cell 0;have c1:av.cell? ⟨br,1,none⟩=some (FD none 0 0):=D.cell 1;have f0:=D.frozen 0;have f1:=D.frozen 1;go_wp2;refine bodyPost_ret (v:= .tuple #[.agg #[FD none 0 0,FD none 0 0],.iface 73 (FE (some ⟨g,0,none⟩))]) (by simp[results,Tryz.results18,go_sem,c0,c1]) rfl ⟨?_,?_⟩
        · rw[a4.out]
          have U:g≠br:=hg.ne D (by decide);exact ⟨g,rfl,((lu hg (by omega)).far U _).far U _⟩
        · exact (((ct.out).trans I).setCell (.inr H) _).setCell (.inr H) _
end
section
open Go.RowKit
theorem BA {s:Bs} {t:Tb} (h:dy s= .ok t) (I:s.length≤1000000) (w:World) (D:gG w) :
  Calls Tryz.prog 18 #[FC (bs s)] w fun e w'=>∃ A B c d,e=FF (.tuple #[.agg #[FD A t.cols.length c,FD B t.rows.length d],.nilIface])∧aY w' t A B c d∧aa [] w w':=by
 have:=vZ s I w D;rw[h] at this;refine this.mono ?_;rintro e w' ⟨⟨A,B,c,d,M,J⟩,H⟩;exact ⟨A,B,c,d,M,J,H⟩
end
section
open Go.RowKit Go.Shelf Go.ChangeShapes Go.WideShapes
theorem En.p10g:Tryz.prog.globalNamed "internal/strconv.uint64pow10" = some 10:=by kernel_rfl
theorem En.p10t:(Tryz.prog.globals[10]?).map (·.type)=some 283:=by kernel_rfl
theorem En.kg:Tryz.prog.globalNamed "foreman/table.kinds" = some 0:=by kernel_rfl
theorem En.kt:(Tryz.prog.globals[0]?).map (·.type)=some 121:=by kernel_rfl
theorem En.sg:Tryz.prog.globalNamed "strconv.ErrSyntax" = some 6:=by kernel_rfl
theorem En.st:(Tryz.prog.globals[6]?).map (·.type)=some 34:=by kernel_rfl
theorem En.rg:Tryz.prog.globalNamed "strconv.ErrRange" = some 7:=by kernel_rfl
theorem En.rt:(Tryz.prog.globals[7]?).map (·.type)=some 34:=by kernel_rfl
theorem CX {D:List (String×DataW Unit)} {W:World}
  (N:D.filter (fun x=>x.1 == "internal/strconv.uint64pow10")=[("internal/strconv.uint64pow10",Rows.laid_internal_strconv_uint64pow10)])
  (M:D.filter (fun x=>x.1 == "foreman/table.kinds")=[("foreman/table.kinds",Rows.laid_foreman_table_kinds)])
  (U:D.filter (fun x=>x.1 == "strconv.ErrSyntax")=[("strconv.ErrSyntax",Rows.laid_strconv_ErrSyntax)])
  (V:D.filter (fun x=>x.1 == "strconv.ErrRange")=[("strconv.ErrRange",Rows.laid_strconv_ErrRange)])
  (h:laidMet Tryz.prog D W) (Z:W.ShapedOpen Tryz.prog):gG W:=by
 refine ⟨?_,?_,?_,lF En.sg En.st Tryz.underlying34 (gF _ _ U h),lF En.rg En.rt Tryz.underlying34 (gF _ _ V h)⟩
 ·have e:(Rows.laid_internal_strconv_uint64pow10:DataW Unit)=Lib.tabData .u64 Lib.pow10Tab:=by kernel_rfl
  have h':=gF _ _ N h;rw[e] at h';exact Lib.tabIs_of_head En.p10g En.p10t Tryz.underlying283 Tryz.underlying247 (by kernel_rfl) (by kernel_rfl) h'
 ·have e:(Rows.laid_foreman_table_kinds:DataW Unit)= .agg ([[],[105,110,116],[116,101,120,116]].map fun z=> .lit (.string z)):=by kernel_rfl
  have h':=gF _ _ M h;rw[e] at h';obtain ⟨ps,⟨g',t',cs,fuel,p,q,J,I,H,hd,_,_⟩,_⟩:=h';obtain rfl:=Option.some.inj (En.kg.symm.trans J);obtain rfl:=Option.some.inj (En.kt.symm.trans I);have O:=kc Tryz.underlying121 Tryz.underlying9 (by kernel_rfl) (by kernel_rfl) hd;intro j hj;rw[World.var?_cell En.kg H j,←Array.getElem?_toList,O];rcases j with _|_|_|j
  ·rfl
  ·rfl
  ·rfl
  omega
 exact Go.Proofs.cell_of_shapedOpen_int (t:=3) (zero:= #[.int .i64 0]) Z (of_decide_eq_true (by kernel_rfl)) (by kernel_rfl) rfl (by kernel_rfl) (by kernel_rfl) Tryz.underlying3
end
end Go.Proofs.YtecpeogejjibaaaGreatDoor
