/- The reference's oneOf. -/
import Derived.Test.YtpagiajlefejcaaGreatDoorPfiM4
import Derived.Test.YtpagiajlefejcaaGreatDoorPfiM2
import Derived.Test.YtpagiajlefejcaaGreatDoorShTab
set_option linter.unusedSimpArgs false
set_option linter.unusedVariables false
set_option maxRecDepth 100000
set_option maxHeartbeats 16000000
namespace Go.Proofs.YtpagiajlefejcaaGreatDoor
open Go.Lib renaming hid → zx
open Go.Proofs.Tryz renaming prog → zy
open Go.Value renaming string → zQ
open Go.Ending renaming returned → zT
section
open Go.RowKit Go.BigFrame
theorem ue (a:Bs):⟨#[32]⟩++bs a=bs (32::a):=ae [32] a
theorem uf (a:Bs):bs a++⟨#[32]⟩=bs (a++[32]):=ae a [32]
attribute [local go_sem] ag ab ae af ue uf
theorem eS (s U:Bs) (ws:List Bs) (M:32::(U++[32])=bJ ws) (O:∀ v∈ws,v≠[]∧(32:UInt8)∉v) (hs:s.length≤1000000) (ad:U.length≤1000) (w:World) (hE:gH w) :
  Calls zy 77 #[zQ (bs s),zQ (bs U)] w fun e w'=>e=zT (.bool (decide (s∈ws)))∧w=w':=by
 rw[←qu O];obtain ⟨m,hm⟩:=hE.mlen;have A:=zx ((Tryz.strings_Contains (bs s) (bs [32]) m w (by rw[ag];omega) hm).mono (R':=fun e W'=>e=zT (.bool (decide ((32:UInt8)∈s)))∧w=W') (fun e W' ⟨h1,h2⟩=>⟨by rw[h1];exact congrArg (fun b=>Ending.returned (.bool b)) (lI s),h2.symm⟩));obtain ⟨B,D⟩:∃ B,lJ s ws=B:=⟨_,rfl⟩
 rw[D]
 cases s with
 | nil =>
  have HB:Hid (B=false):=zx (by rw[←D];rfl);clear D hE hm M O hs;go_enter Tryz.func77,Tryz.ntmps77
  go_wp2;go_ret;exact ⟨by rw[HB.out];rfl,rfl⟩
 | cons c t =>
  obtain ⟨s,I⟩:∃ s,c::t=s:=⟨_,rfl⟩
  rw[I] at A D hs ⊢;have he:List.isEmpty s=false:=by rw[←I];rfl
  clear I;by_cases h:(32:UInt8)∈s
  ·rw[decide_eq_true h] at A
   have HB:Hid (B=false):=zx (by rw[←D];unfold lJ;rw[decide_eq_true h];simp);clear D hE hm M O h;go_enter Tryz.func77,Tryz.ntmps77
   go_wp2_with fail
   refine A.out.mono ?_;rintro ev w2 ⟨rfl,rfl⟩;go_wp2;go_ret;exact ⟨by rw[HB.out];rfl,rfl⟩
  rw[decide_eq_false h] at A;have J:=mC h ws (fun v hv=>(O v hv).2);have Z:=zx ((Tryz.strings_Contains (bs (bJ ws)) (bs (32::(s++[32]))) m w (by rw[ag,←M];simp;omega) hm).mono (R':=fun e W'=>e=zT (.bool B)∧w=W') (fun e W' ⟨h1,h2⟩=>⟨by rw[h1,←D];unfold lJ;rw[decide_eq_false h,he];exact congrArg (fun b=>Ending.returned (.bool b)) (J.trans (by simp)),h2.symm⟩));rw[←M] at Z;clear D hE hm M O h J;go_enter Tryz.func77,Tryz.ntmps77
  go_wp2_with fail
  refine A.out.mono ?_;rintro ev w2 ⟨rfl,rfl⟩;go_wp2_with fail
  refine Z.out.mono ?_;rintro ev w2 ⟨rfl,rfl⟩;go_wp2;go_ret;exact ⟨rfl,rfl⟩
end
end Go.Proofs.YtpagiajlefejcaaGreatDoor
