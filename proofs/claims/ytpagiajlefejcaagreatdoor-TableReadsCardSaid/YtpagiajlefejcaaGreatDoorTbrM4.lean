/- The frame of a law: arguments opened as lists, the handle of the type error. Maps that count names, in memory. table: Less. -/
import Derived.Test.YtpagiajlefejcaaGreatDoorTbrM1
import Derived.Test.YtpagiajlefejcaaGreatDoorRows
import Derived.WalkKit
import Derived.ProofKit
import Derived.OpenShut
import Derived.ShutString
import Derived.ChangeOld
import Derived.ChangeSlices
import Derived.SliceStrings
import Derived.Deep.Slices
import Derived.Carry
import Derived.Handed
import Derived.LaidLaws
import Derived.LaidHandle
import Derived.JoinedOf
import Derived.Stop.Joined
import Derived.Test.YtpagiajlefejcaaGreatDoorTbrM3
import Derived.Test.YtpagiajlefejcaaGreatDoorTbrM2
set_option linter.unusedSimpArgs false
set_option linter.unusedVariables false
namespace Go.Proofs.YtpagiajlefejcaaGreatDoor
open Go.RowKit Go.ChangeShapes Go.WideShapes
theorem Fr.own : ownKnob Tryz.prog.godebug = none := by kernel_rfl
theorem Fr.laidOut : laidOutB Tryz.prog = true := by kernel_rfl
section
variable {P : Program} {H : Type} {enc : TypeId × Value → H} {W : World} {r : Reach} {base : Nat} {t e : TypeId} {v : Value} {d : DataW H} {p : List MemPlace}
theorem Keeps.trod {W' : World} (hl : laidOutB P = true) (hr : P.readableRec t = true) (hrow : t < P.types.size)
  (h : DataW.Trod enc P W 0 (fun _ => true) true t v d p) (hb : Keeps [] W W') (hlt : ∀ x ∈ p, x.block < W.heap.size) :
  DataW.Trod enc P W' 0 (fun b => decide (b < W.heap.size)) true t v d p :=
 WideElems.Trod_stays hl hr hrow h (fun x hx => hb.same (hlt x hx)) (fun x hx => by simpa using hlt x hx)
end
end Go.Proofs.YtpagiajlefejcaaGreatDoor
namespace Go.Proofs.YtpagiajlefejcaaGreatDoor
open Go.RowKit
def CntM (w : World) (b k : Nat) (c : Bs → Nat) : Prop := ∃ mv, MapH Tryz.prog 9 w b mv ∧ mv.length ≤ k ∧ ∀ n, (mv.lookup n).getD (.int .i64 0) = .int .i64 (c n : Int)
theorem CntM.made (w : World) : CntM (w.alloc (.map #[] 0)) w.heap.size 0 fun _ => 0 := ⟨[], MapH.made w, Nat.le_refl _, fun _ => rfl⟩
theorem CntM.keep {L : List Nat} {w w' : World} {b k : Nat} {c : Bs → Nat} (h : CntM w b k c) (hk : Keeps L w w') (hb : b ∉ L) : CntM w' b k c := by
 obtain ⟨mv, h1, h2⟩ := h
 exact ⟨mv, h1.keep hk hb, h2⟩
theorem CntM.lt {w : World} {b k : Nat} {c : Bs → Nat} (h : CntM w b k c) : b < w.heap.size := by obtain ⟨_, h, _⟩ := h; exact h.lt
theorem CntM.look {w : World} {b k : Nat} {c : Bs → Nat} (h : CntM w b k c) (n : Bs) (hn : n.length ≤ 1000000) : (Instr.lookup 116 (.map (some b)) (.string (bs n)) false).run Tryz.prog w = .ok (.int .i64 (c n : Int)) w := by
 obtain ⟨mv, h1, _, h2⟩ := h
 rw [← h2 n]
 exact MapH.look0 h1 (T := 116) (E := 3) Tryz.underlying116 Tryz.underlying9 (by kernel_rfl) n (by simp only [maxLen]; omega)
theorem CntM.put {w : World} {b k : Nat} {c : Bs → Nat} (h : CntM w b k c) (n : Bs) (hn : n.length ≤ 1000000) (hk : k ≤ 1000000) (v : Nat) : ∃ w', (Instr.mapUpdate 116 (.map (some b)) (.string (bs n)) (.int .i64 (v : Int))).run Tryz.prog w = .ok () w' ∧ CntM w' b (k + 1) (fun x => if x = n then v else c x) ∧ w.grownBy w' (some b) := by
 obtain ⟨mv, h1, h3, h2⟩ := h
 obtain ⟨w', hr, h4, hg⟩ := MapH.store h1 (T := 116) (E := 3) Tryz.underlying116 Tryz.underlying9 n (.int .i64 (v : Int)) (by simp only [maxLen]; omega) (by simp only [maxLen]; omega)
 refine ⟨w', hr, ⟨_, h4, by simp; omega, fun x => ?_⟩, hg⟩
 rw [lookup_put]
 show _ = Value.int IntKind.i64 ((if x = n then v else c x : Nat) : Int)
 by_cases hx : x = n
 ·rw [if_pos hx, if_pos hx]; rfl
 ·rw [if_neg hx, if_neg hx]; exact h2 x
end Go.Proofs.YtpagiajlefejcaaGreatDoor
namespace Go.Proofs.YtpagiajlefejcaaGreatDoor
open Go.RowKit
attribute [local go_sem] bs_size bs_extract bs_append bs_toList
theorem less_any (a b : Vl) (w : World) :
  Calls Tryz.prog 16 #[vAgg a, vAgg b] w fun e w' => e = .returned (.bool (lessB a b)) ∧ Keeps [] w w' := by
 obtain ⟨k, n, s⟩ := a
 obtain ⟨k2, n2, s2⟩ := b
 show Calls _ _ #[.agg #[.int .i64 k, .int .i64 n, .string (bs s)], .agg #[.int .i64 k2, .int .i64 n2, .string (bs s2)]] w _
 obtain ⟨R, hR⟩ : ∃ R, lessB ⟨k, n, s⟩ ⟨k2, n2, s2⟩ = R := ⟨_, rfl⟩
 rw [hR]
 by_cases h1 : k = k2
 ·subst h1
  have hb1 : (k != k) = false := by simp
  by_cases h2 : k = 1
  ·have hb2 : (k == 1) = true := by rw [h2]; rfl
   have HR : Hid (R = decide (n < n2)) := Lib.hid (hR.symm.trans ((if_pos rfl).trans (if_pos h2)))
   clear h2 hR
   go_enter Tryz.func16, Tryz.ntmps16
   go_wp2
   go_ret
   exact ⟨by rw [HR.out]; rfl, ((Keeps.refl _ _).alloc _).alloc _⟩
  ·have hb2 : (k == 1) = false := by rw [beq_eq_false_iff_ne]; exact h2
   have HR : Hid (R = Op.bytesLess s s2) := Lib.hid (hR.symm.trans ((if_pos rfl).trans (if_neg h2)))
   clear h2 hR
   go_enter Tryz.func16, Tryz.ntmps16
   go_wp2
   go_ret
   exact ⟨by rw [HR.out]; rfl, ((Keeps.refl _ _).alloc _).alloc _⟩
 ·have hb1 : (k != k2) = true := by rw [bne_iff_ne]; exact h1
  have HR : Hid (R = decide (k < k2)) := Lib.hid (hR.symm.trans (if_neg h1))
  clear h1 hR
  go_enter Tryz.func16, Tryz.ntmps16
  go_wp2
  go_ret
  exact ⟨by rw [HR.out]; rfl, ((Keeps.refl _ _).alloc _).alloc _⟩
end Go.Proofs.YtpagiajlefejcaaGreatDoor
