/- api.Tell of an api.Errno. The columns that jobs make are at most six. No program in sight. Jobs as plain data: the laws. No program in sight. -/
import Derived.Test.YtnjjajanfedjiaaGreatDoorPtuM31
import Derived.Test.YtnjjajanfedjiaaGreatDoorPtuM21
import Derived.Test.YtnjjajanfedjiaaGreatDoorPtuM2
set_option linter.unusedSimpArgs false
set_option linter.unusedVariables false
namespace Go.Proofs.YtnjjajanfedjiaaGreatDoor
open Go.RowKit Go.BigFrame
theorem tell_errno (e : Int) (w : World) (hE : ErrTy w) :
  Calls Tryz.prog 49 #[.iface 27 (.int .i64 e)] w fun ev w' => ev = .returned (.int .i64 e) ∧ Keeps [] w w' := by
 have hE' : ∀ o, (w.alloc o).cell? ⟨3, 0, none⟩ = some (.iface 216 (.agg #[.pointer (some ⟨13, 33, none⟩)])) := fun o => (World.cell?_alloc_lt w o ⟨3, 0, none⟩ (World.block_lt_of_cell? w ⟨3, 0, none⟩ hE)).trans hE
 have HE := Lib.hid hE'
 clear hE hE'
 go_enter Tryz.func49, Tryz.ntmps49
 go_wp2_with (go_at_call 85; refine (as_hit _ _ (.int .i64 0) _ (HE.out _) (by simp) (by simp)).mono ?_; rintro ev w' ⟨rfl, rfl⟩)
 go_ret
 refine ⟨by simp, ?_⟩
 repeat first | exact Keeps.refl _ _ | refine Keeps.alloc ?_ _ | refine Keeps.setCell ?_ (.inr (Nat.le_refl _)) _
end Go.Proofs.YtnjjajanfedjiaaGreatDoor
namespace Go.Proofs.YtnjjajanfedjiaaGreatDoor
theorem pickGo_len {a : List Cl} : ∀ {ns seen : List Bs} {acc out : List Cl}, pickGo a seen ns acc = .ok out → out.length = acc.length + ns.length
 | [], seen, acc, out, h => by
  unfold pickGo at h
  cases h
  rfl
 | n :: ns, seen, acc, out, h => by
  unfold pickGo at h
  split at h
  ·cases h
  ·split at h
   ·cases h
   ·rw [pickGo_len h, List.length_append, List.length_singleton, List.length_cons]
    omega
theorem colsJ_six {j : Jb} {ins cs : List (List Cl)} (h : colsJ j ins = .ok cs) (hi : ∀ l ∈ ins, l.length ≤ 6) : ∀ c ∈ cs, c.length ≤ 6 := by
 have hg : ∀ k, (ins.getD k []).length ≤ 6 := fun k => by
  by_cases hk : k < ins.length
  ·rw [List.getD_eq_getElem?_getD, List.getElem?_eq_getElem hk]
   exact hi _ (List.getElem_mem hk)
  ·rw [List.getD_eq_getElem?_getD, List.getElem?_eq_none (by omega)]
   simp
 have h0 := hg 0
 have one : ∀ {q : List Cl}, q.length ≤ 6 → ∀ c ∈ [q], c.length ≤ 6 := fun hq c hc => by rw [List.mem_singleton.1 hc]; exact hq
 unfold colsJ at h
 split at h
 ·cases h
 ·split at h
  ·unfold comparedJ at h
   split at h
   ·cases h
   ·split at h
    ·cases h
    ·split at h
     ·cases h
     ·cases h
      intro c hc
      rw [List.eq_of_mem_replicate hc]
      exact h0
  ·split at h
   ·unfold setJ at h
    split at h
    ·cases h
    ·split at h
     ·cases h
     ·split at h
      ·cases h
      ·cases h; exact one h0
   ·split at h
    ·unfold pickedJ at h
     split at h
     ·cases h
     ·rename_i h6
      split at h
      ·cases h
      ·rename_i out ho
       cases h
       refine one ?_
       split
       ·exact h0
       ·rw [pickGo_len ho, List.length_nil, Nat.zero_add]
        omega
    ·split at h
     ·split at h
      ·cases h
      ·cases h; exact one h0
     ·split at h
      ·unfold joinedJ at h
       split at h
       ·cases h
       ·split at h
        ·split at h
         ·cases h
         ·split at h
          ·cases h
          ·split at h
           ·cases h
           ·rename_i h6
            cases h
            exact one (by omega)
        ·cases h
      ·split at h
       ·unfold groupedJ at h
        split at h
        ·cases h
        ·split at h
         ·split at h
          ·cases h
          ·split at h
           ·cases h
           ·cases h
            exact one (by simp)
         ·cases h
       ·cases h; exact one h0
def Six (m : Cm) : Prop := ∀ q ∈ m, q.2.length ≤ 6
theorem Six.get {m : Cm} (h : Six m) (n : Bs) : (getM m n).length ≤ 6 := by
 unfold getM
 induction m with
 | nil => simp
 | cons q m ih =>
  obtain ⟨q1, q2⟩ := q
  rw [List.lookup_cons]
  by_cases hx : n = q1
  ·subst hx
   simp only [beq_self_eq_true]
   exact h _ (List.mem_cons_self ..)
  ·have : (n == q1) = false := by simpa using hx
   rw [this]
   exact ih fun q hq => h q (List.mem_cons_of_mem _ hq)
theorem Six.put {m : Cm} (h : Six m) {n : Bs} {c : List Cl} (hc : c.length ≤ 6) : Six ((n, c) :: m) := fun q hq => by
 rcases List.mem_cons.1 hq with rfl | hq
 ·exact hc
 ·exact h q hq
end Go.Proofs.YtnjjajanfedjiaaGreatDoor
namespace Go.Proofs.YtnjjajanfedjiaaGreatDoor
end Go.Proofs.YtnjjajanfedjiaaGreatDoor
