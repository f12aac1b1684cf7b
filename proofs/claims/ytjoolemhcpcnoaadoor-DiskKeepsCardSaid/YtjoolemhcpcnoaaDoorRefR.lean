/- The document's disk: Read. -/
import Derived.Test.YtjoolemhcpcnoaaDoorRefS
import Derived.Test.YtjoolemhcpcnoaaDoorDiskR
namespace Go.Proofs.YtjoolemhcpcnoaaDoor
open Go.RowKit
attribute [local go_sem] bs_size bs_extract bs_append bs_toList zeros_length
attribute [local go_sem ↓] Go.wp_at_zero Go.wp_at_succ

theorem lastWrite_more (ws : List (Nat × Bs)) (p : Nat × Bs) (a : Nat) : lastWrite (ws ++ [p]) a = if p.1 = a then some p.2 else lastWrite ws a := by
  unfold lastWrite
  rw [List.reverse_append, List.reverse_singleton, List.singleton_append, List.find?_cons]
  by_cases h : p.1 = a
  · rw [if_pos h, show (p.1 == a) = true by simp [h]]; rfl
  · rw [if_neg h, show (p.1 == a) = false by simp [h]]
/-- What sector a reads as, the first k writes being looked at. -/
def readUp (D : Dk) (a k : Nat) : Bs := match lastWrite (D.wait.take k) a with | some s => s | none => D.sure.getD a []
theorem readUp_hit {D : Dk} {a k : Nat} (h : k < D.wait.length) (e : D.wait[k].1 = a) : readUp D a (k + 1) = D.wait[k].2 := by
  unfold readUp; rw [List.take_succ_eq_append_getElem h, lastWrite_more, if_pos e]
theorem readUp_miss {D : Dk} {a k : Nat} (h : k < D.wait.length) (e : D.wait[k].1 ≠ a) : readUp D a (k + 1) = readUp D a k := by
  unfold readUp; rw [List.take_succ_eq_append_getElem h, lastWrite_more, if_neg e]
def Dk.rread (D : Dk) (a : Int) : Nat × Bs := if a < 0 ∨ (D.sure.length : Int) ≤ a then (2, []) else (0, readUp D a.toNat D.wait.length)

theorem rread_no (D : Dk) {w : World} {L : List Nat} {g : Nat} (h : RDsk w L g D) (a : Int) (hc : a < 0 ∨ (D.sure.length : Int) ≤ a) :
    Calls Tryd.prog 39 #[.pointer (some ⟨g, 0, none⟩), .int .i64 a] w fun e w' => e = .returned (.tuple #[.string (bs []), .int .i64 2]) ∧ w = w' := by
  obtain ⟨A0, c0, A1, c1, A2, c2, f0, f1, f2, f3, fz⟩ := h.fields
  clear h f1 f2 f3 fz
  by_cases hn : a < 0
  · go_enter Tryd.func39, Tryd.ntmps39
    go_wp2
    go_ret2
    exact ⟨rfl, rfl⟩
  · have hp : (D.sure.length : Int) ≤ a := by omega
    go_enter Tryd.func39, Tryd.ntmps39
    go_wp2
    go_ret2
    exact ⟨rfl, rfl⟩
theorem rread_facts {D : Dk} {w : World} {L : List Nat} {g : Nat} (h : RDsk w L g D) {a : Nat} (ha : a < D.sure.length) :
    ∃ gs c0 A1 c1 A2 c2, w.cell? ⟨g, 0, none⟩ = some (.slice (some ⟨gs, 0, none⟩) D.sure.length c0) ∧ w.cell? ⟨g, 1, none⟩ = some (.slice A1 D.wait.length c1) ∧ w.cell? ⟨g, 2, none⟩ = some (.slice A2 D.wait.length c2) ∧
      w.cell? ⟨gs, a, none⟩ = some (.string (bs (readUp D a 0))) ∧
      Aside (∀ k (hk : k < D.wait.length), ∃ g1 g2, A1 = some ⟨g1, 0, none⟩ ∧ A2 = some ⟨g2, 0, none⟩ ∧ w.cell? ⟨g1, k, none⟩ = some (.int .i64 (D.wait[k].1 : Int)) ∧ w.cell? ⟨g2, k, none⟩ = some (.string (bs D.wait[k].2))) := by
  obtain ⟨v0, v1, v2, h1, h2, h3, h4, h5, _⟩ := h
  obtain ⟨A0, c0, rfl, e0⟩ := own_form h2
  obtain ⟨A1, c1, rfl, e1⟩ := own_form h3
  obtain ⟨A2, c2, rfl, e2⟩ := own_form h4
  obtain ⟨gs, rfl, l0, d0⟩ := e0 (by omega)
  refine ⟨gs, c0, A1, c1, A2, c2, by rw [h1.cell]; rfl, by rw [h1.cell]; rfl, by rw [h1.cell]; rfl, d0 _ _ ?_, fun k hk => ?_⟩
  · simp [strs, readUp, lastWrite, ha]
  · obtain ⟨g1, rfl, l1, d1⟩ := e1 (by omega)
    obtain ⟨g2, rfl, l2, d2⟩ := e2 (by omega)
    exact ⟨g1, g2, rfl, rfl, d1 _ _ (ats_at _ _ hk), d2 _ _ (whats_at _ _ hk)⟩

set_option maxRecDepth 100000 in
set_option maxHeartbeats 2000000 in
theorem rread_ok (D : Dk) {w : World} {L : List Nat} {g : Nat} (h : RDsk w L g D) (a : Nat) (ha : a < D.sure.length) (hwl : D.wait.length ≤ 4294967296) :
    Calls Tryd.prog 39 #[.pointer (some ⟨g, 0, none⟩), .int .i64 (a : Int)] w fun e w' => e = .returned (.tuple #[.string (bs (readUp D a D.wait.length)), .int .i64 0]) ∧ w = w' := by
  obtain ⟨gs, c0, A1, c1, A2, c2, f0, f1, f2, f4, f5⟩ := rread_facts h ha
  have F5 := Lib.hid f5
  clear h f5
  go_enter Tryd.func39, Tryd.ntmps39
  go_wp2
  go_loopw [6, 32] (fun v i wr => w = wr ∧ ∃ k : Nat, k ≤ D.wait.length ∧ i = .int .i64 k ∧ v = .string (bs (readUp D a k))) (fun _ i _ => D.wait.length - (intOf i).toNat)
  case atStart => exact ⟨rfl, 0, Nat.zero_le _, rfl, rfl⟩
  case round =>
    obtain ⟨rfl, k, hk, rfl, rfl⟩ := hrel
    by_cases hlt : k < D.wait.length
    · obtain ⟨g1, g2, rfl, rfl, d1, d2⟩ := F5.out k hlt
      by_cases he : D.wait[k].1 = a
      · have hr := Lib.hid (readUp_hit hlt he)
        have hb : ((D.wait[k].1 : Int) == (a : Int)) = true := by rw [he]; simp
        clear he
        go_wp2
        go_roundw
        case rel => exact ⟨trivial, k + 1, hlt, by go_num, by rw [hr.out]⟩
        case measure => simp [intOf]; omega
      · have hr := Lib.hid (readUp_miss hlt he)
        have hb : ((D.wait[k].1 : Int) == (a : Int)) = false := by rw [beq_eq_false_iff_ne]; omega
        clear he
        go_wp2
        go_roundw
        case rel => exact ⟨trivial, k + 1, hlt, by go_num, by rw [hr.out]⟩
        case measure => simp [intOf]; omega
    · obtain rfl : k = D.wait.length := by omega
      go_wp2
      go_ret2
      exact ⟨rfl, rfl⟩
theorem rread_any (D : Dk) {w : World} {L : List Nat} {g : Nat} (h : RDsk w L g D) (a : Int) (hwl : D.wait.length ≤ 4294967296) :
    Calls Tryd.prog 39 #[.pointer (some ⟨g, 0, none⟩), .int .i64 a] w fun e w' => e = .returned (.tuple #[.string (bs (D.rread a).2), .int .i64 ((D.rread a).1 : Nat)]) ∧ w = w' := by
  by_cases h1 : a < 0 ∨ (D.sure.length : Int) ≤ a
  · have e : D.rread a = (2, []) := by unfold Dk.rread; rw [if_pos h1]
    rw [e]
    exact rread_no D h a h1
  · obtain ⟨n, rfl⟩ := Int.eq_ofNat_of_zero_le (show 0 ≤ a by omega)
    have e : D.rread n = (0, readUp D n D.wait.length) := by unfold Dk.rread; rw [if_neg h1, Int.toNat_natCast]
    rw [e]
    exact rread_ok D h n (by omega) hwl
end Go.Proofs.YtjoolemhcpcnoaaDoor
