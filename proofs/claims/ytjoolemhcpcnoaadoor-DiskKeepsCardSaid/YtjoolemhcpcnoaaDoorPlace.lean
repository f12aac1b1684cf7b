/- plain.Place, and bare, at an error that is an api.Errno. -/
import Derived.Test.YtjoolemhcpcnoaaDoorTell
namespace Go.Proofs.YtjoolemhcpcnoaaDoor
open Go.RowKit
theorem at_assert (v : Value) (w : World) : (Instr.typeAssert (.iface 42 v) 30 173 true).run Tryd.prog w = .ok (.tuple #[.pointer none, .bool false]) w := by kernel_rfl
theorem unwrap_assert (v : Value) (w : World) : (Instr.typeAssert (.iface 42 v) 30 161 true).run Tryd.prog w = .ok (.tuple #[.nilIface, .bool false]) w := run_typeAssert_lacksB Tryd.underlying161 (by kernel_rfl) (by kernel_rfl) v _ w
set_option maxRecDepth 100000 in
set_option maxHeartbeats 4000000 in
theorem place_any (e : Nat) (w : World) (hE : ErrTy w) :
    Calls Tryd.prog 89 #[errV e] w fun ev w' => ev = .returned (.tuple #[.int .i64 (e : Int), .int .i64 (-1)]) ∧ Keeps [] w w' := by
  have HT := Lib.hid (tell_any e w hE)
  clear hE
  have ha := at_assert
  have hu := unwrap_assert
  unfold errV at *
  by_cases he : e = 0
  · subst he
    rw [if_pos rfl] at *
    go_enter Tryd.func89, Tryd.ntmps89
    go_wp2_with fail
    refine HT.out.mono ?_
    rintro ev W1 ⟨rfl, k1⟩
    go_wp2
    refine wp_loop_rounds 1 ?_
    rw [rounds_succ]
    go_wp2
    go_ret2
    exact ⟨rfl, k1⟩
  · rw [if_neg he] at *
    clear he
    go_enter Tryd.func89, Tryd.ntmps89
    go_wp2_with fail
    refine HT.out.mono ?_
    rintro ev W1 ⟨rfl, k1⟩
    go_wp2
    refine wp_loop_rounds 1 ?_
    rw [rounds_succ]
    go_wp2
    go_ret2
    exact ⟨rfl, k1⟩

theorem Bare_any (e : Nat) (w : World) :
    Calls Tryd.prog 65 #[.int .i64 (e : Int)] w fun ev w' => ev = .returned (.agg #[.int .i64 (e : Int), .int .i64 (-1)]) ∧ Keeps [] w w' := by
  go_enter Tryd.func65, Tryd.ntmps65
  go_wp2
  refine bodyPost_ret (v := .agg #[.int .i64 (e : Int), .int .i64 (-1)]) (by simp [results, Tryd.f65, go_sem] <;> rfl) rfl ⟨rfl, ?_⟩
  repeat first | exact Keeps.refl _ _ | refine Keeps.drewN ?_ _ | refine Keeps.drew ?_ | refine Keeps.alloc ?_ _ | refine Keeps.setCell ?_ (.inr (by first | exact Nat.le_refl _ | (dsimp only; omega))) _

set_option maxRecDepth 100000 in
theorem is_bare (e f : Nat) (w : World) (hE : ErrTy w) :
    Calls Tryd.prog 64 #[errV e, .agg #[.int .i64 (f : Int), .int .i64 (-1)]] w fun ev w' => ev = .returned (.bool (decide (e = f))) ∧ Keeps [] w w' := by
  have k0 : Keeps [] w (w.alloc (.cells #[.int .i64 (f : Int), .int .i64 (-1)] 107)) := (Keeps.refl _ _).alloc _
  have HP := Lib.hid (place_any e _ (hE.keep k0 (by simp)))
  have K0 := Lib.hid k0
  have hb := (Blk.new w 107 #[.int .i64 (f : Int), .int .i64 (-1)])
  have HB := Lib.hid hb
  clear hE k0 hb
  by_cases hef : e = f
  · have h1 : ((e : Int) == (f : Int)) = true := by simp [hef]
    have hd : decide (e = f) = true := decide_eq_true hef
    rw [hd]
    clear hef hd
    go_enter Tryd.func64, Tryd.ntmps64
    go_wp2_with fail
    refine HP.out.mono ?_
    rintro ev W1 ⟨rfl, k1⟩
    have c0 := k1.cell_of (p := ⟨w.heap.size, 0, none⟩) ((HB.out.cell 0).trans rfl) (by simp)
    have c1 := k1.cell_of (p := ⟨w.heap.size, 1, none⟩) ((HB.out.cell 1).trans rfl) (by simp)
    have K1 := Lib.hid (K0.out.trans k1)
    clear k1
    go_wp2
    go_ret
    exact ⟨rfl, K1.out⟩
  · have h1 : ((e : Int) == (f : Int)) = false := by simp; omega
    have hd : decide (e = f) = false := decide_eq_false hef
    rw [hd]
    clear hef hd
    go_enter Tryd.func64, Tryd.ntmps64
    go_wp2_with fail
    refine HP.out.mono ?_
    rintro ev W1 ⟨rfl, k1⟩
    have c0 := k1.cell_of (p := ⟨w.heap.size, 0, none⟩) ((HB.out.cell 0).trans rfl) (by simp)
    have c1 := k1.cell_of (p := ⟨w.heap.size, 1, none⟩) ((HB.out.cell 1).trans rfl) (by simp)
    have K1 := Lib.hid (K0.out.trans k1)
    clear k1
    go_wp2
    go_ret
    exact ⟨rfl, K1.out⟩

theorem bare_any (e f : Nat) (w : World) (hE : ErrTy w) :
    Calls Tryd.prog 34 #[errV e, .int .i64 (f : Int)] w fun ev w' => ev = .returned (.bool (decide (e = f))) ∧ Keeps [] w w' := by
  have HE := Lib.hid hE
  clear hE
  go_enter Tryd.func34, Tryd.ntmps34
  go_wp2_with fail
  refine (Bare_any f w).mono ?_
  rintro ev W1 ⟨rfl, k1⟩
  go_wp2_with fail
  refine (is_bare e f W1 (HE.out.keep k1 (by simp))).mono ?_
  rintro ev W2 ⟨rfl, k2⟩
  go_wp2
  go_ret
  exact ⟨rfl, k1.trans k2⟩

theorem in_any (n lo hi : Int) (w : World) :
    Calls Tryd.prog 63 #[.int .i64 n, .int .i64 lo, .int .i64 hi] w fun ev w' => ev = .returned (.bool (decide (lo ≤ n ∧ n ≤ hi))) ∧ w = w' := by
  by_cases h1 : lo ≤ n
  · by_cases h2 : n ≤ hi
    · have hd : decide (lo ≤ n ∧ n ≤ hi) = true := decide_eq_true ⟨h1, h2⟩
      rw [hd]
      clear hd
      go_enter Tryd.func63, Tryd.ntmps63
      go_wp2
      go_ret
      exact ⟨rfl, rfl⟩
    · have hd : decide (lo ≤ n ∧ n ≤ hi) = false := decide_eq_false fun h => h2 h.2
      rw [hd]
      clear hd
      go_enter Tryd.func63, Tryd.ntmps63
      go_wp2
      go_ret
      exact ⟨rfl, rfl⟩
  · have hd : decide (lo ≤ n ∧ n ≤ hi) = false := decide_eq_false fun h => h1 h.1
    rw [hd]
    clear hd
    go_enter Tryd.func63, Tryd.ntmps63
    go_wp2
    go_ret
    exact ⟨rfl, rfl⟩
end Go.Proofs.YtjoolemhcpcnoaaDoor
