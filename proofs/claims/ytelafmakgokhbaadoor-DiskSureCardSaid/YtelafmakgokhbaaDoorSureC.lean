/- DiskSure: its predicates. -/
import Derived.Test.YtelafmakgokhbaaDoorSureA
import Derived.Test.YtelafmakgokhbaaDoorContS
namespace Go.Proofs.YtelafmakgokhbaaDoor
open Go.RowKit Go.BigFrame
attribute [local go_sem] bs_size bs_extract bs_append bs_toList errV_0 errV_2 errV_4 errV_14 KW.cell
theorem bs_beqs (a b : Bs) : (bs a == bs b) = decide (a = b) := by
  show (a.toArray == b.toArray) = _
  rw [Bool.eq_iff_iff]
  simp
theorem long1_predS (l : List Bs) (w : World) : PredAt 4 #[] (fun s => decide (64 < s.length)) l w := by
  intro s hs W hk
  show Calls _ _ #[.string (bs s)] W _
  have hd : decide ((64 : Int) < (s.length : Int)) = decide (64 < s.length) := decide_eq_decide.2 (by omega)
  have HD := Lib.hid hd
  clear hd
  go_enter Tryd.func4, Tryd.ntmps4
  go_wp2
  go_ret
  exact ⟨by rw [← HD.out]; rfl, Keeps.refl _ _⟩
set_option maxHeartbeats 2000000 in
set_option maxRecDepth 100000 in
theorem sure4_any (s y : Bs) (hs : s.length ≤ 64) (x2 x4 bk bm k gv N cap : Nat) (hN : 0 < N) (W : World) (h2 : W.cell? ⟨x2, 0, none⟩ = some (.func (.func 8) #[] #[])) (h4 : W.cell? ⟨x4, 0, none⟩ = some (.map (some bm))) (hk : W.cell? ⟨bk, 0, none⟩ = some (.int .i64 (k : Int)))
    (hlook : ∀ W', Keeps [] W W' → (Instr.lookup 35 (.map (some bm)) (.int .i64 (k : Int)) false).run Tryd.prog W' = .ok (.slice (some ⟨gv, 0, none⟩) N cap) W') (hy : W.cell? ⟨gv, 0, none⟩ = some (.string (bs y))) :
    Calls Tryd.prog 18 #[.string (bs s), .pointer (some ⟨x2, 0, none⟩), .pointer (some ⟨x4, 0, none⟩), .pointer (some ⟨bk, 0, none⟩)] W fun e w' => e = .returned (.bool (decide (padded s = y))) ∧ Keeps [] W w' := by
  have hq : ∀ p : KW W, (Instr.lookup 35 (.map (some bm)) (.int .i64 (k : Int)) false).run Tryd.prog p.w = .ok (.slice (some ⟨gv, 0, none⟩) N cap) p.w := fun p => hlook p.w p.k
  have HF : Hid (∀ W', Keeps [] W W' → Calls Tryd.prog 8 #[.string (bs s)] W' fun e W'' => e = .returned (.string (bs (padded s))) ∧ Keeps [] W' W'') := Lib.hid (fun W' _ => full_any s hs W')
  have hd : (padded s == y) = decide (padded s = y) := by rw [Bool.eq_iff_iff]; simp
  rw [← hd]
  generalize padded s = z at HF
  have l2 := World.block_lt_of_cell? _ _ h2
  have l4 := World.block_lt_of_cell? _ _ h4
  have lk := World.block_lt_of_cell? _ _ hk
  have ly := World.block_lt_of_cell? _ _ hy
  have hN2 : (0 : Int) < (N : Int) := by omega
  clear hlook hd
  go_enter Tryd.func18, Tryd.ntmps18
  go_wp2_with fail
  refine wp_region_keeps (by kernel_rfl) (by kernel_rfl) ?_
  repeat (go_big_quiet_step (first | with_reducible exact KW.of HF.out _))
  refine wpQuiet_nil ?_
  intro wx kx
  go_wp2
  go_ret
  exact ⟨rfl, kx⟩
end Go.Proofs.YtelafmakgokhbaaDoor
