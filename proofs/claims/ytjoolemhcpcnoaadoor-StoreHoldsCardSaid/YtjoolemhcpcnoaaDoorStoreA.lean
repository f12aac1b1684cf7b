/- store: head, sectors, Size. -/
import Derived.Test.YtjoolemhcpcnoaaDoorSum
import Derived.Test.YtjoolemhcpcnoaaDoorLost
namespace Go.Proofs.YtjoolemhcpcnoaaDoor
open Go.RowKit
attribute [local go_sem] bs_size bs_extract bs_append bs_toList
/-- The table of rounds lies where it was laid. -/
def Rnds (w : World) : Prop := ∀ j, j < 64 → w.cell? ⟨1, j, none⟩ = some (.int .u32 (kt j))
theorem Rnds.keep {L : List Nat} {w w' : World} (h : Rnds w) (hk : Keeps L w w') (hL : 1 ∉ L) : Rnds w' := fun j hj => hk.cell_of (h j hj) hL
theorem Rnds.lt {w : World} (h : Rnds w) : 1 < w.heap.size := World.block_lt_of_cell? w _ (h 0 (by omega))
theorem Rnds.quiet {w w' : World} (h : Rnds w) (hk : Keeps [] w w') : Rnds w' := h.keep hk (by simp)

def secs (n : Nat) : Nat := 1 + (n + 63) / 64
theorem sectors_any (n : Nat) (hn : n ≤ 1000000) (w : World) : Calls Tryd.prog 61 #[.int .i64 (n : Int)] w fun e w' => e = .returned (.int .i64 (secs n : Nat)) ∧ w = w' := by
  go_enter Tryd.func61, Tryd.ntmps61
  go_wp2
  go_ret
  refine ⟨?_, rfl⟩
  show Ending.returned (.int .i64 _) = .returned (.int .i64 _)
  congr 2
  unfold secs
  omega
theorem size_any (D : Dk) {w : World} {L : List Nat} {g : Nat} (h : Dsk w L g D) : Calls Tryd.prog 40 #[.pointer (some ⟨g, 0, none⟩)] w fun e w' => e = .returned (.int .i64 (D.sure.length : Nat)) ∧ w = w' := by
  obtain ⟨gs, v, f0, f1, f2, fz⟩ := h.fields
  clear h
  go_enter Tryd.func40, Tryd.ntmps40
  go_wp2
  go_ret
  exact ⟨rfl, rfl⟩

/-- A record's first sector, as far as it says anything. -/
def headL (s : Bs) : Bs := [114, 99, UInt8.ofNat s.length, UInt8.ofNat (s.length / 256)] ++ shaL s
theorem headL_length (s : Bs) : (headL s).length = 36 := by unfold headL; rw [List.length_append, shaL_length]; rfl
theorem u8_nat (n : Nat) : IntKind.u8.wrap (n : Int) = ((UInt8.ofNat n).toNat : Int) := by
  have h : (UInt8.ofNat n).toNat = n % 256 := UInt8.toNat_ofNat'
  rw [h]
  show (n : Int).emod 256 = _
  rfl
set_option maxRecDepth 100000 in
set_option maxHeartbeats 2000000 in
theorem head_any (s : Bs) (hs : s.length ≤ 1000000) (w : World) (hR : Rnds w) : Calls Tryd.prog 62 #[.string (bs s)] w fun e w' => e = .returned (.string (bs (headL s))) ∧ Keeps [] w w' := by
  have HR := Lib.hid hR
  clear hR
  have hcv : ∀ (W : World) (g : Nat), W.cell? ⟨g, 0, none⟩ = some (.int .u8 (IntKind.u8.wrap (s.length : Int))) → W.cell? ⟨g, 1, none⟩ = some (.int .u8 (IntKind.u8.wrap ((s.length : Int) / 256))) →
      (convert 87 9 (.slice (some ⟨g, 0, none⟩) 2 2)).run Tryd.prog W = .ok (.string (bs [UInt8.ofNat s.length, UInt8.ofNat (s.length / 256)])) W := fun W g h0 h1 =>
    run_convert_bytes_back (P := Tryd.prog) W 87 9 5 ⟨g, 0, none⟩ 2 [UInt8.ofNat s.length, UInt8.ofNat (s.length / 256)] Tryd.underlying87 Tryd.underlying5 Tryd.underlying9 (fun j hj => by
      rcases j with _ | _ | j
      · rw [add_at]; refine h0.trans ?_; rw [u8_nat]; rfl
      · rw [add_at]; refine h1.trans ?_; rw [show (s.length : Int) / 256 = ((s.length / 256 : Nat) : Int) from rfl, u8_nat]; rfl
      · simp at hj; omega)
  have hsl : (shaL s).length ≤ 32 := by rw [shaL_length]; exact Nat.le_refl _
  go_enter Tryd.func62, Tryd.ntmps62
  go_wp2
  go_region_with (go_at_call 22; refine (sum_any s (by omega) _ (by first | exact HR.out | exact (HR.out.quiet ((Keeps.refl _ _).alloc _).drew) | exact (HR.out.quiet ((Keeps.refl _ _).alloc _)))).mono ?_; rintro e w5 ⟨rfl, hk⟩; have q0 := fun h => hk.cell (p := ⟨w.heap.size, 0, none⟩) h (by simp); have q1 := fun h => hk.cell (p := ⟨w.heap.size, 1, none⟩) h (by simp))
  all_goals go_wp2
  all_goals go_ret
  all_goals refine ⟨show Ending.returned (.string (bs [114, 99] ++ bs [UInt8.ofNat s.length, UInt8.ofNat (s.length / 256)] ++ bs (shaL s))) = .returned (.string (bs (headL s))) from by rw [bs_append, bs_append]; rfl, ?_⟩
  all_goals first | exact (((Keeps.refl [] w).drew.trans hk).alloc _) | exact (((Keeps.refl [] w).alloc _).drew.trans hk) | exact ((Keeps.refl [] w).drew.trans hk)
end Go.Proofs.YtjoolemhcpcnoaaDoor
