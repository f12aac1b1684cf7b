/- The document's disk: NewDisk and Write. -/
import Derived.Test.YtjoolemhcpcnoaaDoorRef
namespace Go.Proofs.YtjoolemhcpcnoaaDoor
open Go.RowKit
attribute [local go_sem] bs_size bs_extract bs_append bs_toList zeros_length
attribute [local go_sem ↓] Go.wp_at_zero Go.wp_at_succ
theorem rinfo : (Tryd.prog.info? 3).map (fun i => (i.zero, i.size, i.bytes)) = some (some (.int .i64 0), 1, 8) := by kernel_rfl

def Dk.newFull (n : Nat) : Dk := { sure := List.replicate n zeros, wait := [], fuse := -1 }
theorem rep_snoc (k : Nat) : strs (List.replicate (k + 1) zeros) = strs (List.replicate k zeros) ++ [.string (bs zeros)] := by
  rw [List.replicate_succ', strs_snoc1]

/-- What holds at the head of NewDisk's loop. -/
def RNew (w : World) (k : Nat) (wr : World) : Prop :=
  ∃ v, Blk wr w.heap.size 61 #[v, .slice none 0 0, .slice none 0 0, .int .i64 (-1)] ∧ wr.ownsRow 0 9 1 v k (strs (List.replicate k zeros)) ∧ Keeps [] w wr ∧ (∀ b, v.ownBlock = some b → w.heap.size < b)
theorem rnew_start (w : World) : RNew w 0 (w.alloc (.cells #[.slice none 0 0, .slice none 0 0, .slice none 0 0, .int .i64 (-1)] 61)) :=
  ⟨_, Blk.new _ _ _, World.ownsRow_nil _ _ _ _, (Keeps.refl _ _).alloc _, by simp [Value.ownBlock]⟩
theorem rnew_step {w wr w2 w3 : World} {k gw cap : Nat} {v : Value} {o : Obj}
    (h1 : Blk wr w.heap.size 61 #[v, .slice none 0 0, .slice none 0 0, .int .i64 (-1)]) (h3 : Keeps [] w wr) (h4 : ∀ b, v.ownBlock = some b → w.heap.size < b)
    (hk2 : Keeps [] wr.drew w2) (hown3 : w3.ownsRow 0 9 1 (.slice (some ⟨gw, 0, none⟩) (k + 1) cap) (k + 1) (strs (List.replicate k zeros) ++ [.string (bs zeros)]))
    (hgrow3 : (w2.alloc o).grownBy w3 v.ownBlock) (hat3 : v.ownBlock = some gw ∨ gw = (w2.alloc o).heap.size) :
    RNew w (k + 1) (w3.setCell ⟨w.heap.size, 0, none⟩ (.slice (some ⟨gw, 0, none⟩) (k + 1) cap)) := by
  have k12 : Keeps [] wr (w2.alloc o) := (Keeps.trans ((Keeps.refl [] wr).drew) hk2).alloc o
  have k13 : Keeps [] w w3 := (h3.trans k12).grown hgrow3 (fun b hb => .inr (Nat.le_of_lt (h4 b hb)))
  have hne : v.ownBlock ≠ some w.heap.size := fun e => Nat.lt_irrefl _ (h4 _ e)
  have b1 : Blk w3 w.heap.size 61 #[v, .slice none 0 0, .slice none 0 0, .int .i64 (-1)] :=
    (hgrow3.block _ (Nat.lt_of_lt_of_le h1.lt k12.size) (Ne.symm hne)).trans (h1.keep k12 (by simp))
  have hgw : w.heap.size < gw := by
    have hs : w.heap.size < (w2.alloc o).heap.size := Nat.lt_of_lt_of_le h1.lt k12.size
    rcases hat3 with e | e
    · exact h4 _ e
    · rw [e]; exact hs
  refine ⟨_, (b1.set 0 _).congr rfl, ?_, k13.setCell (.inr (Nat.le_refl _)) _, ?_⟩
  · rw [rep_snoc]
    exact ownsRow_setCell_other hown3 (by simp [Value.ownBlock]; omega) _
  · intro b hb
    have : gw = b := by simpa [Value.ownBlock] using hb
    omega

theorem rnew_no (n : Int) (w : World) (h : n < 8 ∨ 16384 < n) :
    Calls Tryd.prog 33 #[.int .i64 n] w fun e w' => e = .returned (.tuple #[.pointer none, .int .i64 2]) ∧ w = w' := by
  have hI := in_any n 8 16384 w
  rw [show decide (8 ≤ n ∧ n ≤ 16384) = false from decide_eq_false (by omega)] at hI
  have HI := Lib.hid hI
  clear hI h
  go_enter Tryd.func33, Tryd.ntmps33
  go_wp2_with fail
  refine HI.out.mono ?_
  rintro e W1 ⟨rfl, rfl⟩
  go_wp2
  go_ret2
  exact ⟨rfl, rfl⟩

set_option maxRecDepth 100000 in
set_option maxHeartbeats 2000000 in
theorem rnew_yes (n : Nat) (w : World) (h1 : 8 ≤ n) (h2 : n ≤ 16384) :
    Calls Tryd.prog 33 #[.int .i64 (n : Int)] w fun e w' => e = .returned (.tuple #[.pointer (some ⟨w.heap.size, 0, none⟩), .int .i64 0]) ∧
      (∃ L, RDsk w' L w.heap.size (Dk.newFull n) ∧ ∀ x ∈ L, w.heap.size ≤ x) ∧ Keeps [] w w' := by
  obtain ⟨i0, hi, hz0, hz1, hz2⟩ := info_parts sinfo
  have hI := in_any n 8 16384 w
  rw [show decide (8 ≤ (n : Int) ∧ (n : Int) ≤ 16384) = true from decide_eq_true (by omega)] at hI
  have HI := Lib.hid hI
  clear hI
  go_enter Tryd.func33, Tryd.ntmps33
  go_wp2_with fail
  refine HI.out.mono ?_
  rintro e W1 ⟨rfl, rfl⟩
  go_wp2
  go_loopw [11] (fun i wr => ∃ k : Nat, k ≤ n ∧ i = .int .i64 k ∧ RNew w k wr) (fun i _ => n - (intOf i).toNat)
  case atStart => exact ⟨0, Nat.zero_le _, rfl, rnew_start w⟩
  case round =>
    obtain ⟨k, hk, rfl, v, r1, r2, r3, r4⟩ := hrel
    by_cases hlt : k < n
    · have fS : wr.cell? ⟨w.heap.size, 0, none⟩ = some v ∧ wr.frozen? ⟨w.heap.size, 0, none⟩ = false := ⟨by rw [r1.cell]; rfl, r1.frozen 0⟩
      have hv1 : v.ownBlock ≠ some w.heap.size := fun e => Nat.lt_irrefl _ (r4 _ e)
      have H1 := Lib.hid r1
      have H4 := Lib.hid r4
      clear r1 r4
      go_wp2
      go_region_law (first | (refine step_append_lies _ (by rfl) _ _ _ (by rfl) 0 9 i0 _ 1 16 Tryd.underlying22 hi hz0 hz1 hz2 rfl (by decide) v k (strs (List.replicate k zeros)) (by rfl) (own_alloc_of r2 (by assumption)) ⟨w2.heap.size, 0, none⟩ 1 1 [.string (bs zeros)] (by rfl) rfl (World.news_of_block (heap_alloc_new _ _)) (by simp [Value.oneCell']) (by decide) (by simp only [maxLen]; omega) (by omega) (Nat.zero_le _) _ rfl ?_; intro gw cap w3 hown3 hgrow3 hat3 hlt3; obtain ⟨fS3, fZ3⟩ := fld_grown hgrow3 (fld_alloc (fld_keeps hk2 fS (by simp)) _) hv1) | (go_simp; go_at_call 45; refine (rep64 _).mono ?_; rintro e w2 ⟨rfl, hk2⟩; obtain ⟨fS2, fZ2⟩ := fld_keeps hk2 fS (by simp); have gl2 : w.heap.size < w2.heap.size := World.block_lt_of_cell? w2 ⟨w.heap.size, 0, none⟩ fS2))
      all_goals go_wp2
      all_goals go_roundw
      all_goals first
        | exact ⟨k + 1, by omega, by go_num, rnew_step H1.out r3 H4.out hk2 hown3 hgrow3 hat3⟩
        | (simp [intOf]; omega)
    · obtain rfl : k = n := by omega
      go_wp2
      go_ret2
      refine ⟨rfl, ⟨w.heap.size :: v.ownBlock.toList, ⟨v, _, _, r1, ?_, World.ownsRow_nil _ _ _ _, World.ownsRow_nil _ _ _ _, by simp [Value.ownBlock], by simp, ?_, by simp [Value.ownBlock], by simp [Value.ownBlock], ?_, ?_, ?_, ?_, ?_⟩, ?_⟩, r3⟩
      · show World.ownsRow _ 0 _ 1 _ (List.replicate k zeros).length _
        rw [List.length_replicate]; exact r2
      · intro b hb; rw [hb]; simp
      · intro x hx
        rcases List.mem_cons.1 hx with rfl | hx
        · exact r1.lt
        · exact (r2.lt x (by simpa using hx)).2
      · show (List.replicate k zeros).length ≤ _
        rw [List.length_replicate]; exact h2
      · intro p hp; cases hp
      · show (-1 : Int) ≤ -1; decide
      · show (-1 : Int) ≤ 9223372036854775807; decide
      · intro x hx
        rcases List.mem_cons.1 hx with rfl | hx
        · exact Nat.le_refl _
        · exact Nat.le_of_lt (r4 x (by simpa using hx))
end Go.Proofs.YtjoolemhcpcnoaaDoor
