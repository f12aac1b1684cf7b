/- Write. -/
import Derived.Test.YtelafmakgokhbaaDoorDisk
namespace Go.Proofs.YtelafmakgokhbaaDoor
open Go.RowKit
attribute [local go_sem] bs_size bs_extract bs_append bs_toList zeros_length
attribute [local go_sem ↓] Go.wp_at_zero Go.wp_at_succ

def padded (s : Bs) : Bs := s ++ zeros.drop s.length
def Dk.write (D : Dk) (at_ : Int) (s : Bs) : Nat × Dk :=
  if at_ < 0 ∨ (D.sure.length : Int) ≤ at_ then (2, D) else if 64 < s.length then (4, D) else if D.fuse = 0 then (14, D)
  else (0, { D.burnt with wait := D.wait ++ [(at_.toNat, padded s)] })

theorem winfo : (Tryd.prog.info? 65).map (fun i => (i.zero, i.size, i.bytes)) = some (some (.agg #[.int .i64 0, .string ⟨#[]⟩]), 2, 24) := by kernel_rfl
theorem write_no (D : Dk) {w : World} {L : List Nat} {g : Nat} (h : Dsk w L g D) (a : Int) (s : Bs) (hc : a < 0 ∨ (D.sure.length : Int) ≤ a) :
    Calls Tryd.prog 12 #[.pointer (some ⟨g, 0, none⟩), .int .i64 a, .string (bs s)] w fun e w' => e = .returned (errV 2) ∧ w = w' := by
  obtain ⟨gs, v, f0, f1, f2, fz⟩ := h.fields
  by_cases hn : a < 0
  · go_enter Tryd.func12, Tryd.ntmps12
    go_wp2
    go_ret
    exact ⟨rfl, rfl⟩
  · have hp : (D.sure.length : Int) ≤ a := by omega
    go_enter Tryd.func12, Tryd.ntmps12
    go_wp2
    go_ret
    exact ⟨rfl, rfl⟩

theorem write_close {D : Dk} {w w1 w2 w3 : World} {L : List Nat} {g gs1 gw cap a : Nat} {s : Bs} {v1 : Value} {o : Obj} (ha : a < D.sure.length)
    (c1 : Blk w1 g 50 #[.slice (some ⟨gs1, 0, none⟩) D.sure.length D.sure.length, v1, .int .i64 D.burnt.fuse])
    (hc : Blk w1 gs1 9 (strs D.sure).toArray ∧ D.sure.length ≤ 16384 ∧ (∀ p ∈ D.wait, p.1 < D.sure.length) ∧ -1 ≤ D.burnt.fuse ∧ D.burnt.fuse ≤ 9223372036854775807)
    (c3 : w1.ownsRow 0 65 2 v1 D.wait.length (waitCells D.wait)) (c4 : g ∈ L) (c5 : gs1 ∈ L) (c6 : ∀ k, v1.ownBlock = some k → k ∈ L) (c7 : ∀ x ∈ L, x < w1.heap.size)
    (hk1 : Keeps L w w1) (hk2 : Keeps [] w1.drew w2)
    (hown3 : w3.ownsRow 0 65 2 (.slice (some ⟨gw, 0, none⟩) (D.wait.length + 1) cap) (D.wait.length + 1) (waitCells D.wait ++ [.int .i64 (a : Int), .string (bs (s ++ List.drop (List.length s) (List.take 64 zeros)))]))
    (hgrow3 : (w2.alloc o).grownBy w3 v1.ownBlock) (hat3 : v1.ownBlock = some gw ∨ gw = (w2.alloc o).heap.size) (hlt3 : gw < w3.heap.size) :
    ∃ L', Dsk (w3.setCell ⟨g, 1, none⟩ (.slice (some ⟨gw, 0, none⟩) (D.wait.length + 1) cap)) L' g { D.burnt with wait := D.wait ++ [(a, padded s)] } ∧
      Keeps L w (w3.setCell ⟨g, 1, none⟩ (.slice (some ⟨gw, 0, none⟩) (D.wait.length + 1) cap)) ∧ (∀ x ∈ L', x ∈ L ∨ w.heap.size ≤ x) := by
  obtain ⟨c2, c8, c9, c10, c11⟩ := hc
  have hp : s ++ List.drop (List.length s) (List.take 64 zeros) = padded s := by
    unfold padded
    rw [List.take_of_length_le (by rw [zeros_length]; omega)]
  rw [hp] at hown3
  have k12 : Keeps [] w1 (w2.alloc o) := (Keeps.trans ((Keeps.refl [] w1).drew) hk2).alloc o
  have k13 : Keeps L w1 w3 := (k12.of_nil (L := L)).grown hgrow3 (fun k hk => .inl (c6 k hk))
  have k14 : Keeps L w1 (w3.setCell ⟨g, 1, none⟩ (.slice (some ⟨gw, 0, none⟩) (D.wait.length + 1) cap)) := k13.setCell (.inl c4) _
  have hg1 : v1.ownBlock ≠ some g := own_ne c3 c1 (by decide)
  have hg2 : v1.ownBlock ≠ some gs1 := own_ne c3 c2 (by decide)
  have b1 : Blk w3 g 50 #[.slice (some ⟨gs1, 0, none⟩) D.sure.length D.sure.length, v1, .int .i64 D.burnt.fuse] :=
    (hgrow3.block g (Nat.lt_of_lt_of_le c1.lt k12.size) (Ne.symm hg1)).trans (c1.keep k12 (by simp))
  have b2 : Blk w3 gs1 9 (strs D.sure).toArray := (hgrow3.block gs1 (Nat.lt_of_lt_of_le c2.lt k12.size) (Ne.symm hg2)).trans (c2.keep k12 (by simp))
  have hne : gs1 ≠ g := b2.ne b1 (by decide)
  have hgw : gw ≠ g := by
    have := own_ne hown3 b1 (by decide)
    intro e
    subst e
    exact this rfl
  have hwN : w1.heap.size ≤ (w2.alloc o).heap.size := k12.size
  refine ⟨gw :: L, ⟨gs1, .slice (some ⟨gw, 0, none⟩) (D.wait.length + 1) cap, (b1.set 1 _).congr ?_, ?_, ?_, by simp [c4], by simp [c5], by simp [Value.ownBlock], ?_, ?_, ?_, c10, c11⟩, hk1.trans k14, ?_⟩
  · rw [burnt_sure]; rfl
  · show Blk _ gs1 _ (strs D.burnt.sure).toArray
    rw [burnt_sure]; exact b2.far hne _
  · show World.ownsRow _ 0 _ 2 _ (D.wait ++ [(a, padded s)]).length (waitCells (D.wait ++ [(a, padded s)]))
    rw [waitCells_append, List.length_append]
    exact ownsRow_setCell_other hown3 (by simp [Value.ownBlock]; exact hgw) _
  · intro x hx
    have hsz : (w3.setCell ⟨g, 1, none⟩ (.slice (some ⟨gw, 0, none⟩) (D.wait.length + 1) cap)).heap.size = w3.heap.size := by simp [World.setCell]
    rw [hsz]
    rcases List.mem_cons.1 hx with rfl | hx
    · exact hlt3
    · exact Nat.lt_of_lt_of_le (c7 x hx) k13.size
  · show D.burnt.sure.length ≤ _
    rw [burnt_sure]; exact c8
  · intro p hp'
    show p.1 < D.burnt.sure.length
    rw [burnt_sure]
    rcases List.mem_append.1 hp' with h | h
    · exact c9 p h
    · rw [List.mem_singleton.1 h]; exact ha
  · intro x hx
    rcases List.mem_cons.1 hx with rfl | hx
    · rcases hat3 with e | e
      · exact .inl (c6 _ e)
      · right
        have := hk1.size
        omega
    · exact .inl hx
set_option maxRecDepth 100000 in
theorem write_ok (D : Dk) {w : World} {L : List Nat} {g : Nat} (h : Dsk w L g D) (a : Nat) (s : Bs) (ha : a < D.sure.length) (hs : s.length ≤ 64) (hf : D.fuse ≠ 0) (hwl : D.wait.length ≤ 4294967296) :
    Calls Tryd.prog 12 #[.pointer (some ⟨g, 0, none⟩), .int .i64 a, .string (bs s)] w fun e w' => e = .returned (errV 0) ∧
      ∃ L', Dsk w' L' g { D.burnt with wait := D.wait ++ [(a, padded s)] } ∧ Keeps L w w' ∧ (∀ x ∈ L', x ∈ L ∨ w.heap.size ≤ x) := by
  obtain ⟨gs, v, f0, f1, f2, fz⟩ := h.fields
  have hb := (burn_any h)
  have hbt : decide (D.fuse ≠ 0) = true := by simpa using hf
  rw [hbt] at hb
  have HB := Lib.hid hb
  clear hb hbt
  go_enter Tryd.func12, Tryd.ntmps12
  go_wp2_with (go_at_call 26; refine HB.out.mono ?_; rintro e w1 ⟨rfl, hD1, hk1⟩)
  obtain ⟨gs1, v1, c1, c2, c3, c4, c5, c6, c7, c8, c9, c10, c11⟩ := id hD1
  rw [burnt_wait] at c3 c9
  rw [burnt_sure] at c1 c2 c8 c9
  have f1' : w1.cell? ⟨g, 1, none⟩ = some v1 := by rw [c1.cell]; rfl
  have fz' : w1.frozen? ⟨g, 1, none⟩ = false := c1.frozen 1
  obtain ⟨i0, hi, hz0, hz1, hz2⟩ := info_parts winfo
  have hs1 : (0 : Int) ≤ (s.length : Int) := by omega
  have HC := Lib.hid (show Blk w1 gs1 9 (strs D.sure).toArray ∧ D.sure.length ≤ 16384 ∧ (∀ p ∈ D.wait, p.1 < D.sure.length) ∧ -1 ≤ D.burnt.fuse ∧ D.burnt.fuse ≤ 9223372036854775807 from ⟨c2, c8, c9, c10, c11⟩)
  have H1 := Lib.hid c1
  have H6 := Lib.hid c6
  have H7 := Lib.hid c7
  clear c1 c2 c6 c7 c8 c9 c10 c11 hD1 f0 f1 f2 fz
  have fS : w1.cell? ⟨g, 1, none⟩ = some v1 ∧ w1.frozen? ⟨g, 1, none⟩ = false := ⟨f1', fz'⟩
  have hv1 : v1.ownBlock ≠ some g := own_ne c3 H1.out (by decide)
  go_region_law (first | (refine step_append_lies _ (by rfl) _ _ _ (by rfl) 0 65 i0 _ 2 24 Tryd.underlying48 hi hz0 hz1 hz2 rfl (by decide) v1 D.wait.length (waitCells D.wait) (by rfl) (own_alloc_of c3 (by assumption)) ⟨w2.heap.size, 0, none⟩ 1 1 [.int .i64 a, .string (bs (s ++ List.drop (List.length s) (List.take 64 zeros)))] (by rfl) rfl (World.news_of_block (heap_alloc_new _ _)) (by simp [Value.oneCell']) (by decide) (by simp only [maxLen]; omega) (by omega) (Nat.zero_le _) _ rfl ?_; intro gw cap w3 hown3 hgrow3 hat3 hlt3; obtain ⟨fS3, fZ3⟩ := fld_grown hgrow3 (fld_alloc (fld_keeps hk2 fS (by simp)) _) hv1) | (go_simp; go_at_call 27; refine (zero_any _).mono ?_; rintro e w2 ⟨rfl, hk2⟩; obtain ⟨fS2, fZ2⟩ := fld_keeps hk2 fS (by simp); have gl2 : g < w2.heap.size := World.block_lt_of_cell? w2 ⟨g, 1, none⟩ fS2))
  all_goals go_wp2
  all_goals go_ret
  all_goals exact ⟨rfl, write_close ha H1.out HC.out c3 c4 c5 H6.out H7.out hk1 hk2 hown3 hgrow3 hat3 hlt3⟩

theorem write_long (D : Dk) {w : World} {L : List Nat} {g : Nat} (h : Dsk w L g D) (a : Nat) (s : Bs) (ha : a < D.sure.length) (hs : 64 < s.length) :
    Calls Tryd.prog 12 #[.pointer (some ⟨g, 0, none⟩), .int .i64 a, .string (bs s)] w fun e w' => e = .returned (errV 4) ∧ w = w' := by
  obtain ⟨gs, v, f0, f1, f2, fz⟩ := h.fields
  have hs' : (64 : Int) < (s.length : Int) := by omega
  go_enter Tryd.func12, Tryd.ntmps12
  go_wp2
  go_ret
  exact ⟨rfl, rfl⟩
theorem write_spent (D : Dk) {w : World} {L : List Nat} {g : Nat} (h : Dsk w L g D) (a : Nat) (s : Bs) (ha : a < D.sure.length) (hs : s.length ≤ 64) (hf : D.fuse = 0) :
    Calls Tryd.prog 12 #[.pointer (some ⟨g, 0, none⟩), .int .i64 a, .string (bs s)] w fun e w' => e = .returned (errV 14) ∧ w = w' := by
  obtain ⟨gs, v, f0, f1, f2, fz⟩ := h.fields
  rw [hf] at f2
  have hb := Lib.hid (burn_zero g w f2)
  clear hf
  go_enter Tryd.func12, Tryd.ntmps12
  go_wp2_with (go_at_call 26; refine hb.out.mono ?_; rintro e w1 ⟨rfl, rfl⟩)
  go_ret
  exact ⟨rfl, rfl⟩

/-- Write, whatever it is given. -/
theorem write_any (D : Dk) {w : World} {L : List Nat} {g : Nat} (h : Dsk w L g D) (a : Int) (s : Bs) (hwl : D.wait.length ≤ 4294967296) :
    Calls Tryd.prog 12 #[.pointer (some ⟨g, 0, none⟩), .int .i64 a, .string (bs s)] w fun e w' => e = .returned (errV (D.write a s).1) ∧
      ∃ L', Dsk w' L' g (D.write a s).2 ∧ Keeps L w w' ∧ (∀ x ∈ L', x ∈ L ∨ w.heap.size ≤ x) := by
  by_cases h1 : a < 0 ∨ (D.sure.length : Int) ≤ a
  · have e : D.write a s = (2, D) := by unfold Dk.write; rw [if_pos h1]
    rw [e]
    refine (write_no D h a s h1).mono ?_
    rintro e w' ⟨rfl, rfl⟩
    exact ⟨rfl, L, h, Keeps.refl _ _, fun x hx => .inl hx⟩
  · obtain ⟨n, rfl⟩ := Int.eq_ofNat_of_zero_le (show 0 ≤ a by omega)
    have ha : n < D.sure.length := by omega
    by_cases h2 : 64 < s.length
    · have e : D.write n s = (4, D) := by unfold Dk.write; rw [if_neg h1, if_pos h2]
      rw [e]
      refine (write_long D h n s ha h2).mono ?_
      rintro e w' ⟨rfl, rfl⟩
      exact ⟨rfl, L, h, Keeps.refl _ _, fun x hx => .inl hx⟩
    · by_cases h3 : D.fuse = 0
      · have e : D.write n s = (14, D) := by unfold Dk.write; rw [if_neg h1, if_neg h2, if_pos h3]
        rw [e]
        refine (write_spent D h n s ha (by omega) h3).mono ?_
        rintro e w' ⟨rfl, rfl⟩
        exact ⟨rfl, L, h, Keeps.refl _ _, fun x hx => .inl hx⟩
      · have e : D.write n s = (0, { D.burnt with wait := D.wait ++ [(n, padded s)] }) := by unfold Dk.write; rw [if_neg h1, if_neg h2, if_neg h3, Int.toNat_natCast]
        rw [e]
        exact write_ok D h n s ha (by omega) h3 hwl
end Go.Proofs.YtelafmakgokhbaaDoor
