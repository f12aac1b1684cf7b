/- The document's disk: Write. -/
import Derived.Test.YtjoolemhcpcnoaaDoorRefN
import Derived.IntWalk
namespace Go.Proofs.YtjoolemhcpcnoaaDoor
open Go.RowKit
attribute [local go_sem] bs_size bs_extract bs_append bs_toList zeros_length
attribute [local go_sem ↓] Go.wp_at_zero Go.wp_at_succ

/-- The disk's memory, its three rows apart from one another. -/
def RD (w : World) (L : List Nat) (g : Nat) (S : List Bs) (n1 : Nat) (ns : List Value) (n2 : Nat) (xs : List Value) (f : Int) (v0 v1 v2 : Value) : Prop :=
  Blk w g 61 #[v0, v1, v2, .int .i64 f] ∧
    w.ownsRow 0 9 1 v0 S.length (strs S) ∧ w.ownsRow 0 3 1 v1 n1 ns ∧ w.ownsRow 0 9 1 v2 n2 xs ∧
    (∀ k, v0.ownBlock = some k → v2.ownBlock ≠ some k) ∧
    g ∈ L ∧ (∀ k, v0.ownBlock = some k → k ∈ L) ∧ (∀ k, v1.ownBlock = some k → k ∈ L) ∧ (∀ k, v2.ownBlock = some k → k ∈ L) ∧ (∀ x ∈ L, x < w.heap.size)
theorem own_apart {w : World} {base base' : Nat} {e e' : TypeId} {size size' n n' : Nat} {v v' : Value} {xs xs' : List Value} (h : w.ownsRow base e size v n xs) (h' : w.ownsRow base' e' size' v' n' xs') (hne : e ≠ e') :
    v.ownBlock = none ∨ v.ownBlock ≠ v'.ownBlock := by
  rcases h.2 with ⟨rfl, _⟩ | ⟨g, cap, cur, rfl, _, hh, _⟩
  · left; simp [Value.ownBlock]
  · right
    intro he
    have he' : v'.ownBlock = some g := by rw [← he]; simp [Value.ownBlock]
    exact own_ne h' (show Blk w g e cur from hh) hne.symm he'
theorem alloc_size (w : World) (o : Obj) : (w.alloc o).heap.size = w.heap.size + 1 := Array.size_push _

/-- A number more behind the second row. -/
theorem RD.at_more {w1 w2 w3 : World} {L : List Nat} {g : Nat} {S : List Bs} {n1 n2 : Nat} {ns xs : List Value} {f : Int} {v0 v1 v2 u : Value} {gw cap : Nat} (h : RD w1 L g S n1 ns n2 xs f v0 v1 v2) (k12 : Keeps [] w1 w2)
    (hown : w3.ownsRow 0 3 1 (.slice (some ⟨gw, 0, none⟩) (n1 + 1) cap) (n1 + 1) (ns ++ [u])) (hgrow : w2.grownBy w3 v1.ownBlock) (hat : v1.ownBlock = some gw ∨ gw = w2.heap.size) (hlt : gw < w3.heap.size) :
    RD (w3.setCell ⟨g, 1, none⟩ (.slice (some ⟨gw, 0, none⟩) (n1 + 1) cap)) (gw :: L) g S (n1 + 1) (ns ++ [u]) n2 xs f v0 (.slice (some ⟨gw, 0, none⟩) (n1 + 1) cap) v2 ∧
      Keeps L w1 (w3.setCell ⟨g, 1, none⟩ (.slice (some ⟨gw, 0, none⟩) (n1 + 1) cap)) ∧ ∀ x ∈ gw :: L, x ∈ L ∨ w1.heap.size ≤ x := by
  obtain ⟨h1, h2, h3, h4, h5, h6, h7, h8, h9, h10⟩ := h
  have e1 : v1.ownBlock ≠ some g := own_ne h3 h1 (by decide)
  have b1 : Blk w3 g 61 #[v0, v1, v2, .int .i64 f] := (hgrow.block g (Nat.lt_of_lt_of_le h1.lt k12.size) (Ne.symm e1)).trans (h1.keep k12 (by simp))
  have o0 := (own_keep h2 k12 (by simp)).kept hgrow (own_apart h2 h3 (by decide))
  have o2 := (own_keep h4 k12 (by simp)).kept hgrow (own_apart h4 h3 (by decide))
  have hgw : gw ≠ g := fun e => own_ne hown b1 (by decide) (by rw [← e]; simp [Value.ownBlock])
  have k13 : Keeps L w1 w3 := (k12.of_nil (L := L)).grown hgrow (fun k hk => .inl (h8 k hk))
  have hsz := k12.size
  refine ⟨⟨(b1.set 1 _).congr rfl, ownsRow_setCell_other o0 (own_ne o0 b1 (by decide)) _, ownsRow_setCell_other hown (by simp [Value.ownBlock]; exact hgw) _, ownsRow_setCell_other o2 (own_ne o2 b1 (by decide)) _, h5, by simp [h6], fun k e => by simp [h7 k e], by simp [Value.ownBlock], fun k e => by simp [h9 k e], ?_⟩, k13.setCell (.inl h6) _, ?_⟩
  · intro x hx
    have hs : (w3.setCell ⟨g, 1, none⟩ (.slice (some ⟨gw, 0, none⟩) (n1 + 1) cap)).heap.size = w3.heap.size := by simp [World.setCell]
    rw [hs]
    rcases List.mem_cons.1 hx with rfl | hx
    · exact hlt
    · exact Nat.lt_of_lt_of_le (h10 x hx) k13.size
  · intro x hx
    rcases List.mem_cons.1 hx with rfl | hx
    · rcases hat with e | e
      · exact .inl (h8 _ e)
      · right; omega
    · exact .inl hx
/-- A text more behind the third row. -/
theorem RD.what_more {w1 w2 w3 : World} {L : List Nat} {g : Nat} {S : List Bs} {n1 n2 : Nat} {ns xs : List Value} {f : Int} {v0 v1 v2 u : Value} {gw cap : Nat} (h : RD w1 L g S n1 ns n2 xs f v0 v1 v2) (k12 : Keeps [] w1 w2)
    (hown : w3.ownsRow 0 9 1 (.slice (some ⟨gw, 0, none⟩) (n2 + 1) cap) (n2 + 1) (xs ++ [u])) (hgrow : w2.grownBy w3 v2.ownBlock) (hat : v2.ownBlock = some gw ∨ gw = w2.heap.size) (hlt : gw < w3.heap.size) :
    RD (w3.setCell ⟨g, 2, none⟩ (.slice (some ⟨gw, 0, none⟩) (n2 + 1) cap)) (gw :: L) g S n1 ns (n2 + 1) (xs ++ [u]) f v0 v1 (.slice (some ⟨gw, 0, none⟩) (n2 + 1) cap) ∧
      Keeps L w1 (w3.setCell ⟨g, 2, none⟩ (.slice (some ⟨gw, 0, none⟩) (n2 + 1) cap)) ∧ ∀ x ∈ gw :: L, x ∈ L ∨ w1.heap.size ≤ x := by
  obtain ⟨h1, h2, h3, h4, h5, h6, h7, h8, h9, h10⟩ := h
  have e1 : v2.ownBlock ≠ some g := own_ne h4 h1 (by decide)
  have b1 : Blk w3 g 61 #[v0, v1, v2, .int .i64 f] := (hgrow.block g (Nat.lt_of_lt_of_le h1.lt k12.size) (Ne.symm e1)).trans (h1.keep k12 (by simp))
  have n0 : v0.ownBlock = none ∨ v0.ownBlock ≠ v2.ownBlock := by
    cases e : v0.ownBlock with
    | none => exact .inl rfl
    | some k => exact .inr (Ne.symm (h5 k e))
  have o0 := (own_keep h2 k12 (by simp)).kept hgrow n0
  have o1 := (own_keep h3 k12 (by simp)).kept hgrow (own_apart h3 h4 (by decide))
  have hgw : gw ≠ g := fun e => own_ne hown b1 (by decide) (by rw [← e]; simp [Value.ownBlock])
  have k13 : Keeps L w1 w3 := (k12.of_nil (L := L)).grown hgrow (fun k hk => .inl (h9 k hk))
  have hsz := k12.size
  refine ⟨⟨(b1.set 2 _).congr rfl, ownsRow_setCell_other o0 (own_ne o0 b1 (by decide)) _, ownsRow_setCell_other o1 (own_ne o1 b1 (by decide)) _, ownsRow_setCell_other hown (by simp [Value.ownBlock]; exact hgw) _, ?_, by simp [h6], fun k e => by simp [h7 k e], fun k e => by simp [h8 k e], by simp [Value.ownBlock], ?_⟩, k13.setCell (.inl h6) _, ?_⟩
  · intro k e e'
    have e'' : gw = k := by simpa [Value.ownBlock] using e'
    rcases hat with a | a
    · exact h5 k e (by rw [← e'']; exact a)
    · have := h10 k (h7 k e); omega
  · intro x hx
    have hs : (w3.setCell ⟨g, 2, none⟩ (.slice (some ⟨gw, 0, none⟩) (n2 + 1) cap)).heap.size = w3.heap.size := by simp [World.setCell]
    rw [hs]
    rcases List.mem_cons.1 hx with rfl | hx
    · exact hlt
    · exact Nat.lt_of_lt_of_le (h10 x hx) k13.size
  · intro x hx
    rcases List.mem_cons.1 hx with rfl | hx
    · rcases hat with e | e
      · exact .inl (h9 _ e)
      · right; omega
    · exact .inl hx

theorem rwrite_no (D : Dk) {w : World} {L : List Nat} {g : Nat} (h : RDsk w L g D) (a : Int) (s : Bs) (hc : a < 0 ∨ (D.sure.length : Int) ≤ a) :
    Calls Tryd.prog 35 #[.pointer (some ⟨g, 0, none⟩), .int .i64 a, .string (bs s)] w fun e w' => e = .returned (.int .i64 2) ∧ w = w' := by
  obtain ⟨A0, c0, A1, c1, A2, c2, f0, f1, f2, f3, fz⟩ := h.fields
  clear h f1 f2 f3 fz
  by_cases hn : a < 0
  · go_enter Tryd.func35, Tryd.ntmps35
    go_wp2
    go_ret
    exact ⟨rfl, rfl⟩
  · have hp : (D.sure.length : Int) ≤ a := by omega
    go_enter Tryd.func35, Tryd.ntmps35
    go_wp2
    go_ret
    exact ⟨rfl, rfl⟩
theorem rwrite_long (D : Dk) {w : World} {L : List Nat} {g : Nat} (h : RDsk w L g D) (a : Nat) (s : Bs) (ha : a < D.sure.length) (hs : 64 < s.length) :
    Calls Tryd.prog 35 #[.pointer (some ⟨g, 0, none⟩), .int .i64 a, .string (bs s)] w fun e w' => e = .returned (.int .i64 4) ∧ w = w' := by
  obtain ⟨A0, c0, A1, c1, A2, c2, f0, f1, f2, f3, fz⟩ := h.fields
  have hs' : (64 : Int) < (s.length : Int) := by omega
  clear h f1 f2 f3 fz
  go_enter Tryd.func35, Tryd.ntmps35
  go_wp2
  go_ret
  exact ⟨rfl, rfl⟩
theorem rwrite_spent (D : Dk) {w : World} {L : List Nat} {g : Nat} (h : RDsk w L g D) (a : Nat) (s : Bs) (ha : a < D.sure.length) (hs : s.length ≤ 64) (hf : D.fuse = 0) :
    Calls Tryd.prog 35 #[.pointer (some ⟨g, 0, none⟩), .int .i64 a, .string (bs s)] w fun e w' => e = .returned (.int .i64 14) ∧ RDsk w' L g D ∧ Keeps L w w' := by
  obtain ⟨A0, c0, A1, c1, A2, c2, f0, f1, f2, f3, fz⟩ := h.fields
  have hb := spent_any h
  rw [show decide (D.fuse = 0) = true from decide_eq_true hf, show D.burnt = D by unfold Dk.burnt; rw [if_neg (by omega)]] at hb
  have HB := Lib.hid hb
  clear h f1 f2 f3 fz hf hb
  go_enter Tryd.func35, Tryd.ntmps35
  go_wp2_with fail
  refine HB.out.mono ?_
  rintro e w1 ⟨rfl, h1, k1⟩
  go_wp2
  go_ret
  exact ⟨rfl, h1, k1⟩

theorem rw_close {D : Dk} {w w1 w4 w5 w6 : World} {L : List Nat} {g a gw gw2 cap2 r : Nat} {s : Bs} {v0 v1 v2 : Value} {o : Obj} (ha : a < D.sure.length) (hp : s ++ List.replicate r 0 = padded s)
    (hM1 : RD w4 (gw :: L) g D.sure (D.wait.length + 1) (ats (D.wait ++ [(a, padded s)])) D.wait.length (whats D.wait) D.burnt.fuse v0 v1 v2) (hM2 : Keeps L w1 w4) (hM3 : ∀ x ∈ gw :: L, x ∈ L ∨ w1.heap.size ≤ x) (k1 : Keeps L w w1)
    (hC : D.sure.length ≤ 16384 ∧ -1 ≤ D.burnt.fuse ∧ D.burnt.fuse ≤ 9223372036854775807) (hF : ∀ p ∈ D.wait, p.1 < D.sure.length) (hk5 : Keeps [] w4.drew w5)
    (hown6 : w6.ownsRow 0 9 1 (.slice (some ⟨gw2, 0, none⟩) (D.wait.length + 1) cap2) (D.wait.length + 1) (whats D.wait ++ [.string (bs (s ++ List.replicate r 0))]))
    (hgrow6 : (w5.alloc o).grownBy w6 v2.ownBlock) (hat6 : v2.ownBlock = some gw2 ∨ gw2 = (w5.alloc o).heap.size) (hlt6 : gw2 < w6.heap.size) :
    ∃ L', RDsk (w6.setCell ⟨g, 2, none⟩ (.slice (some ⟨gw2, 0, none⟩) (D.wait.length + 1) cap2)) L' g { D.burnt with wait := D.wait ++ [(a, padded s)] } ∧
      Keeps L w (w6.setCell ⟨g, 2, none⟩ (.slice (some ⟨gw2, 0, none⟩) (D.wait.length + 1) cap2)) ∧ (∀ x ∈ L', x ∈ L ∨ w.heap.size ≤ x) := by
  rw [hp] at hown6
  have k45 : Keeps [] w4 (w5.alloc o) := (Keeps.trans ((Keeps.refl [] w4).drew) hk5).alloc o
  obtain ⟨⟨h1, h2, h3, h4, h5, h6, h7, h8, h9, h10⟩, q2, q3⟩ := hM1.what_more k45 hown6 hgrow6 hat6 hlt6
  rw [← whats_snoc _ a (padded s)] at h4
  have hl : (D.wait ++ [(a, padded s)]).length = D.wait.length + 1 := by simp
  have hsz := k1.size
  have hsz2 := hM2.size
  have kL : ∀ x ∈ gw :: L, x ∈ L ∨ w.heap.size ≤ x := fun x hx => (hM3 x hx).imp id fun h => by omega
  refine ⟨gw2 :: gw :: L, ⟨v0, v1, _, h1, ?_, ?_, ?_, h5, h6, h7, h8, h9, h10, ?_, ?_, hC.2.1, hC.2.2⟩, (k1.trans hM2).trans' q2 ?_, ?_⟩
  · show World.ownsRow _ 0 _ 1 _ D.burnt.sure.length (strs D.burnt.sure)
    rw [burnt_sure]; exact h2
  · show World.ownsRow _ 0 _ 1 _ (D.wait ++ [(a, padded s)]).length (ats (D.wait ++ [(a, padded s)]))
    rw [hl]; exact h3
  · show World.ownsRow _ 0 _ 1 _ (D.wait ++ [(a, padded s)]).length (whats (D.wait ++ [(a, padded s)]))
    rw [hl]; exact h4
  · show D.burnt.sure.length ≤ _
    rw [burnt_sure]; exact hC.1
  · intro p hp'
    show p.1 < D.burnt.sure.length
    rw [burnt_sure]
    rcases List.mem_append.1 hp' with h | h
    · exact hF p h
    · rw [List.mem_singleton.1 h]; exact ha
  · intro x hx hlt
    rcases kL x hx with h | h
    · exact h
    · omega
  · intro x hx
    rcases q3 x hx with h | h
    · exact kL x h
    · right; omega

set_option maxRecDepth 100000 in
set_option maxHeartbeats 2000000 in
theorem rwrite_ok (D : Dk) {w : World} {L : List Nat} {g : Nat} (h : RDsk w L g D) (a : Nat) (s : Bs) (ha : a < D.sure.length) (hs : s.length ≤ 64) (hf : D.fuse ≠ 0) (hwl : D.wait.length ≤ 4294967296) :
    Calls Tryd.prog 35 #[.pointer (some ⟨g, 0, none⟩), .int .i64 a, .string (bs s)] w fun e w' => e = .returned (.int .i64 0) ∧
      ∃ L', RDsk w' L' g { D.burnt with wait := D.wait ++ [(a, padded s)] } ∧ Keeps L w w' ∧ (∀ x ∈ L', x ∈ L ∨ w.heap.size ≤ x) := by
  obtain ⟨A0, c0, A1, c1, A2, c2, f0, f1, f2, f3, fz⟩ := h.fields
  obtain ⟨i0, hi, hz0, hz1, hz2⟩ := info_parts sinfo
  obtain ⟨j0, ki, kz0, kz1, kz2⟩ := info_parts rinfo
  have hb := spent_any h
  rw [show decide (D.fuse = 0) = false from decide_eq_false hf] at hb
  have HB := Lib.hid hb
  have hfit : Aside (∀ p ∈ D.wait, p.1 < D.sure.length) := by
    obtain ⟨v0, v1, v2, c1, c2, c3, c4, c5, c6, c7, c8, c9, c10, c11, c12, c13⟩ := h; exact c12
  clear h f1 f2 f3 fz hf hb
  go_enter Tryd.func35, Tryd.ntmps35
  go_wp2_with fail
  refine HB.out.mono ?_
  rintro e w1 ⟨rfl, ⟨v0, v1, v2, c1, c2, c3, c4, c5, c6, c7, c8, c9, c10, c11, c12, c13, c14⟩, k1⟩
  rw [burnt_sure] at c2 c11 c12
  rw [burnt_wait] at c3 c4 c12
  have hR : RD w1 L g D.sure D.wait.length (ats D.wait) D.wait.length (whats D.wait) D.burnt.fuse v0 v1 v2 := ⟨c1, c2, c3, c4, c5, c6, c7, c8, c9, c10⟩
  have HR := Lib.hid hR
  have HC := Lib.hid (show D.sure.length ≤ 16384 ∧ -1 ≤ D.burnt.fuse ∧ D.burnt.fuse ≤ 9223372036854775807 from ⟨c11, c13, c14⟩)
  have HF := Lib.hid c12
  have g1 : w1.cell? ⟨g, 1, none⟩ = some v1 := by rw [c1.cell]; rfl
  have gz := c1.frozen 1
  have gl := c1.lt
  have hv1 : v1.ownBlock ≠ some g := own_ne c3 c1 (by decide)
  clear hR c1 c2 c4 c5 c6 c7 c8 c9 c10 c11 c12 c13 c14 hfit HB
  have gS : w1.cell? ⟨g, 1, none⟩ = some v1 ∧ w1.frozen? ⟨g, 1, none⟩ = false := ⟨g1, gz⟩
  go_wp2_with (at_builtin; refine wpList_append_lies _ rfl _ _ 23 rfl 0 3 j0 _ 1 8 Tryd.underlying23 ki kz0 kz1 kz2 rfl (by decide) v1 D.wait.length (ats D.wait) rfl (c3.alloc _) ⟨w1.heap.size, 0, none⟩ 1 1 [.int .i64 a] rfl rfl (World.news_of_block (heap_alloc_new _ _)) (by simp [Value.oneCell']) (by decide) (by simp only [maxLen]; omega) (by omega) (Nat.zero_le _) _ rfl ?_; intro gw cap w3 hown3 hgrow3 hat3 hlt3; obtain ⟨fS3, fZ3⟩ := fld_grown hgrow3 (fld_alloc gS _) hv1)
  have hM := HR.out.at_more ((Keeps.refl [] w1).alloc _) hown3 hgrow3 hat3 hlt3
  rw [← ats_snoc _ a (padded s)] at hM
  generalize w3.setCell ⟨g, 1, none⟩ (Value.slice (some ⟨gw, 0, none⟩) (D.wait.length + 1) cap) = w4 at hM ⊢
  obtain ⟨hM1, hM2, hM3⟩ := hM
  have e1 : w4.cell? ⟨g, 2, none⟩ = some v2 := by rw [hM1.1.cell]; rfl
  have e2 := hM1.1.frozen 2
  have e3 := hM1.1.lt
  have hv2 : v2.ownBlock ≠ some g := own_ne hM1.2.2.2.1 hM1.1 (by decide)
  have eS : w4.cell? ⟨g, 2, none⟩ = some v2 ∧ w4.frozen? ⟨g, 2, none⟩ = false := ⟨e1, e2⟩
  have o2 := hM1.2.2.2.1
  have HM1 := Lib.hid hM1
  have HM2 := Lib.hid hM2
  have HM3 := Lib.hid hM3
  obtain ⟨r, hr⟩ : ∃ r, s.length + r = 64 := ⟨64 - s.length, by omega⟩
  have hw : IntKind.i64.wrap (r : Int) = (r : Int) := IntWalk.i64_in _ (by omega)
  have hsub : (64 : Int) - (s.length : Int) = (r : Int) := by omega
  have hpad : Aside (s ++ List.replicate r 0 = padded s) := by
    unfold padded
    rw [zeros_drop, show 64 - s.length = r by omega]
    rfl
  clear hM1 hM2 hM3 hown3 hgrow3 hat3 hlt3 fS3 fZ3 g1 gz gl hv1 gS c3
  go_region_law (first | (refine step_append_lies _ (by rfl) _ _ _ (by rfl) 0 9 i0 _ 1 16 Tryd.underlying22 hi hz0 hz1 hz2 rfl (by decide) v2 D.wait.length (whats D.wait) (by rfl) (own_alloc_of o2 (by assumption)) ⟨w5.heap.size, 0, none⟩ 1 1 [.string (bs (s ++ List.replicate r 0))] (by rfl) rfl (World.news_of_block (heap_alloc_new _ _)) (by simp [Value.oneCell']) (by decide) (by simp only [maxLen]; omega) (by omega) (Nat.zero_le _) _ rfl ?_; intro gw2 cap2 w6 hown6 hgrow6 hat6 hlt6; obtain ⟨fS6, fZ6⟩ := fld_grown hgrow6 (fld_alloc (fld_keeps hk5 eS (by simp)) _) hv2) | (go_simp; go_at_call 45; refine (rep0 r (by omega) _).mono ?_; rintro e w5 ⟨rfl, hk5⟩; obtain ⟨fS5, fZ5⟩ := fld_keeps hk5 eS (by simp); have gl5 : g < w5.heap.size := World.block_lt_of_cell? w5 ⟨g, 2, none⟩ fS5))
  all_goals go_wp2
  all_goals go_ret
  all_goals exact ⟨rfl, rw_close ha hpad HM1.out HM2.out HM3.out k1 HC.out HF.out hk5 hown6 hgrow6 hat6 hlt6⟩

/-- Write, whatever it is given. -/
theorem rwrite_any (D : Dk) {w : World} {L : List Nat} {g : Nat} (h : RDsk w L g D) (a : Int) (s : Bs) (hwl : D.wait.length ≤ 4294967296) :
    Calls Tryd.prog 35 #[.pointer (some ⟨g, 0, none⟩), .int .i64 a, .string (bs s)] w fun e w' => e = .returned (.int .i64 ((D.write a s).1 : Nat)) ∧
      ∃ L', RDsk w' L' g (D.write a s).2 ∧ Keeps L w w' ∧ (∀ x ∈ L', x ∈ L ∨ w.heap.size ≤ x) := by
  by_cases h1 : a < 0 ∨ (D.sure.length : Int) ≤ a
  · have e : D.write a s = (2, D) := by unfold Dk.write; rw [if_pos h1]
    rw [e]
    refine (rwrite_no D h a s h1).mono ?_
    rintro e w' ⟨rfl, rfl⟩
    exact ⟨rfl, L, h, Keeps.refl _ _, fun x hx => .inl hx⟩
  · obtain ⟨n, rfl⟩ := Int.eq_ofNat_of_zero_le (show 0 ≤ a by omega)
    have ha : n < D.sure.length := by omega
    by_cases h2 : 64 < s.length
    · have e : D.write n s = (4, D) := by unfold Dk.write; rw [if_neg h1, if_pos h2]
      rw [e]
      refine (rwrite_long D h n s ha h2).mono ?_
      rintro e w' ⟨rfl, rfl⟩
      exact ⟨rfl, L, h, Keeps.refl _ _, fun x hx => .inl hx⟩
    · by_cases h3 : D.fuse = 0
      · have e : D.write n s = (14, D) := by unfold Dk.write; rw [if_neg h1, if_neg h2, if_pos h3]
        rw [e]
        refine (rwrite_spent D h n s ha (by omega) h3).mono ?_
        rintro e w' ⟨rfl, h', k'⟩
        exact ⟨rfl, L, h', k', fun x hx => .inl hx⟩
      · have e : D.write n s = (0, { D.burnt with wait := D.wait ++ [(n, padded s)] }) := by unfold Dk.write; rw [if_neg h1, if_neg h2, if_neg h3, Int.toNat_natCast]
        rw [e]
        exact rwrite_ok D h n s ha (by omega) h3 hwl
end Go.Proofs.YtjoolemhcpcnoaaDoor
