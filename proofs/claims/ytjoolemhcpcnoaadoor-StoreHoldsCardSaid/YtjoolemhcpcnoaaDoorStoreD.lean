/- store: the store in memory; keep, Get, Keys. -/
import Derived.Test.YtjoolemhcpcnoaaDoorStoreC
namespace Go.Proofs.YtjoolemhcpcnoaaDoor
open Go.RowKit
attribute [local go_sem] bs_size bs_extract bs_append bs_toList errV_0 errV_2 errV_4 errV_14
/-- A store: where the next record comes, the keys in order, what is known by a key. -/
structure Sr where
  at_ : Nat
  keys : List Bs
  m : Bs → Option Bs
/-- The store S of the disk at gd lies at gx; all its blocks are in L. -/
def Sto (w : World) (L : List Nat) (gx gd : Nat) (S : Sr) : Prop :=
  ∃ v bm, Blk w gx 98 #[.pointer (some ⟨gd, 0, none⟩), .int .i64 (S.at_ : Int), v, .map (some bm)] ∧ w.ownsRow 0 9 1 v S.keys.length (strs S.keys) ∧
    MapOf Tryd.prog 9 w bm S.keys.length S.m ∧ gx ∈ L ∧ bm ∈ L ∧ (∀ k, v.ownBlock = some k → k ∈ L) ∧ (∀ x ∈ L, x < w.heap.size)
section
variable {w w' : World} {L L' : List Nat} {gx gd : Nat} {S : Sr}
theorem Sto.keep (h : Sto w L gx gd S) (hk : Keeps L' w w') (hL : ∀ x ∈ L, x ∉ L') : Sto w' L gx gd S := by
  obtain ⟨v, bm, h1, h2, h3, h4, h5, h6, h7⟩ := h
  exact ⟨v, bm, h1.keep hk (hL _ h4), own_keep h2 hk (fun g hg => hL _ (h6 g hg)), h3.keep hk (hL _ h5), h4, h5, h6, fun x hx => Nat.lt_of_lt_of_le (h7 x hx) hk.size⟩
theorem Sto.quiet (h : Sto w L gx gd S) (hk : Keeps [] w w') : Sto w' L gx gd S := h.keep hk (by simp)
theorem Sto.lt (h : Sto w L gx gd S) : ∀ x ∈ L, x < w.heap.size := by obtain ⟨v, bm, h1, h2, h3, h4, h5, h6, h7⟩ := h; exact h7
end
theorem mlook {w : World} {b n : Nat} {m : Bs → Option Bs} (h : MapOf Tryd.prog 9 w b n m) (k : Bs) (hk : k.length ≤ maxLen) :
    (Instr.lookup 96 (.map (some b)) (.string (bs k)) true).run Tryd.prog w = .ok (.tuple #[.string (bs ((m k).getD [])), .bool (m k).isSome]) w :=
  h.look Tryd.underlying96 Tryd.underlying9 (by kernel_rfl) k hk
set_option maxRecDepth 100000 in
theorem get_any {w : World} {L : List Nat} {gx gd : Nat} {S : Sr} (h : Sto w L gx gd S) (k : Bs) (hk : k.length ≤ maxLen) :
    Calls Tryd.prog 31 #[.pointer (some ⟨gx, 0, none⟩), .string (bs k)] w fun ev w' => ev = .returned (.tuple #[.string (bs ((S.m k).getD [])), errV (if (S.m k).isSome then 0 else 7)]) ∧ w = w' := by
  obtain ⟨v, bm, h1, h2, h3, h4, h5, h6, h7⟩ := h
  have c3 : w.cell? ⟨gx, 3, none⟩ = some (.map (some bm)) := by rw [h1.cell]; rfl
  have hl := mlook h3 k hk
  cases hm : S.m k with
  | none =>
    rw [hm] at hl
    have HM := Lib.hid hm
    clear h1 h2 h3 hm
    go_enter Tryd.func31, Tryd.ntmps31
    go_wp2
    go_ret2
    exact ⟨rfl, rfl⟩
  | some u =>
    rw [hm] at hl
    have HM := Lib.hid hm
    clear h1 h2 h3 hm
    go_enter Tryd.func31, Tryd.ntmps31
    go_wp2
    go_ret2
    exact ⟨rfl, rfl⟩
/-- What is noted of a record. -/
def kept1 (S : Sr) (s : Bs) : Sr :=
  if (S.m (shaL s)).isSome then { S with at_ := S.at_ + secs s.length }
  else { at_ := S.at_ + secs s.length, keys := S.keys ++ [shaL s], m := fun x => if x = shaL s then some s else S.m x }
theorem MapOf.ne_blk {P : Program} {T : TypeId} {w : World} {b n : Nat} {m : Bs → Option Bs} {g : Nat} {t : TypeId} {cs : Array Value} (h : MapOf P T w b n m) (h' : Blk w g t cs) : b ≠ g := by
  rintro rfl
  obtain ⟨D, ⟨es, clock, h1, _⟩, _⟩ := h
  unfold Blk at h'
  rw [h1] at h'
  injection h' with h'
  cases h'
theorem MapOf.ne_own {P : Program} {T : TypeId} {w : World} {b n : Nat} {m : Bs → Option Bs} {base : Nat} {e : TypeId} {size k : Nat} {v : Value} {xs : List Value} (h : MapOf P T w b n m) (h' : w.ownsRow base e size v k xs) : v.ownBlock ≠ some b := by
  obtain ⟨D, ⟨es, clock, h1, _⟩, _⟩ := h
  rcases h'.2 with ⟨rfl, _⟩ | ⟨g', cap, cur, rfl, _, hh, _⟩
  · simp [Value.ownBlock]
  · intro he
    have : g' = b := by simpa [Value.ownBlock] using he
    subst this
    rw [h1] at hh
    injection hh with hh
    cases hh
/-- The next place is noted. -/
theorem Sto.place {W : World} {L : List Nat} {gx gd : Nat} {S : Sr} (h : Sto W L gx gd S) (a : Nat) : Sto (W.setCell ⟨gx, 1, none⟩ (.int .i64 (a : Int))) L gx gd { S with at_ := a } ∧ Keeps L W (W.setCell ⟨gx, 1, none⟩ (.int .i64 (a : Int))) := by
  obtain ⟨v, bm, h1, h2, h3, h4, h5, h6, h7⟩ := h
  have hk : Keeps L W (W.setCell ⟨gx, 1, none⟩ (.int .i64 (a : Int))) := (Keeps.refl L W).setCell (.inl h4) _
  refine ⟨⟨v, bm, (h1.set 1 _).congr rfl, ?_, ?_, h4, h5, h6, fun x hx => Nat.lt_of_lt_of_le (h7 x hx) hk.size⟩, hk⟩
  · exact ownsRow_setCell_other h2 (own_ne h2 h1 (by decide)) _
  · exact h3.keep ((Keeps.refl [gx] W).setCell (.inl (by simp)) _) (by simp; exact h3.ne_blk h1)
theorem kept1_in {S : Sr} {s : Bs} (h : (S.m (shaL s)).isSome = true) : kept1 S s = { S with at_ := S.at_ + secs s.length } := by unfold kept1; rw [if_pos h]
theorem kept1_out {S : Sr} {s : Bs} (h : (S.m (shaL s)).isSome = false) : kept1 S s = { at_ := S.at_ + secs s.length, keys := S.keys ++ [shaL s], m := fun x => if x = shaL s then some s else S.m x } := by unfold kept1; rw [if_neg (by rw [h]; decide)]
theorem keep_close {W1 w2 w3 : World} {L : List Nat} {gx gd bm gw cap : Nat} {S : Sr} {v : Value} {k s : Bs} {o : Obj}
    (h1 : Blk W1 gx 98 #[.pointer (some ⟨gd, 0, none⟩), .int .i64 (S.at_ : Int), v, .map (some bm)]) (h2 : W1.ownsRow 0 9 1 v S.keys.length (strs S.keys))
    (h3 : MapOf Tryd.prog 9 W1 bm S.keys.length S.m) (h4 : gx ∈ L) (h5 : bm ∈ L) (h6 : ∀ k, v.ownBlock = some k → k ∈ L) (h7 : ∀ x ∈ L, x < W1.heap.size)
    (k2 : Keeps [bm] W1 w2) (b1 : Blk w2 gx 98 #[.pointer (some ⟨gd, 0, none⟩), .int .i64 (S.at_ : Int), v, .map (some bm)]) (o2 : w2.ownsRow 0 9 1 v S.keys.length (strs S.keys))
    (m2 : MapOf Tryd.prog 9 w2 bm (S.keys.length + 1) (fun x => if x = k then some s else S.m x))
    (hown3 : w3.ownsRow 0 9 1 (.slice (some ⟨gw, 0, none⟩) (S.keys.length + 1) cap) (S.keys.length + 1) (strs S.keys ++ [.string (bs k)]))
    (hgrow3 : (w2.alloc o).grownBy w3 v.ownBlock) (hat3 : v.ownBlock = some gw ∨ gw = w2.heap.size + 1) (hlt3 : gw < w3.heap.size) :
    Sto (w3.setCell ⟨gx, 2, none⟩ (.slice (some ⟨gw, 0, none⟩) (S.keys.length + 1) cap)) (gw :: L) gx gd { S with keys := S.keys ++ [k], m := fun x => if x = k then some s else S.m x } ∧
      Keeps L W1 (w3.setCell ⟨gx, 2, none⟩ (.slice (some ⟨gw, 0, none⟩) (S.keys.length + 1) cap)) ∧ (∀ x ∈ gw :: L, x ∈ L ∨ W1.heap.size ≤ x) := by
  have k12 : Keeps L W1 (w2.alloc o) := (k2.weaken (L' := L) (fun x hx _ => by rw [List.mem_singleton.1 hx]; exact h5)).alloc o
  have k13 : Keeps L W1 w3 := k12.grown hgrow3 (fun k hk => .inl (h6 k hk))
  have k14 : Keeps L W1 (w3.setCell ⟨gx, 2, none⟩ (.slice (some ⟨gw, 0, none⟩) (S.keys.length + 1) cap)) := k13.setCell (.inl h4) _
  have hg1 : v.ownBlock ≠ some gx := own_ne o2 b1 (by decide)
  have hg2 : v.ownBlock ≠ some bm := m2.ne_own o2
  have c1 := (hgrow3.block gx (b1.alloc o).lt (Ne.symm hg1)).trans (b1.alloc o)
  have m3 : MapOf Tryd.prog 9 w3 bm (S.keys.length + 1) (fun x => if x = k then some s else S.m x) :=
    (m2.keep ((Keeps.refl [] w2).alloc o) (by simp)).of_block (hgrow3.block bm (m2.keep ((Keeps.refl [] w2).alloc o) (by simp)).lt (Ne.symm hg2))
  have hgw : gw ≠ gx := by
    have := own_ne hown3 c1 (by decide)
    intro e
    subst e
    exact this rfl
  have hl1 : (S.keys ++ [k]).length = S.keys.length + 1 := by simp
  refine ⟨⟨.slice (some ⟨gw, 0, none⟩) (S.keys.length + 1) cap, bm, (Blk.set (h := c1) 2 _).congr rfl, ?_, ?_, by simp [h4], by simp [h5], by simp [Value.ownBlock], ?_⟩, k14, ?_⟩
  · show World.ownsRow _ 0 _ 1 _ (S.keys ++ [k]).length (strs (S.keys ++ [k]))
    rw [hl1, strs_snoc]
    exact ownsRow_setCell_other hown3 (by simp [Value.ownBlock]; exact hgw) _
  · show MapOf _ _ _ bm (S.keys ++ [k]).length _
    rw [hl1]
    exact m3.keep ((Keeps.refl [gx] w3).setCell (.inl (by simp)) _) (by simp; exact m3.ne_blk c1)
  · intro x hx
    have hsz : (w3.setCell ⟨gx, 2, none⟩ (.slice (some ⟨gw, 0, none⟩) (S.keys.length + 1) cap)).heap.size = w3.heap.size := by simp [World.setCell]
    rw [hsz]
    rcases List.mem_cons.1 hx with rfl | hx
    · exact hlt3
    · exact Nat.lt_of_lt_of_le (h7 x hx) k13.size
  · intro x hx
    rcases List.mem_cons.1 hx with rfl | hx
    · rcases hat3 with e | e
      · exact .inl (h6 _ e)
      · right
        have := k2.size
        omega
    · exact .inl hx
set_option maxRecDepth 100000 in
set_option maxHeartbeats 2000000 in
theorem keep_any {w : World} {L : List Nat} {gx gd : Nat} {S : Sr} (h : Sto w L gx gd S) (hR : Rnds w) (s : Bs) (hs : s.length ≤ 1000000) (ha : S.at_ ≤ 1000000) (hkl : S.keys.length ≤ 1000000) :
    Calls Tryd.prog 60 #[.pointer (some ⟨gx, 0, none⟩), .string (bs s)] w fun ev w' => ev = .returned (.tuple #[]) ∧
      ∃ L', Sto w' L' gx gd (kept1 S s) ∧ Keeps L w w' ∧ (∀ x ∈ L', x ∈ L ∨ w.heap.size ≤ x) := by
  have hsn : secs s.length ≤ 20000 := by unfold secs; omega
  have HR := Lib.hid hR
  have HS := Lib.hid h
  clear hR h
  go_enter Tryd.func60, Tryd.ntmps60
  go_wp2_with fail
  refine (sum_any s (by omega) _ HR.out).mono ?_
  rintro ev W1 ⟨rfl, k1⟩
  obtain ⟨v, bm, h1, h2, h3, h4, h5, h6, h7⟩ := HS.out.quiet k1
  have K1 := Lib.hid k1
  clear k1
  have c1 : W1.cell? ⟨gx, 1, none⟩ = some (.int .i64 (S.at_ : Int)) := by rw [h1.cell]; rfl
  have f1 : W1.frozen? ⟨gx, 1, none⟩ = false := h1.frozen 1
  have c2 : W1.cell? ⟨gx, 2, none⟩ = some v := by rw [h1.cell]; rfl
  have c3 : W1.cell? ⟨gx, 3, none⟩ = some (.map (some bm)) := by rw [h1.cell]; rfl
  have hl := mlook h3 (shaL s) (by rw [shaL_length]; decide)
  have H1 := Lib.hid h1
  have H2 := Lib.hid h2
  have H3 := Lib.hid h3
  clear h1 h2 h3
  have hw : IntKind.i64.wrap ((S.at_ : Int) + (secs s.length : Int)) = (S.at_ : Int) + (secs s.length : Int) := IntWalk.i64_in _ (by omega)
  cases hm : S.m (shaL s) with
  | some u =>
    rw [hm] at hl
    have HM := Lib.hid hm
    clear hm
    go_wp2
    go_region_with (go_at_call 61; refine (sectors_any s.length hs _).mono ?_; rintro e w5 ⟨rfl, rfl⟩)
    all_goals go_wp2
    all_goals go_end0
    all_goals
      obtain ⟨q1, q2⟩ := (HS.out.quiet K1.out).place (S.at_ + secs s.length)
      have q2' : Keeps L w W1 := K1.out.of_nil
      refine ⟨rfl, L, ?_, ?_, fun x hx => .inl hx⟩
      · rw [kept1_in (by rw [HM.out]; rfl)]; exact q1.quiet (Keeps.drew (Keeps.refl _ _))
      · exact (q2'.trans q2).drew
  | none =>
    rw [hm] at hl
    have HM := Lib.hid hm
    clear hm
    obtain ⟨w2, hrun, h3b, hg2⟩ := H3.out.store Tryd.underlying96 Tryd.underlying9 (shaL s) s (by rw [shaL_length]; decide) (by simp only [maxLen]; omega) (by simp only [maxLen]; omega)
    have hne := H3.out.ne_blk H1.out
    have k2 : Keeps [bm] W1 w2 := (Keeps.refl [bm] W1).grown hg2 (fun g hg => .inl (by simp; injection hg with hg; exact hg.symm))
    have b1 := H1.out.keep k2 (by simp; exact Ne.symm hne)
    have o2 := own_keep H2.out k2 (fun g hg => by simp; intro e; exact H3.out.ne_own H2.out (hg.trans (by rw [e])))
    have d1 : w2.cell? ⟨gx, 1, none⟩ = some (.int .i64 (S.at_ : Int)) := by rw [b1.cell]; rfl
    have d2 : w2.cell? ⟨gx, 2, none⟩ = some v := by rw [b1.cell]; rfl
    obtain ⟨i0, hi, hz0, hz1, hz2⟩ := info_parts sinfo
    have hbd := Lib.hid (show S.keys.length + 1 ≤ maxLen ∧ (S.keys.length + 1) * 16 ≤ 140737488355328 by simp only [maxLen]; omega)
    have HD1 := Lib.hid (show w2.cell? ⟨gx, 1, none⟩ = some (.int .i64 (S.at_ : Int)) ∧ w2.frozen? ⟨gx, 1, none⟩ = false from ⟨d1, b1.frozen 1⟩)
    have HD2 := Lib.hid (show w2.cell? ⟨gx, 2, none⟩ = some v ∧ w2.frozen? ⟨gx, 2, none⟩ = false from ⟨d2, b1.frozen 2⟩)
    have HNE := Lib.hid (own_ne o2 b1 (by decide))
    have B1 := Lib.hid b1
    have O2 := Lib.hid o2
    have K2 := Lib.hid k2
    have H3B := Lib.hid h3b
    clear b1 o2 k2 h3b hg2 hne
    go_wp2_with (at_builtin; refine wpList_append_lies _ rfl _ _ 22 rfl _ 9 i0 _ 1 16 Tryd.underlying22 hi hz0 hz1 hz2 rfl (by decide) v S.keys.length (strs S.keys) rfl (O2.out.alloc _) ⟨w2.heap.size, 0, none⟩ 1 1 [.string (bs (shaL s))] rfl rfl (World.news_of_block (heap_alloc_new _ _)) (by simp [Value.oneCell']) (by decide) hbd.out.1 hbd.out.2 (Nat.zero_le _) _ rfl ?_; intro gw cap2 w3 hown3 hgrow3 hat3 hlt3; have e1 := fld_grown hgrow3 (fld_alloc (p := ⟨gx, 1, none⟩) HD1.out _) HNE.out; have e2 := fld_grown hgrow3 (fld_alloc (p := ⟨gx, 2, none⟩) HD2.out _) HNE.out)
    go_region_with (go_at_call 61; refine (sectors_any s.length hs _).mono ?_; rintro e w5 ⟨rfl, rfl⟩)
    all_goals go_wp2
    all_goals go_end0
    all_goals
      obtain ⟨q1, q2, q3⟩ := keep_close H1.out H2.out H3.out h4 h5 h6 h7 K2.out B1.out O2.out H3B.out hown3 hgrow3 (by simpa using hat3) hlt3
      obtain ⟨p1, p2⟩ := q1.place (S.at_ + secs s.length)
      refine ⟨rfl, gw :: L, ?_, ?_, fun x hx => ?_⟩
      · rw [kept1_out (by rw [HM.out]; rfl)]
        exact p1.quiet (Keeps.drew (Keeps.refl _ _))
      · exact ((K1.out.of_nil.trans q2).trans' p2 (fun x hx hl => by
          rcases q3 x hx with h | h
          · exact h
          · have := K1.out.size; omega)).drew
      · rcases q3 x hx with h | h
        · exact .inl h
        · right; have := K1.out.size; omega
end Go.Proofs.YtjoolemhcpcnoaaDoor
