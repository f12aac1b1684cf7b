/- DiskSure: the map of what a sector may hold, in memory. -/
import Derived.Test.YtelafmakgokhbaaDoorSureP
import Derived.Test.YtelafmakgokhbaaDoorMapV
namespace Go.Proofs.YtelafmakgokhbaaDoor
open Go.RowKit Go.Maps
attribute [local go_sem] bs_size bs_extract bs_append bs_toList
/-- What a map holds: a value for each list. -/
def heldV (m : May) (vs : Nat → Value) : Int → Option Value := fun k => if 0 ≤ k ∧ k < 16 then (m k.toNat).map fun _ => vs k.toNat else none
/-- The map at block bm: what m says, each list in a row of its own, none of them in a block of L. -/
def MayIn (base : Nat) (W : World) (L : List Nat) (bm n : Nat) (m : May) : Prop :=
  ∃ vs : Nat → Value, MapV Tryd.prog 3 W bm n (heldV m vs) ∧ (∀ k l, m k = some l → W.ownsRow base 9 1 (vs k) l.length (strs l)) ∧
    (∀ j k, j ≠ k → m j ≠ none → m k ≠ none → ∀ g, (vs j).ownBlock = some g → (vs k).ownBlock ≠ some g) ∧
    (∀ k, m k ≠ none → ∀ g, (vs k).ownBlock = some g → g ∉ L ∧ g ≠ bm) ∧ bm ∉ L ∧ (∀ k, 16 ≤ k → m k = none) ∧ base ≤ W.heap.size
section
variable {base : Nat} {W W' : World} {L L' : List Nat} {bm n : Nat} {m : May}
theorem MayIn.turn (h : MayIn base W L bm n m) (hk : Keeps L W W') (hL : ∀ x ∈ L', x ∈ L ∨ W.heap.size ≤ x) : MayIn base W' L' bm n m := by
  obtain ⟨vs, h1, h2, h3, h4, h5, h6, h7⟩ := h
  refine ⟨vs, h1.keep hk h5, fun k l hl => own_keep (h2 k l hl) hk (fun g hg => (h4 k (by rw [hl]; simp) g hg).1), h3, fun k hm g hg => ⟨fun hx => ?_, (h4 k hm g hg).2⟩, fun hx => ?_, h6, Nat.le_trans h7 hk.size⟩
  · rcases hL g hx with hx | hx
    · exact (h4 k hm g hg).1 hx
    · cases hml : m k with
      | none => exact hm hml
      | some l =>
        have := ((h2 k l hml).lt g hg).2
        omega
  · rcases hL bm hx with hx | hx
    · exact h5 hx
    · have := h1.lt; omega
theorem MayIn.quiet (h : MayIn base W L bm n m) (hk : Keeps [] W W') : MayIn base W' L bm n m := h.turn hk.of_nil (fun x hx => .inl hx)
theorem MayIn.lt (h : MayIn base W L bm n m) : bm < W.heap.size := by obtain ⟨vs, h1, _⟩ := h; exact h1.lt
theorem MayIn.base_le (h : MayIn base W L bm n m) : base ≤ W.heap.size := by obtain ⟨vs, h1, h2, h3, h4, h5, h6, h7⟩ := h; exact h7
theorem MayIn.made (w : World) (L : List Nat) (hL : ∀ x ∈ L, x < w.heap.size) : MayIn (w.heap.size + 1) (w.alloc (.map #[] 0)) L w.heap.size 0 may0 :=
  ⟨fun _ => .nilIface, (MapV.made w).congr (by funext k; unfold heldV may0; simp), (fun k l h => by cases h), fun j k _ h => absurd rfl h, fun k h => absurd rfl h, fun hx => absurd (hL _ hx) (Nat.lt_irrefl _), fun _ _ => rfl, by rw [show (w.alloc (.map #[] 0)).heap.size = w.heap.size + 1 from Array.size_push _]; exact Nat.le_refl _⟩
theorem wf_small {k : Nat} (h : k < 16) : (Lit.int .i64 (k : Int)).wf = true := by
  simp [Lit.wf, IntKind.min, IntKind.max, IntKind.signed, IntKind.bits]
  omega
theorem zero_strs (W : World) : (zeroValue 22).run Tryd.prog W = .ok (.slice none 0 0) W := by kernel_rfl
/-- A look at the map. -/
theorem MayIn.look (h : MayIn base W L bm n m) {k : Nat} (hk : k < 16) : ∃ v, (∀ W', Keeps L W W' → (Instr.lookup 35 (.map (some bm)) (.int .i64 (k : Int)) false).run Tryd.prog W' = .ok v W') ∧ W.ownsRow base 9 1 v ((m k).getD []).length (strs ((m k).getD [])) := by
  obtain ⟨vs, h1, h2, h3, h4, h5, h6, h7⟩ := h
  refine ⟨(heldV m vs (k : Int)).getD (.slice none 0 0), fun W' q => (h1.keep q h5).look Tryd.underlying35 Tryd.underlying3 (zero_strs W') (k : Int) (wf_small hk), ?_⟩
  have e : heldV m vs (k : Int) = (m k).map fun _ => vs k := by
    unfold heldV
    rw [if_pos ⟨by omega, by omega⟩, Int.toNat_natCast]
  rw [e]
  cases hm : m k with
  | none => exact World.ownsRow_nil _ _ _ _
  | some l => exact h2 k l hm
theorem heldV_put (m : May) (vs : Nat → Value) (k : Nat) (hk : k < 16) (l : List Bs) (v : Value) : (fun x : Int => if x = (k : Int) then some v else heldV m vs x) = heldV (fun j => if j = k then some l else m j) (fun j => if j = k then v else vs j) := by
  funext x
  unfold heldV
  by_cases hx : 0 ≤ x ∧ x < 16
  · obtain ⟨y, rfl⟩ := Int.eq_ofNat_of_zero_le hx.1
    rw [if_pos hx, if_pos hx]
    simp only [Int.toNat_natCast]
    by_cases e : y = k
    · rw [if_pos (by rw [e]), if_pos e, if_pos e]; rfl
    · rw [if_neg (by omega), if_neg e, if_neg e]
  · rw [if_neg hx, if_neg hx, if_neg (by omega)]
/-- A value is stored: nothing, or a row of the call's own, apart from the others. -/
theorem may_store {vs : Nat → Value} (h1 : MapV Tryd.prog 3 W bm n (heldV m vs)) (h2 : ∀ k l, m k = some l → W.ownsRow base 9 1 (vs k) l.length (strs l))
    (h3 : ∀ j k, j ≠ k → m j ≠ none → m k ≠ none → ∀ g, (vs j).ownBlock = some g → (vs k).ownBlock ≠ some g) (h4 : ∀ k, m k ≠ none → ∀ g, (vs k).ownBlock = some g → g ∉ L ∧ g ≠ bm) (h5 : bm ∉ L) (h6 : ∀ k, 16 ≤ k → m k = none) (h7 : base ≤ W.heap.size)
    {k : Nat} (hk : k < 16) (l : List Bs) (v : Value) (hv : W.ownsRow base 9 1 v l.length (strs l)) (hL : ∀ g, v.ownBlock = some g → g ∉ L ∧ g ≠ bm) (hav : ∀ j, j ≠ k → m j ≠ none → ∀ g, v.ownBlock = some g → (vs j).ownBlock ≠ some g) (hn : n < 1000) :
    ∃ w', (Instr.mapUpdate 35 (.map (some bm)) (.int .i64 (k : Int)) v).run Tryd.prog W = .ok () w' ∧ MayIn base w' L bm (n + 1) (fun j => if j = k then some l else m j) ∧ Keeps [bm] W w' := by
  obtain ⟨w', hrun, hm', hg⟩ := h1.store Tryd.underlying35 Tryd.underlying3 (k : Int) v (wf_small hk) (by simp only [maxLen]; omega)
  have hkp : Keeps [bm] W w' := Keeps.grown (Keeps.refl _ _) hg (fun g hg => .inl (by simp at hg; simp [hg]))
  refine ⟨w', hrun, ⟨fun j => if j = k then v else vs j, hm'.congr (heldV_put m vs k hk l v), fun j lj hj => ?_, fun i j hij hi hj g hgi hgj => ?_, fun j hj g hgj => ?_, h5, fun j hj => ?_, Nat.le_trans h7 hkp.size⟩, hkp⟩
  · simp only at hj ⊢
    by_cases e : j = k
    · rw [if_pos e] at hj ⊢
      injection hj with hj
      subst hj
      exact own_keep hv hkp (fun g hgv => by simp; exact (hL g hgv).2)
    · rw [if_neg e] at hj ⊢
      exact own_keep (h2 j lj hj) hkp (fun g hgv => by simp; exact (h4 j (by rw [hj]; simp) g hgv).2)
  · simp only at hi hj hgi hgj
    by_cases ei : i = k
    · rw [if_pos ei] at hgi
      have ej : j ≠ k := fun e => hij (by rw [ei, e])
      rw [if_neg ej] at hgj hj
      exact hav j ej hj g hgi hgj
    · rw [if_neg ei] at hgi hi
      by_cases ej : j = k
      · rw [if_pos ej] at hgj
        exact hav i ei hi g hgj hgi
      · rw [if_neg ej] at hgj hj
        exact h3 i j hij hi hj g hgi hgj
  · simp only at hj hgj
    by_cases e : j = k
    · rw [if_pos e] at hgj
      exact hL g hgj
    · rw [if_neg e] at hgj hj
      exact h4 j hj g hgj
  · show (if j = k then some l else m j) = none
    rw [if_neg (by omega)]
    exact h6 j hj
/-- 'may[k] = nil'. -/
theorem MayIn.clear (h : MayIn base W L bm n m) {k : Nat} (hk : k < 16) (hn : n < 1000) :
    ∃ w', (Instr.mapUpdate 35 (.map (some bm)) (.int .i64 (k : Int)) (.slice none 0 0)).run Tryd.prog W = .ok () w' ∧ MayIn base w' L bm (n + 1) (fun j => if j = k then some [] else m j) ∧ Keeps [bm] W w' := by
  obtain ⟨vs, h1, h2, h3, h4, h5, h6, h7⟩ := h
  exact may_store h1 h2 h3 h4 h5 h6 h7 hk [] (.slice none 0 0) (World.ownsRow_nil _ _ _ _) (fun g hg => by cases hg) (fun _ _ _ g hg => by cases hg) hn
/-- 'may[k] = append(may[k], s)': the look; and behind the append the store. -/
theorem MayIn.app (h : MayIn base W L bm n m) {k : Nat} (hk : k < 16) (hn : n < 1000) (s : Bs) (hLs : ∀ x ∈ L, x < W.heap.size) :
    ∃ v, (∀ W', Keeps [] W W' → (Instr.lookup 35 (.map (some bm)) (.int .i64 (k : Int)) false).run Tryd.prog W' = .ok v W') ∧ W.ownsRow base 9 1 v ((m k).getD []).length (strs ((m k).getD [])) ∧ (∀ g, v.ownBlock = some g → g ∉ L ∧ g ≠ bm) ∧
      ∀ (W1 w8 : World) (o : Obj) (gw cap : Nat), Keeps [] W W1 → w8.ownsRow base 9 1 (.slice (some ⟨gw, 0, none⟩) (((m k).getD []).length + 1) cap) (((m k).getD []).length + 1) (strs ((m k).getD []) ++ [.string (bs s)]) → (W1.alloc o).grownBy w8 v.ownBlock → (v.ownBlock = some gw ∨ gw = (W1.alloc o).heap.size) →
        ∃ w9, (Instr.mapUpdate 35 (.map (some bm)) (.int .i64 (k : Int)) (.slice (some ⟨gw, 0, none⟩) (((m k).getD []).length + 1) cap)).run Tryd.prog w8 = .ok () w9 ∧ MayIn base w9 L bm (n + 1) (fun j => if j = k then some ((m k).getD [] ++ [s]) else m j) ∧ Keeps (bm :: v.ownBlock.toList) W w9 := by
  obtain ⟨vs, h1, h2, h3, h4, h5, h6, h7⟩ := h
  have e : heldV m vs (k : Int) = (m k).map fun _ => vs k := by
    unfold heldV
    rw [if_pos ⟨by omega, by omega⟩, Int.toNat_natCast]
  obtain ⟨v, hv⟩ : ∃ v, (heldV m vs (k : Int)).getD (.slice none 0 0) = v := ⟨_, rfl⟩
  have hvo : W.ownsRow base 9 1 v ((m k).getD []).length (strs ((m k).getD [])) := by
    rw [← hv, e]
    cases hm : m k with
    | none => exact World.ownsRow_nil _ _ _ _
    | some l => exact h2 k l hm
  have hvm : ∀ g, v.ownBlock = some g → m k ≠ none ∧ vs k = v := by
    intro g hg
    rw [← hv, e] at hg
    cases hm : m k with
    | none => rw [hm] at hg; cases hg
    | some l => exact ⟨by simp, by rw [← hv, e, hm]; rfl⟩
  have hvL : ∀ g, v.ownBlock = some g → g ∉ L ∧ g ≠ bm := fun g hg => by
    obtain ⟨a, b⟩ := hvm g hg
    exact h4 k a g (by rw [b]; exact hg)
  refine ⟨v, fun W' q => by rw [← hv]; exact (h1.keep q (by simp)).look Tryd.underlying35 Tryd.underlying3 (zero_strs W') (k : Int) (wf_small hk), hvo, hvL, ?_⟩
  intro W1 w8 o gw cap hk1 hown8 hgrow8 hat8
  have hsz : (W1.alloc o).heap.size = W1.heap.size + 1 := Array.size_push _
  have hk8 : Keeps v.ownBlock.toList W w8 := (hk1.of_nil.alloc o).grown hgrow8 (fun g hg => .inl (by rw [hg]; simp))
  have hfar : ∀ j, j ≠ k → m j ≠ none → ∀ g, (vs j).ownBlock = some g → g ∉ v.ownBlock.toList := by
    intro j hj hmj g hg hx
    rw [Option.mem_toList] at hx
    obtain ⟨a, b⟩ := hvm g hx
    exact h3 j k hj hmj a g hg (by rw [b]; exact hx)
  have hmap8 : MapV Tryd.prog 3 w8 bm n (heldV m vs) := h1.keep hk8 (by
    rw [Option.mem_toList]
    exact fun hx => (hvL bm hx).2 rfl)
  have hgw : v.ownBlock = some gw ∨ W.heap.size ≤ gw := by
    rcases hat8 with h | h
    · exact .inl h
    · right
      have := hk1.size
      omega
  have hstr : strs ((m k).getD []) ++ [.string (bs s)] = strs ((m k).getD [] ++ [s]) := by simp [strs]
  rw [hstr] at hown8
  -- rows of the others, in w8
  obtain ⟨u, hu⟩ : ∃ u : Value, (.slice (some ⟨gw, 0, none⟩) (((m k).getD []).length + 1) cap) = u := ⟨_, rfl⟩
  have hub : ∀ g, u.ownBlock = some g → g = gw := fun g hg => by
    rw [← hu] at hg
    exact (Option.some.inj hg).symm
  rw [hu] at hown8 ⊢
  -- the map with k struck: the others alone
  have h2' : ∀ j l, (if j = k then none else m j) = some l → w8.ownsRow base 9 1 (vs j) l.length (strs l) := fun j l hj => by
    by_cases ej : j = k
    · rw [if_pos ej] at hj; cases hj
    · rw [if_neg ej] at hj
      exact own_keep (h2 j l hj) hk8 (fun g hg => hfar j ej (by rw [hj]; simp) g hg)
  obtain ⟨w9, hrun, hm9, hg9⟩ := hmap8.store Tryd.underlying35 Tryd.underlying3 (k : Int) u (wf_small hk) (by simp only [maxLen]; omega)
  have hkp : Keeps [bm] w8 w9 := Keeps.grown (Keeps.refl _ _) hg9 (fun g hg => .inl (by simp at hg; simp [hg]))
  have hbm : bm < W.heap.size := h1.lt
  have hguL : gw ∉ L ∧ gw ≠ bm := by
    rcases hgw with h | h
    · exact hvL gw h
    · exact ⟨fun hx => by have := hLs gw hx; omega, by omega⟩
  refine ⟨w9, hrun, ⟨fun j => if j = k then u else vs j, hm9.congr (heldV_put m vs k hk _ u), fun j lj hj => ?_, fun i j hij hi hj g hgi hgj => ?_, fun j hj g hgj => ?_, h5, fun j hj => ?_, Nat.le_trans h7 (Nat.le_trans hk8.size hkp.size)⟩, ?_⟩
  · simp only at hj ⊢
    by_cases ej : j = k
    · rw [if_pos ej] at hj ⊢
      injection hj with hj
      subst hj
      rw [List.length_append, List.length_singleton]
      exact own_keep hown8 hkp (fun g hgv => by simp; rw [hub g hgv]; exact hguL.2)
    · rw [if_neg ej] at hj ⊢
      exact own_keep (h2' j lj (by rw [if_neg ej]; exact hj)) hkp (fun g hgv => by simp; exact (h4 j (by rw [hj]; simp) g hgv).2)
  · simp only at hi hj hgi hgj
    have hclash : ∀ j, j ≠ k → m j ≠ none → ∀ g, u.ownBlock = some g → (vs j).ownBlock = some g → False := fun j ej hmj g hgu hgj => by
      have := hub g hgu
      subst this
      rcases hgw with h | h
      · exact hfar j ej hmj g hgj (by rw [Option.mem_toList]; exact h)
      · cases hml : m j with
        | none => exact hmj hml
        | some lj =>
          have := ((h2 j lj hml).lt g hgj).2
          omega
    by_cases ei : i = k
    · rw [if_pos ei] at hgi
      have ej : j ≠ k := fun e => hij (by rw [ei, e])
      rw [if_neg ej] at hgj hj
      exact hclash j ej hj g hgi hgj
    · rw [if_neg ei] at hgi hi
      by_cases ej : j = k
      · rw [if_pos ej] at hgj
        exact hclash i ei hi g hgj hgi
      · rw [if_neg ej] at hgj hj
        exact h3 i j hij hi hj g hgi hgj
  · simp only at hj hgj
    by_cases ej : j = k
    · rw [if_pos ej] at hgj
      rw [hub g hgj]
      exact hguL
    · rw [if_neg ej] at hgj hj
      exact h4 j hj g hgj
  · show (if j = k then some _ else m j) = none
    rw [if_neg (by omega)]
    exact h6 j hj
  · exact (hk8.weaken (fun x hx _ => List.mem_cons_of_mem _ hx)).trans (hkp.weaken (fun x hx _ => by rw [List.mem_singleton.1 hx]; exact List.mem_cons_self ..))
end
end Go.Proofs.YtelafmakgokhbaaDoor
