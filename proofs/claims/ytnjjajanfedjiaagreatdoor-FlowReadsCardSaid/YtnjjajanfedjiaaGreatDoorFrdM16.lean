/- The reference's some: names with commas between. A word among words, as the reference asks: plain. The reference's oneOf and mark. -/
import Derived.Test.YtnjjajanfedjiaaGreatDoorFrdM15
import Derived.Test.YtnjjajanfedjiaaGreatDoorFrdM2
import Derived.Lib.IndexMore
import Derived.Test.YtnjjajanfedjiaaGreatDoorShTab
set_option linter.unusedSimpArgs false
set_option linter.unusedVariables false
namespace Go.Proofs.YtnjjajanfedjiaaGreatDoor
open Go.RowKit Go.BigFrame
attribute [local go_sem] bs_size bs_extract bs_append bs_toList
theorem RdIs.left {W : World} {b : Nat} {l : List Tk} {x : Option (Int × Int)} (h : RdIs W b l x) : leftT b W = l.length := by
 obtain ⟨g, o, c, h1, _⟩ := h
 unfold leftT
 rw [h1.cell 0]
 rfl
theorem own_rd' {W W' : World} {base b n size : Nat} {e : TypeId} {v : Value} {xs : List Value} {l : List Tk} {x : Option (Int × Int)} (h : W.ownsRow base e size v n xs) (hp : RdIs W b l x) (hk : Keeps [b] W W') (he : e ≠ 76) : W'.ownsRow base e size v n xs :=
 own_far' h hk (fun y hy => ⟨76, by rw [List.mem_singleton.1 hy]; exact hp.ty, he⟩)
theorem RdIs.grown {W W' : World} {b : Nat} {l : List Tk} {x : Option (Int × Int)} {row : Option Nat} {e : TypeId} (h : RdIs W b l x) (hg : W.grownBy W' row) (hr : ∀ y, row = some y → OfTy W y e) (h1 : e ≠ 76) (h2 : e ≠ 81) : RdIs W' b l x :=
 h.far (L := row.toList) (Keeps.grown (Keeps.refl _ W) hg (fun g hg => .inl (by rw [hg]; simp))) (fun y hy => ⟨e, hr y (by
  cases row with
  | none => cases hy
  | some z => simp at hy; rw [hy]), h1, h2⟩)
theorem Rl.stay {α : Type} {P : List Tk → Except (Int × Int) (α × List Tk)} {l : List Tk} {x : Option (Int × Int)} {a : α} (h : x = none → P l = .ok (a, l)) : Rl P l x a l x := by
 cases x with
 | none => exact ⟨rfl, h rfl⟩
 | some y => rfl
theorem namesP_bind : namesP = fun l => nameP l >>= fun p => namesGo p.2.length p.2 [p.1] := rfl
theorem namesGo_see {n : Nat} {q : List Tk} {acc : List Bs} (h : seeP [44] q = true) : namesGo (n + 1) q acc = (nameP q.tail >>= fun p => namesGo n p.2 (acc ++ [p.1])) := by
 conv => lhs; unfold namesGo
 rw [if_pos h]
set_option maxRecDepth 100000 in
set_option maxHeartbeats 4000000 in
theorem rsome_any {b : Nat} {l : List Tk} {x : Option (Int × Int)} (w : World) (hF : FineAt w) (hlo : 0 < b) (h : RdIs w b l x) (hll : l.length ≤ 1000000) :
  Calls Tryz.prog 69 #[.pointer (some ⟨b, 0, none⟩)] w fun e w' => ∃ ns v l' x', e = .returned v ∧ w'.ownsRow w.heap.size 9 1 v ns.length (strs ns) ∧ RdIs w' b l' x' ∧ Rl namesP l x ns l' x' ∧ (∀ s ∈ ns, s.length ≤ 10) ∧ l'.length ≤ l.length ∧ Keeps [b] w w' := by
 obtain ⟨i0, hi, hz0, hz1, hz2⟩ := info_parts sinf
 have HL := Lib.hid hll
 have HF := Lib.hid hF
 have H := Lib.hid (rname_any w hF (Nat.ne_of_lt hlo) h)
 have HFL : Hid (0 ∉ [b]) := Lib.hid (by simpa using Nat.ne_of_lt hlo)
 have hbw := h.lt
 have HGW : Hid (0 < w.heap.size) := Lib.hid (by omega)
 clear h hll hF hbw
 go_enter Tryz.func69, Tryz.ntmps69
 go_wp2_with fail
 refine H.out.mono ?_
 rintro ev w2 ⟨s, q, x1, rfl, hp2, hr2, hs2, hq2, hk2⟩
 have HP2 := Lib.hid (hp2.keep ((Keeps.refl _ _).alloc (.cells #[.string (bs s)] 9)))
 have HK2 := Lib.hid (hk2.alloc (.cells #[.string (bs s)] 9))
 have HO2 : Hid ((w2.alloc (.cells #[.string (bs s)] 9)).ownsRow w.heap.size 9 1 (.slice (some ⟨w2.heap.size, 0, none⟩) 1 1) [s].length (strs [s])) := Lib.hid (own_lit (Blk.new w2 9 #[.string (bs s)]) hk2.size rfl (by decide))
 have HIM : Hid (∀ ns l' x', Rl (fun r => namesGo q.length r [s]) q x1 ns l' x' → Rl namesP l x ns l' x') := Lib.hid (fun ns l' x' hq => by
  rw [namesP_bind]
  refine Rl.bind (Q := fun a r => namesGo r.length r [a]) hr2 ?_
  cases x' with
  | none => exact ⟨hq.1, hq.2⟩
  | some y =>
   cases x1 with
   | none => exact hq
   | some z => exact hq)
 have HS1 : Hid (∀ u ∈ [s], u.length ≤ 10) := Lib.hid (fun u hu => by rw [List.mem_singleton.1 hu]; exact hs2)
 have HQ2 := Lib.hid hq2
 clear hp2 hk2 hr2 hs2 hq2
 go_wp2_with fail
 go_loopw [3] (fun v wr => ∃ (acc : List Bs) (q : List Tk) (x1 : Option (Int × Int)) (n : Nat), Hid (∀ ns l' x', Rl (fun r => namesGo n r acc) q x1 ns l' x' → Rl namesP l x ns l' x') ∧ q.length ≤ n ∧ q.length ≤ l.length ∧ acc.length + q.length ≤ l.length + 1 ∧ Hid (∀ u ∈ acc, u.length ≤ 10) ∧ Hid (RdIs wr b q x1) ∧ Hid (wr.ownsRow w.heap.size 9 1 v acc.length (strs acc)) ∧ Hid (Keeps [b] w wr)) (fun _ wr => leftT b wr)
 case atStart => exact ⟨[s], q, x1, q.length, HIM, Nat.le_refl _, HQ2.out, by have := HQ2.out; simp; omega, HS1, HP2, HO2, HK2⟩
 case round =>
  clear HIM HP2 HO2 HK2 HS1 HQ2
  obtain ⟨acc, q, x1, n, HIM, hqn, hql, hlen, HS1, HP, HO, HK⟩ := hrel
  have hq1 := HP.out.endT.pos
  have HM := Lib.hid HP.out.left
  have HFW : Hid (FineAt wr) := Lib.hid (HF.out.keep HK.out HFL.out)
  have HT := rtake_any [44] wr HFW.out HP.out
  cases hs : (x1.isNone && seeP [44] q) with
  | false =>
   rw [hs] at HT
   have HT1 := Lib.hid HT
   have HRR : Hid (Rl namesP l x acc q x1) := Lib.hid (HIM.out _ _ _ (Rl.stay (fun e => by
    subst e
    exact namesGo_no hs n acc)))
   clear HT hs
   go_wp2_with fail
   refine HT1.out.mono ?_
   rintro ev w3 ⟨rfl, hp3, hk3⟩
   have HO3 := Lib.hid (own_rd' HO.out HP.out hk3 (by decide))
   go_wp2
   go_ret
   exact ⟨acc, _, q, x1, rfl, HO3.out, hp3, HRR.out, HS1.out, hql, HK.out.trans hk3⟩
  | true =>
   rw [hs, if_pos rfl] at HT
   have hx : x1 = none ∧ seeP [44] q = true := by
    cases x1 with
    | none => exact ⟨rfl, hs⟩
    | some y => cases hs
   obtain ⟨rfl, hse⟩ := hx
   have HT1 := Lib.hid HT
   obtain ⟨n, rfl⟩ : ∃ k, n = k + 1 := ⟨n - 1, by omega⟩
   have HS := Lib.hid hse
   clear HT hs hse
   go_wp2_with fail
   refine HT1.out.mono ?_
   rintro ev w3 ⟨rfl, hp3, hk3⟩
   have HO3 := Lib.hid (own_rd' HO.out HP.out hk3 (by decide))
   have HK3 := Lib.hid (HK.out.trans hk3)
   have H4 := Lib.hid (rname_any w3 (HF.out.keep HK3.out HFL.out) (Nat.ne_of_lt hlo) hp3)
   have HP3 := Lib.hid hp3
   have hbd := Lib.hid (show acc.length + 1 ≤ maxLen ∧ (acc.length + 1) * 16 ≤ 140737488355328 by have := HL.out; simp only [maxLen]; omega)
   clear hp3 hk3 HT1
   go_wp2_with fail
   refine H4.out.mono ?_
   rintro ev w4 ⟨s', r', x2, rfl, hp4, hr4, hs4, hl4, hk4⟩
   have HO4 := Lib.hid (own_rd' HO3.out HP3.out hk4 (by decide))
   have HP4 := Lib.hid (hp4.keep ((Keeps.refl _ _).alloc (.cells #[.string (bs s')] 9)))
   have HK4 := Lib.hid (HK3.out.trans hk4)
   have HWZ := Lib.hid (show w.heap.size ≤ w4.heap.size + 1 from Nat.le_succ_of_le HK4.out.size)
   have HIM2 : Hid (∀ ns l' x', Rl (fun r => namesGo n r (acc ++ [s'])) r' x2 ns l' x' → Rl namesP l x ns l' x') := Lib.hid (fun ns l' x' hq => HIM.out _ _ _ (by
    have hb := Rl.bind (Q := fun a r => namesGo n r (acc ++ [a])) hr4 hq
    cases x' with
    | none => exact ⟨rfl, by show namesGo (n + 1) q acc = _; rw [namesGo_see HS.out]; exact hb.2⟩
    | some y =>
     show namesGo (n + 1) q acc = _
     rw [namesGo_see HS.out]
     exact hb))
   have HS2 : Hid (∀ u ∈ acc ++ [s'], u.length ≤ 10) := Lib.hid (fun u hu => by
    rcases List.mem_append.1 hu with hu | hu
    ·exact HS1.out u hu
    ·rw [List.mem_singleton.1 hu]; exact hs4)
   have HL4 : Hid (r'.length + 1 ≤ q.length) := Lib.hid (by rw [List.length_tail] at hl4; omega)
   clear hp4 hk4 hr4 hs4 hl4 HO3 HP3 HK3 H4
   go_wp2_with (at_builtin; refine wpList_append_lies _ rfl _ _ 39 rfl _ 9 i0 _ 1 16 Tryz.underlying39 hi hz0 hz1 hz2 rfl (by decide) _ acc.length (strs acc) rfl (HO4.out.alloc _) ⟨w4.heap.size, 0, none⟩ 1 1 [.string (bs s')] rfl rfl (World.news_of_block (heap_alloc_new _ _)) (by simp [Value.oneCell']) (by decide) hbd.out.1 hbd.out.2 (by simp; exact HWZ.out) _ rfl ?_; intro gw cap2 w8 hown8 hgrow8 hat8 hlt8)
   have HK8 := Lib.hid ((HK4.out.alloc _).grown hgrow8 (fun g hg => .inr (HO4.out.lt g hg).1))
   have HP8 := Lib.hid (HP4.out.grown hgrow8 (fun y hy => (own_ty HO4.out y hy).keep ((Keeps.refl [] _).alloc _) (by simp)) (by decide) (by decide))
   rw [← strs_snoc] at hown8
   have HO8 : Hid (w8.ownsRow w.heap.size 9 1 _ (acc ++ [s']).length (strs (acc ++ [s']))) := Lib.hid (by rw [List.length_append]; exact hown8)
   clear hown8 hgrow8 hat8 hlt8
   go_wp2
   go_roundw
   case rel => exact ⟨acc ++ [s'], r', x2, n, HIM2, by have := HL4.out; omega, by have := HL4.out; omega, by have := HL4.out; simp; omega, HS2, HP8, HO8, HK8⟩
   case measure => rw [HP8.out.left, HM.out]; exact HL4.out
end Go.Proofs.YtnjjajanfedjiaaGreatDoor
namespace Go.Proofs.YtnjjajanfedjiaaGreatDoor
def bJ (ws : List Bs) : Bs := ws.flatMap (fun w => 32 :: w) ++ [32]
theorem bJ_cons (w : Bs) (ws : List Bs) : bJ (w :: ws) = 32 :: (w ++ bJ ws) := by simp [bJ]
theorem bJ_head (ws : List Bs) : ∃ r, bJ ws = 32 :: r := by
 cases ws with
 | nil => exact ⟨[], rfl⟩
 | cons w ws => exact ⟨_, bJ_cons w ws⟩
theorem pre_word : ∀ (s w r : Bs), (32 : UInt8) ∉ s → (32 : UInt8) ∉ w → (s ++ [32]).isPrefixOf (w ++ 32 :: r) = true → s = w
 | [], [], _, _, _, _ => rfl
 | [], c :: w, r, _, hw, h => by
  simp [List.isPrefixOf] at h
  exact absurd (by simp [h]) hw
 | c :: s, [], r, hs, _, h => by
  simp [List.isPrefixOf] at h
  exact absurd (by simp [h.1]) hs
 | c :: s, d :: w, r, hs, hw, h => by
  simp only [List.cons_append, List.isPrefixOf, Bool.and_eq_true, beq_iff_eq] at h
  have := pre_word s w r (fun hm => hs (List.mem_cons_of_mem _ hm)) (fun hm => hw (List.mem_cons_of_mem _ hm)) h.2
  rw [h.1, this]
theorem word_pre : ∀ (s r : Bs), (s ++ [32]).isPrefixOf (s ++ 32 :: r) = true
 | [], r => by simp [List.isPrefixOf]
 | c :: s, r => by
  simp only [List.cons_append, List.isPrefixOf, beq_self_eq_true, Bool.true_and]
  exact word_pre s r
theorem occ_in {s : Bs} (hs : (32 : UInt8) ∉ s) : ∀ (ws : List Bs), (∀ w ∈ ws, (32 : UInt8) ∉ w) → ∀ i, Lib.occAt (bJ ws) (32 :: (s ++ [32])) i = true → s ∈ ws
 | [], _, i, h => by
  unfold Lib.occAt at h
  rcases i with _ | i
  ·exfalso
   have h' : (32 :: (s ++ [32])).isPrefixOf [32] = true := h
   simp only [List.isPrefixOf, Bool.and_eq_true] at h'
   cases s with
   | nil => simp [List.isPrefixOf] at h'
   | cons c s => simp [List.isPrefixOf] at h'
  ·have e : (bJ []).drop (i + 1) = [] := by simp [bJ]
   rw [e] at h
   simp [List.isPrefixOf] at h
 | w :: ws, hw, i, h => by
  have hw0 := hw w (by simp)
  have ih := occ_in hs ws (fun u hu => hw u (List.mem_cons_of_mem _ hu))
  rw [bJ_cons] at h
  rcases i with _ | k
  ·obtain ⟨r, hr⟩ := bJ_head ws
   unfold Lib.occAt at h
   rw [List.drop_zero, hr] at h
   simp only [List.isPrefixOf, Bool.and_eq_true] at h
   rw [pre_word s w r hs hw0 h.2]
   simp
  ·unfold Lib.occAt at h
   rw [List.drop_succ_cons] at h
   by_cases hk : k < w.length
   ·exfalso
    rw [List.drop_append_of_le_length (by omega), List.drop_eq_getElem_cons hk] at h
    simp only [List.cons_append, List.isPrefixOf, Bool.and_eq_true, beq_iff_eq] at h
    exact hw0 (h.1 ▸ List.getElem_mem hk)
   ·rw [List.drop_append, List.drop_of_length_le (by omega), List.nil_append] at h
    exact List.mem_cons_of_mem _ (ih (k - w.length) h)
theorem in_occ {s : Bs} : ∀ (ws : List Bs), s ∈ ws → ∃ i, i ≤ (bJ ws).length ∧ Lib.occAt (bJ ws) (32 :: (s ++ [32])) i = true
 | [], h => by cases h
 | w :: ws, h => by
  by_cases e : s = w
  ·subst e
   refine ⟨0, Nat.zero_le _, ?_⟩
   obtain ⟨r, hr⟩ := bJ_head ws
   unfold Lib.occAt
   rw [bJ_cons, List.drop_zero, hr]
   simp only [List.isPrefixOf, beq_self_eq_true, Bool.true_and]
   exact word_pre s r
  ·obtain ⟨i, hi, ho⟩ := in_occ ws (by rcases List.mem_cons.1 h with h | h; exact absurd h e; exact h)
   refine ⟨w.length + i + 1, by rw [bJ_cons]; simp; omega, ?_⟩
   unfold Lib.occAt at ho ⊢
   rw [bJ_cons, List.drop_succ_cons, List.drop_append, List.drop_of_length_le (by omega), List.nil_append, show w.length + i - w.length = i by omega]
   exact ho
theorem contains_word {s : Bs} (hs : (32 : UInt8) ∉ s) (ws : List Bs) (hw : ∀ w ∈ ws, (32 : UInt8) ∉ w) : Lib.contains (bJ ws) (32 :: (s ++ [32])) = decide (s ∈ ws) := by
 unfold Lib.contains
 rcases Lib.index_spec (bJ ws) (32 :: (s ++ [32])) with ⟨h1, h2⟩ | ⟨i, h1, h2, h3, _⟩
 ·rw [h1]
  have : ¬ s ∈ ws := fun hm => by
   obtain ⟨i, hi, ho⟩ := in_occ ws hm
   rw [h2 i hi] at ho
   cases ho
  rw [decide_eq_false this]
  rfl
 ·rw [h1, decide_eq_true (occ_in hs ws hw i h3)]
  exact decide_eq_true (Int.natCast_nonneg _)
theorem contains_blank (s : Bs) : Lib.contains s [32] = decide ((32 : UInt8) ∈ s) := by
 have key : ∀ (s : Bs), (∃ i, i ≤ s.length ∧ Lib.occAt s [32] i = true) ↔ (32 : UInt8) ∈ s := by
  intro s
  induction s with
  | nil =>
   constructor
   ·rintro ⟨i, hi, h⟩
    unfold Lib.occAt at h
    simp [List.isPrefixOf] at h
   ·intro h; cases h
  | cons c s ih =>
   constructor
   ·rintro ⟨i, hi, h⟩
    rcases i with _ | i
    ·unfold Lib.occAt at h
     simp [List.isPrefixOf] at h
     simp [h]
    ·exact List.mem_cons_of_mem _ (ih.1 ⟨i, by simpa using hi, h⟩)
   ·intro h
    rcases List.mem_cons.1 h with h | h
    ·exact ⟨0, Nat.zero_le _, by unfold Lib.occAt; simp [List.isPrefixOf, ← h]⟩
    ·obtain ⟨i, hi, ho⟩ := ih.2 h
     exact ⟨i + 1, by simpa using hi, ho⟩
 unfold Lib.contains
 rcases Lib.index_spec s [32] with ⟨h1, h2⟩ | ⟨i, h1, h2, h3, _⟩
 ·rw [h1]
  have : ¬ (32 : UInt8) ∈ s := fun hm => by
   obtain ⟨i, hi, ho⟩ := (key s).2 hm
   rw [h2 i hi] at ho
   cases ho
  rw [decide_eq_false this]
  rfl
 ·rw [h1, decide_eq_true ((key s).1 ⟨i, h2, h3⟩)]
  exact decide_eq_true (Int.natCast_nonneg _)
def oneOfB (s : Bs) (ws : List Bs) : Bool := !s.isEmpty && !decide ((32 : UInt8) ∈ s) && decide (s ∈ ws)
theorem oneOfB_mem {s : Bs} {ws : List Bs} (hw : ∀ w ∈ ws, w ≠ [] ∧ (32 : UInt8) ∉ w) : oneOfB s ws = decide (s ∈ ws) := by
 unfold oneOfB
 by_cases h : s ∈ ws
 ·obtain ⟨h1, h2⟩ := hw s h
  have e : s.isEmpty = false := by
   cases s with
   | nil => exact absurd rfl h1
   | cons c s => rfl
  rw [e, decide_eq_false h2, decide_eq_true h]
  rfl
 ·rw [decide_eq_false h]
  simp
end Go.Proofs.YtnjjajanfedjiaaGreatDoor
namespace Go.Proofs.YtnjjajanfedjiaaGreatDoor
open Go.RowKit Go.BigFrame
theorem bs_rd0 (a : Bs) : ⟨#[32]⟩ ++ bs a = bs (32 :: a) := bs_append [32] a
theorem bs_rd1 (a : Bs) : bs a ++ ⟨#[32]⟩ = bs (a ++ [32]) := bs_append a [32]
attribute [local go_sem] bs_size bs_extract bs_append bs_toList bs_rd0 bs_rd1
structure REnv (w : World) : Prop where
 fine : FineAt w
 mlen : ∃ m, w.cell? ⟨5, 0, none⟩ = some (.int .i64 m)
theorem REnv.keep {w w' : World} {b : Nat} (h : REnv w) (hk : Keeps [b] w w') (h1 : 0 ≠ b) (h2 : 5 ≠ b) : REnv w' :=
 ⟨h.fine.keep hk (by simpa using h1), by obtain ⟨m, hm⟩ := h.mlen; exact ⟨m, hk.cell_of hm (by simpa using h2)⟩⟩
theorem REnv.quiet {w w' : World} (h : REnv w) (hk : Keeps [] w w') : REnv w' :=
 ⟨h.fine.keep hk (by simp), by obtain ⟨m, hm⟩ := h.mlen; exact ⟨m, hk.cell_of hm (by simp)⟩⟩
set_option maxHeartbeats 2000000 in
theorem oneOf_any (s U : Bs) (ws : List Bs) (hU : 32 :: (U ++ [32]) = bJ ws) (hw : ∀ v ∈ ws, v ≠ [] ∧ (32 : UInt8) ∉ v) (hs : s.length ≤ 1000000) (hul : U.length ≤ 1000) (w : World) (hE : REnv w) :
  Calls Tryz.prog 106 #[.string (bs s), .string (bs U)] w fun e w' => e = .returned (.bool (decide (s ∈ ws))) ∧ w = w' := by
 rw [← oneOfB_mem hw]
 obtain ⟨m, hm⟩ := hE.mlen
 have HC1 := Lib.hid ((Tryz.strings_Contains (bs s) (bs [32]) m w (by rw [bs_size]; omega) hm).mono (R' := fun e W' => e = .returned (.bool (decide ((32 : UInt8) ∈ s))) ∧ w = W') (fun e W' ⟨h1, h2⟩ => ⟨by rw [h1]; exact congrArg (fun b => Ending.returned (.bool b)) (contains_blank s), h2.symm⟩))
 obtain ⟨B, hB⟩ : ∃ B, oneOfB s ws = B := ⟨_, rfl⟩
 rw [hB]
 cases s with
 | nil =>
  have HB : Hid (B = false) := Lib.hid (by rw [← hB]; rfl)
  clear hB hE hm hU hw hs
  go_enter Tryz.func106, Tryz.ntmps106
  go_wp2
  go_ret
  exact ⟨by rw [HB.out]; rfl, rfl⟩
 | cons c t =>
  obtain ⟨s, hsn⟩ : ∃ s, c :: t = s := ⟨_, rfl⟩
  rw [hsn] at HC1 hB hs ⊢
  have he : List.isEmpty s = false := by rw [← hsn]; rfl
  clear hsn
  by_cases h32 : (32 : UInt8) ∈ s
  ·rw [decide_eq_true h32] at HC1
   have HB : Hid (B = false) := Lib.hid (by rw [← hB]; unfold oneOfB; rw [decide_eq_true h32]; simp)
   clear hB hE hm hU hw h32
   go_enter Tryz.func106, Tryz.ntmps106
   go_wp2_with fail
   refine HC1.out.mono ?_
   rintro ev w2 ⟨rfl, rfl⟩
   go_wp2
   go_ret
   exact ⟨by rw [HB.out]; rfl, rfl⟩
  ·rw [decide_eq_false h32] at HC1
   have hcw := contains_word h32 ws (fun v hv => (hw v hv).2)
   have HC2 := Lib.hid ((Tryz.strings_Contains (bs (bJ ws)) (bs (32 :: (s ++ [32]))) m w (by rw [bs_size, ← hU]; simp; omega) hm).mono (R' := fun e W' => e = .returned (.bool B) ∧ w = W') (fun e W' ⟨h1, h2⟩ => ⟨by rw [h1, ← hB]; unfold oneOfB; rw [decide_eq_false h32, he]; exact congrArg (fun b => Ending.returned (.bool b)) (hcw.trans (by simp)), h2.symm⟩))
   rw [← hU] at HC2
   clear hB hE hm hU hw h32 hcw
   go_enter Tryz.func106, Tryz.ntmps106
   go_wp2_with fail
   refine HC1.out.mono ?_
   rintro ev w2 ⟨rfl, rfl⟩
   go_wp2_with fail
   refine HC2.out.mono ?_
   rintro ev w2 ⟨rfl, rfl⟩
   go_wp2
   go_ret
   exact ⟨rfl, rfl⟩
theorem oneP_not {ws : List Bs} {l : List Tk} (h : (hdT l).text ∉ ws) : oneP ws l = failP 3 l := by
 have key : ∀ ws : List Bs, (hdT l).text ∉ ws → seenI l ws = none := by
  intro ws
  induction ws with
  | nil => intro _; rfl
  | cons a ws ih =>
   intro h
   unfold seenI
   have : seeP a l = false := by
    unfold seeP
    have e : ((hdT l).text == a) = false := by rw [beq_eq_false_iff_ne]; intro e; exact h (by simp [e])
    rw [e, Bool.and_false]
   rw [this, ih (fun hm => h (List.mem_cons_of_mem _ hm))]
   rfl
 unfold oneP
 rw [key ws h]
theorem oneP_must {ws : List Bs} {l : List Tk} (h : (hdT l).text ∈ ws) : oneP ws l = (mustU (hdT l).text l >>= fun p => .ok ((hdT l).text, p.2)) := by
 by_cases hk : (hdT l).kind = 5
 ·have hs : ∀ m, seeP m l = false := fun m => by unfold seeP; rw [hk]; rfl
  have h0 : ∀ ws : List Bs, seenI l ws = none := by
   intro ws
   induction ws with
   | nil => rfl
   | cons a ws ih => unfold seenI; rw [hs, ih]; rfl
  unfold oneP mustU mustP
  rw [h0, hs]
  rfl
 ·cases l with
  | nil => exact absurd rfl hk
  | cons t r =>
   have ht : kt t = (t.kind, t.text) := rfl
   have h' : t.text ∈ ws := h
   have hk' : t.kind ≠ 5 := hk
   rw [one_tok ht hk' h']
   unfold mustU
   show _ = ((mustP t.text (t :: r) >>= fun r => Except.ok ((), r)) >>= _)
   rw [must_tok ht hk']
   rfl
set_option maxRecDepth 100000 in
set_option maxHeartbeats 4000000 in
theorem rmark_any (U : Bs) (ws : List Bs) (hU : 32 :: (U ++ [32]) = bJ ws) (hw : ∀ v ∈ ws, v ≠ [] ∧ (32 : UInt8) ∉ v) (h10 : ∀ v ∈ ws, v.length ≤ 10) (hul : U.length ≤ 1000) {b : Nat} {l : List Tk} {x : Option (Int × Int)} (w : World) (hE : REnv w) (hlo : 0 ≠ b) (hlo2 : 5 ≠ b) (h : RdIs w b l x) :
  Calls Tryz.prog 68 #[.pointer (some ⟨b, 0, none⟩), .string (bs U)] w fun e w' => ∃ s l' x', e = .returned (.string (bs s)) ∧ RdIs w' b l' x' ∧ Rl (oneP ws) l x s l' x' ∧ s.length ≤ 10 ∧ l'.length ≤ l.length ∧ Keeps [b] w w' := by
 have HH := Lib.hid h
 have HE := Lib.hid hE
 have HO := Lib.hid (ok_any w hE.fine h)
 obtain ⟨g, o, c, c0, c1, c2, ⟨z0, z1, z2⟩, lb, lg, -, hn, hc, hc2, k0, k1, k2, htn⟩ := h.open'
 have hn2 : (0 : Int) < (l.length : Int) := by omega
 have htl := htn.1.1.1
 obtain ⟨tx, htx⟩ : ∃ tx, (hdT l).text = tx := ⟨_, rfl⟩
 rw [htx] at k1 htl
 have HTX := Lib.hid htx
 clear h hE htn htx
 cases x with
 | some y =>
  go_enter Tryz.func68, Tryz.ntmps68
  go_wp2_with fail
  refine HO.out.mono ?_
  rintro ev w1 ⟨hev, hk⟩
  have hev' : ev = .returned (.bool false) := hev
  subst hev'
  have HK := Lib.hid hk
  have HP := Lib.hid (HH.out.keep hk)
  clear hev hk
  go_wp2_with fail
  refine (rfails_any 3 (by decide) w1 (HE.out.quiet HK.out).fine HP.out).mono ?_
  rintro ev w2 ⟨rfl, hp, hk⟩
  have HK2 := Lib.hid (HK.out.of_nil.trans hk)
  have HP2 := Lib.hid hp
  clear hp hk
  go_wp2
  go_ret
  exact ⟨[], l, _, rfl, HP2.out, rfl, Nat.zero_le _, Nat.le_refl _, HK2.out⟩
 | none =>
  by_cases hm : tx ∈ ws
  ·have hO1 := fun W hW => oneOf_any tx U ws hU hw htl hul W hW
   rw [decide_eq_true hm] at hO1
   have HO1 := Lib.hid hO1
   have H10 := Lib.hid (h10 tx hm)
   have HM := Lib.hid (oneP_must (ws := ws) (l := l) (by rw [HTX.out]; exact hm))
   clear hO1 hm hU hw h10 hul htl
   go_enter Tryz.func68, Tryz.ntmps68
   go_wp2_with fail
   refine HO.out.mono ?_
   rintro ev w1 ⟨hev, hk⟩
   have hev' : ev = .returned (.bool true) := hev
   subst hev'
   have HK := Lib.hid hk
   have HP := Lib.hid (HH.out.keep hk)
   clear hev hk
   go_wp2_with fail
   refine (HO1.out w1 (HE.out.quiet HK.out)).mono ?_
   rintro ev w2 ⟨rfl, rfl⟩
   go_wp2_with fail
   refine (rmust_any tx w1 (HE.out.quiet HK.out).fine hlo HP.out).mono ?_
   rintro ev w2 ⟨rfl, ⟨l', x', hp, hr, hll⟩, hk⟩
   have HK2 := Lib.hid (HK.out.of_nil.trans hk)
   have HP2 := Lib.hid hp
   have HR : Hid (Rl (oneP ws) l none tx l' x') := Lib.hid (by
    have hm := HM.out
    rw [HTX.out] at hm
    cases x' with
    | none => exact ⟨rfl, by rw [hm, hr.2]; rfl⟩
    | some y =>
     show oneP ws l = _
     rw [hm, show mustU tx l = .error y from hr]
     rfl)
   have HLL := Lib.hid hll
   clear hp hk hr hll
   go_wp2
   go_ret
   exact ⟨tx, l', x', rfl, HP2.out, HR.out, H10.out, HLL.out, HK2.out⟩
  ·have hO1 := fun W hW => oneOf_any tx U ws hU hw htl hul W hW
   rw [decide_eq_false hm] at hO1
   have HO1 := Lib.hid hO1
   have HM := Lib.hid (oneP_not (ws := ws) (l := l) (by rw [HTX.out]; exact hm))
   clear hO1 hm hU hw h10 hul htl
   go_enter Tryz.func68, Tryz.ntmps68
   go_wp2_with fail
   refine HO.out.mono ?_
   rintro ev w1 ⟨hev, hk⟩
   have hev' : ev = .returned (.bool true) := hev
   subst hev'
   have HK := Lib.hid hk
   have HP := Lib.hid (HH.out.keep hk)
   clear hev hk
   go_wp2_with fail
   refine (HO1.out w1 (HE.out.quiet HK.out)).mono ?_
   rintro ev w2 ⟨rfl, rfl⟩
   go_wp2_with fail
   refine (rfails_any 3 (by decide) w1 (HE.out.quiet HK.out).fine HP.out).mono ?_
   rintro ev w2 ⟨rfl, hp, hk⟩
   have HK2 := Lib.hid (HK.out.of_nil.trans hk)
   have HP2 := Lib.hid hp
   clear hp hk
   go_wp2
   go_ret
   exact ⟨[], l, _, rfl, HP2.out, HM.out, Nat.zero_le _, Nat.le_refl _, HK2.out⟩
end Go.Proofs.YtnjjajanfedjiaaGreatDoor
