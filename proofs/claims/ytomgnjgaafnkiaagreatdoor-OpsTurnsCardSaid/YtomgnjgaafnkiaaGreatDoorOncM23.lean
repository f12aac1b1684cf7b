/- OpsOnce as plain data: distinct once is distinct twice; all columns, picked, are the table. No program in sight. OpsTurns as plain data: left out first, or last. No program in sight. OpsTurns: what is not asked. -/
import Derived.Test.YtomgnjgaafnkiaaGreatDoorOncM18
import Derived.Test.YtomgnjgaafnkiaaGreatDoorOncM20
import Derived.Test.YtomgnjgaafnkiaaGreatDoorOncM22
namespace Go.Proofs.YtomgnjgaafnkiaaGreatDoor
theorem dist_out : ∀ (rs : List (List Vl)) (seen : List Bs) (out : List (List Vl)), distinctGo rs seen out = out ++ distinctGo rs seen []
  | [], _, out => by simp [distinctGo]
  | r :: rs, seen, out => by
    unfold distinctGo
    split
    · exact dist_out rs seen out
    · rw [dist_out rs _ (out ++ [r]), dist_out rs _ ([] ++ [r])]
      simp
theorem dist_congr : ∀ (rs : List (List Vl)) (s1 s2 : List Bs) (out : List (List Vl)), (∀ x, x ∈ s1 ↔ x ∈ s2) → distinctGo rs s1 out = distinctGo rs s2 out
  | [], _, _, _, _ => rfl
  | r :: rs, s1, s2, out, h => by
    unfold distinctGo
    by_cases h1 : rowText r ∈ s1
    · rw [if_pos h1, if_pos ((h _).1 h1)]
      exact dist_congr rs s1 s2 out h
    · rw [if_neg h1, if_neg (fun h2 => h1 ((h _).2 h2))]
      exact dist_congr rs _ _ _ fun x => by simp [h x]
theorem dist_append : ∀ (a b : List (List Vl)) (seen : List Bs) (out : List (List Vl)), distinctGo (a ++ b) seen out = distinctGo b (a.map rowText ++ seen) (distinctGo a seen out)
  | [], b, seen, out => rfl
  | r :: a, b, seen, out => by
    have e : distinctGo (r :: a) seen out = if rowText r ∈ seen then distinctGo a seen out else distinctGo a (rowText r :: seen) (out ++ [r]) := by
      conv => lhs; unfold distinctGo
    rw [List.cons_append]
    conv => lhs; unfold distinctGo
    rw [e]
    split
    · rename_i h
      rw [dist_append a b seen out]
      exact dist_congr b _ _ _ fun x => by
        simp only [List.map_cons, List.cons_append, List.mem_append, List.mem_cons]
        constructor
        · intro hx; exact .inr hx
        · rintro (rfl | hx)
          · exact .inr h
          · exact hx
    · rw [dist_append a b _ _]
      exact dist_congr b _ _ _ fun x => by
        simp only [List.map_cons, List.cons_append, List.mem_append, List.mem_cons]
        constructor
        · rintro (h | h | h)
          · exact .inr (.inl h)
          · exact .inl h
          · exact .inr (.inr h)
        · rintro (h | h | h)
          · exact .inr (.inl h)
          · exact .inl h
          · exact .inr (.inr h)
theorem dist_seen : ∀ (rs : List (List Vl)) (seen : List Bs) (out : List (List Vl)), (∀ r ∈ rs, rowText r ∈ seen) → distinctGo rs seen out = out
  | [], _, _, _ => rfl
  | r :: rs, seen, out, h => by
    unfold distinctGo
    rw [if_pos (h r (by simp))]
    exact dist_seen rs seen out fun x hx => h x (by simp [hx])
theorem dist_twice (rs : List (List Vl)) : distinctGo (rs ++ rs) [] [] = distinctGo rs [] [] := by
  rw [dist_append, dist_seen rs _ _ fun r hr => by simp; exact ⟨r, hr, rfl⟩]
theorem dist_new : ∀ (rs : List (List Vl)) (seen : List Bs), ((distinctGo rs seen []).map rowText).Nodup ∧ ∀ r ∈ distinctGo rs seen [], rowText r ∉ seen
  | [], _ => by simp [distinctGo]
  | r :: rs, seen => by
    unfold distinctGo
    split
    · exact dist_new rs seen
    · rename_i h
      obtain ⟨h1, h2⟩ := dist_new rs (rowText r :: seen)
      rw [dist_out rs _ ([] ++ [r])]
      simp only [List.nil_append, List.singleton_append, List.map_cons, List.nodup_cons, List.mem_map, List.mem_cons, forall_eq_or_imp]
      refine ⟨⟨?_, h1⟩, h, fun x hx hn => h2 x hx (by simp [hn])⟩
      rintro ⟨x, hx, he⟩
      exact h2 x hx (by simp [he])
theorem dist_fix : ∀ (rs : List (List Vl)) (seen : List Bs), (rs.map rowText).Nodup → (∀ r ∈ rs, rowText r ∉ seen) → distinctGo rs seen [] = rs
  | [], _, _, _ => rfl
  | r :: rs, seen, hn, hs => by
    unfold distinctGo
    rw [if_neg (hs r (by simp)), dist_out]
    simp only [List.map_cons, List.nodup_cons] at hn
    rw [dist_fix rs (rowText r :: seen) hn.2 fun x hx hm => by
      rcases List.mem_cons.1 hm with h | h
      · exact hn.1 (by rw [← h]; exact List.mem_map_of_mem hx)
      · exact hs x (by simp [hx]) h]
    rfl
theorem dist_again (rs : List (List Vl)) : distinctGo (distinctGo rs [] []) [] [] = distinctGo rs [] [] :=
  dist_fix _ [] (dist_new rs []).1 (by simp)
def jD : Jb := ⟨0, 6, [], [], [], [], ⟨[], zV⟩, ⟨[], zV⟩, 0⟩
def jU : Jb := ⟨0, 5, [], [], [], [], ⟨[], zV⟩, ⟨[], zV⟩, 0⟩
def jP (cols : List Bs) : Jb := ⟨0, 3, [], [], cols, [], ⟨[], zV⟩, ⟨[], zV⟩, 0⟩
def distT (t : Tb) : Tb := ⟨t.cols, distinctGo t.rows [] []⟩
theorem pick_all {t : Tb} (h : rightB t = true) : pickOk (jP (t.cols.map (·.name))) t.cols ∧ (⟨(t.cols.map (·.name)).map (colOf t.cols), t.rows.map (pickRow (jP (t.cols.map (·.name))) t)⟩ : Tb) = t := by
  obtain ⟨a, _, c⟩ := rightB_parts.1 h
  obtain ⟨h1, h2, _, h4⟩ := colsB_iff.1 a
  refine ⟨⟨by simpa [jP] using h1, by simpa [jP] using h2, fun n hn => ?_, h4⟩, ?_⟩
  · obtain ⟨x, hx, rfl⟩ := List.mem_map.1 hn
    obtain ⟨k, hk, rfl⟩ := List.getElem_of_mem hx
    exact ⟨k, colIx_self h4 hk⟩
  · obtain ⟨cols, rows⟩ := t
    simp only at h4 c ⊢
    congr 1
    · apply List.ext_getElem (by simp)
      intro i h5 h6
      simp only [List.getElem_map]
      exact (colOf_some (colIx_self h4 h6)).2.1
    · refine (List.map_congr_left fun r hr => ?_).trans (List.map_id _)
      obtain ⟨hl, _⟩ := rowB_iff'.1 (c r hr)
      apply List.ext_getElem (by simp [pickRow, jP, hl])
      intro i h5 h6
      have hi : i < cols.length := by
        have h7 : (pickRow (jP (cols.map (·.name))) ⟨cols, rows⟩ r).length = cols.length := by simp [pickRow, jP]
        omega
      have hic : i < (jP (cols.map (·.name))).cols.length := by simpa [jP] using hi
      have h8 : i < r.length := h6
      refine pick_at _ _ r i hic ?_ h8
      simp only [jP, List.getElem_map]
      exact colIx_self h4 hi
theorem once_bad {t : Tb} (h : rightB t = false) : oneJ jD [t] = none := one_none fun u hu => by
  have := ((one_dist rfl).1 hu).1
  rw [h] at this; cases this
theorem once_d {t : Tb} (h : rightB t = true) : oneJ jD [t] = some (distT t) := (one_dist rfl).2 ⟨h, rfl⟩
theorem once_dd {t : Tb} (h : rightB t = true) : oneJ jD [distT t] = some (distT t) := (one_dist rfl).2 ⟨dist_right h, by unfold distT; simp only; rw [dist_again]⟩
theorem once_all {t : Tb} (h : rightB t = true) : oneJ (jP (t.cols.map (·.name))) [t] = some t := (one_proj rfl).2 ⟨h, (pick_all h).1, (pick_all h).2.symm⟩
theorem once_uno {t : Tb} (hl : 60 < 2 * t.rows.length) : oneJ jU [t, t] = none := one_none fun u hu => by
  have := ((one_union rfl).1 hu).2.2.2.1
  omega
theorem once_u {t : Tb} (h : rightB t = true) (hl : 2 * t.rows.length ≤ 60) : oneJ jU [t, t] = some ⟨t.cols, t.rows ++ t.rows⟩ := (one_union rfl).2 ⟨h, h, rfl, by omega, rfl⟩
theorem once_ud {t : Tb} (h : rightB t = true) (hl : 2 * t.rows.length ≤ 60) : oneJ jD [⟨t.cols, t.rows ++ t.rows⟩] = some (distT t) :=
  (one_dist rfl).2 ⟨union_right h h rfl (by omega), by unfold distT; simp only; rw [dist_twice]⟩
end Go.Proofs.YtomgnjgaafnkiaaGreatDoor
namespace Go.Proofs.YtomgnjgaafnkiaaGreatDoor
def jTf (j : Jb) : Jb := { j with code := 1, cols := [] }
theorem pick_cols_ix {j : Jb} {a : List Cl} (hp : pickOk j a) {n : Bs} (hn : n ∈ j.cols) : ∃ i k, ∃ (hi : i < j.cols.length) (hk : k < a.length), j.cols[i] = n ∧ colIx a n = some k ∧ colIx (j.cols.map (colOf a)) n = some i ∧ (j.cols.map (colOf a))[i]'(by simpa using hi) = a[k] := by
  obtain ⟨_, _, h3, h4⟩ := hp
  obtain ⟨i, hi, rfl⟩ := List.getElem_of_mem hn
  obtain ⟨k, hk⟩ := h3 _ (List.getElem_mem hi)
  obtain ⟨hkl, he, hnm⟩ := colOf_some hk
  refine ⟨i, k, hi, hkl, rfl, hk, ?_, by rw [List.getElem_map]; exact he⟩
  refine colIx_some.2 ⟨by simpa using hi, by rw [List.getElem_map]; exact hnm, fun m hm => ?_⟩
  rw [List.getElem_map]
  obtain ⟨k', hk'⟩ := h3 _ (List.getElem_mem (show m < j.cols.length by omega))
  rw [(colOf_some hk').2.2]
  rw [List.nodup_iff_pairwise_ne, List.pairwise_iff_getElem] at h4
  exact h4 m i (by omega) hi hm
theorem arg_pick {j : Jb} {t : Tb} (hp : pickOk j t.cols) {a : Ar} (ha : a.col = [] ∨ a.col ∈ j.cols) {r : List Vl} (hr : r.length = t.cols.length) : argV a (j.cols.map (colOf t.cols)) (pickRow j t r) = argV a t.cols r := by
  unfold argV
  by_cases h0 : a.col = []
  · rw [if_pos h0, if_pos h0]
  · rw [if_neg h0, if_neg h0]
    obtain ⟨i, k, hi, hk, hn, h1, h2, _⟩ := pick_cols_ix hp (ha.resolve_left h0)
    rw [h1, h2]
    simp only
    have h3 : i < (pickRow j t r).length := by simpa [pickRow] using hi
    rw [List.getD_eq_getElem?_getD, List.getElem?_eq_getElem h3, List.getD_eq_getElem?_getD, List.getElem?_eq_getElem (by omega)]
    simp only [Option.getD_some]
    exact pick_at j t r i hi (by rw [hn]; exact h1) (by omega)
theorem kind_pick {j : Jb} {a : List Cl} (hp : pickOk j a) {x : Ar} (hx : x.col = [] ∨ x.col ∈ j.cols) : kindI x (j.cols.map (colOf a)) = kindI x a := by
  unfold kindI
  by_cases h0 : x.col = []
  · rw [if_pos h0, if_pos h0]
  · rw [if_neg h0, if_neg h0]
    obtain ⟨i, k, hi, hk, hn, h1, h2, h3⟩ := pick_cols_ix hp (hx.resolve_left h0)
    rw [h1, h2]
    simp only
    have e : ((j.cols.map (colOf a)).getD i zC) = a.getD k zC := by
      rw [List.getD_eq_getElem?_getD, List.getElem?_eq_getElem (by simpa using hi), List.getD_eq_getElem?_getD, List.getElem?_eq_getElem hk]
      simp only [Option.getD_some]
      exact h3
    rw [e]
def projT (j : Jb) (t : Tb) : Tb := ⟨j.cols.map (colOf t.cols), t.rows.map (pickRow j t)⟩
theorem turns_pick {j : Jb} {cols : List Bs} {t f p : Tb} (hf : oneJ (jTf j) [t] = some f) (hp : oneJ (jP cols) [t] = some p) (hl : j.left.col ∈ cols) (hr : j.right.col = [] ∨ j.right.col ∈ cols) : ∃ x, oneJ (jP cols) [f] = some x ∧ oneJ (jTf j) [p] = some x := by
  obtain ⟨hrt, hpk, rfl⟩ := (one_proj rfl).1 hp
  rw [one_filter (jTf j) t rfl] at hf
  split at hf
  · rename_i hc
    injection hf with hf
    subst hf
    have hfr := filter_right (jTf j) hrt
    have hpr : rightB (projT (jP cols) t) = true := proj_right hrt hpk
    refine ⟨projT (jP cols) (filterT (jTf j) t), (one_proj rfl).2 ⟨hfr, hpk, rfl⟩, ?_⟩
    rw [one_filter (jTf j) _ rfl, if_pos]
    · congr 1
      unfold filterT projT
      congr 1
      simp only
      rw [List.filter_map]
      congr 1
      refine List.filter_congr fun r hm => ?_
      have hlen := (rowB_iff'.1 ((rightB_parts.1 hrt).2.2 r hm)).1
      unfold keepsJ
      simp only [Function.comp]
      rw [arg_pick (j := jP cols) hpk (a := (jTf j).left) (.inr hl) hlen, arg_pick (j := jP cols) hpk (a := (jTf j).right) hr hlen]
    · refine ⟨hpr, ?_⟩
      obtain ⟨h1, h2, k, h3, h4⟩ := cmp_none.1 hc.2
      obtain ⟨i, k', hi, hk', hn, h5, h6, h7⟩ := pick_cols_ix (j := jP cols) hpk (n := (jTf j).left.col) hl
      rw [h3] at h5
      cases h5
      refine cmp_none.2 ⟨h1, h2, i, h6, ?_⟩
      rw [kind_pick (j := jP cols) hpk (x := (jTf j).right) hr, h4]
      rw [List.getD_eq_getElem?_getD, List.getElem?_eq_getElem hk', List.getD_eq_getElem?_getD, List.getElem?_eq_getElem (by simpa using hi)]
      simp only [Option.getD_some]
      rw [h7]
  · cases hf
theorem turns_union {j : Jb} {t u f g both : Tb} (hf : oneJ (jTf j) [t] = some f) (hb : oneJ jU [t, u] = some both) (hg : oneJ (jTf j) [u] = some g) : ∃ x, oneJ (jTf j) [both] = some x ∧ oneJ jU [f, g] = some x := by
  obtain ⟨hrt, hru, hc, hl, rfl⟩ := (one_union rfl).1 hb
  rw [one_filter (jTf j) t rfl] at hf
  rw [one_filter (jTf j) u rfl] at hg
  split at hf
  · rename_i h1
    split at hg
    · rename_i h2
      injection hf with hf
      injection hg with hg
      subst hf hg
      have hbr := union_right hrt hru hc hl
      refine ⟨⟨t.cols, (t.rows.filter (keepsJ (jTf j) t)) ++ (u.rows.filter (keepsJ (jTf j) u))⟩, ?_, (one_union rfl).2 ⟨filter_right _ hrt, filter_right _ hru, hc, ?_, rfl⟩⟩
      · rw [one_filter (jTf j) _ rfl, if_pos ⟨hbr, h1.2⟩]
        congr 1
        unfold filterT
        congr 1
        simp only [List.filter_append]
        congr 1
        refine List.filter_congr fun r _ => ?_
        unfold keepsJ
        simp only [hc]
      · have a1 := List.length_filter_le (keepsJ (jTf j) t) t.rows
        have a2 := List.length_filter_le (keepsJ (jTf j) u) u.rows
        unfold filterT
        simp only
        omega
    · cases hg
  · cases hf
end Go.Proofs.YtomgnjgaafnkiaaGreatDoor
namespace Go.Proofs.YtomgnjgaafnkiaaGreatDoor
open Go.RowKit
attribute [local go_sem] bs_size bs_extract bs_append bs_toList
def eT : Tb := ⟨[], []⟩
theorem eT_in (w : World) : TabIn w eT none none 0 0 := by
  have h1 : Rd w [] 2 none eT.cols.length (csCells eT.cols) := Rd.nil
  have h2 : RdRows w [] none eT.rows := ⟨[], rfl, Rd.nil, fun i h => absurd h (by simp)⟩
  exact ⟨h1, Nat.le_refl _, h2, Nat.le_refl _, (fun x h => by cases h), by decide, by decide, (fun r h => by cases h)⟩
theorem some_of {R : Option Tb} {f : Tb} (hf : R.getD eT = f) (hb : R.isSome = true) : R = some f := by
  cases R with
  | none => cases hb
  | some x => rw [← hf]; rfl
/-- one, whatever comes of it. -/
theorem oneU {j : Jb} {t f : Tb} {b : Bool} (hcode : j.code = 1 ∨ j.code = 2 ∨ j.code = 3 ∨ j.code = 5 ∨ j.code = 6) (hf : (oneJ j [t]).getD eT = f) (hb : (oneJ j [t]).isSome = b) (Ao : Option Addr) (co : Nat) (Ai : Option Addr) (ni ci : Nat) (Ac : Option Addr) (cc : Nat) (A B : Option Addr) (c d : Nat) (w : World) (n : Nat) (hn : w.heap.size = n) (hE : OEnv w) (hA : Rd w [] 1 Ac j.cols.length (strs j.cols)) (hcc : j.cols.length ≤ cc) (hlc : j.cols.length ≤ 4294967296) (hT : TabIn w t A B c d) :
    Calls Tryz.prog 11 #[jAgg j Ao co Ai ni ci Ac cc, .slice (some ⟨n, 0, none⟩) 1 1] (w.alloc (.cells #[.slice A t.cols.length c, .slice B t.rows.length d] 25)) fun e w' => (∃ A1 c1 A2 c2, e = .returned (.tuple #[.agg #[.slice A1 f.cols.length c1, .slice A2 f.rows.length c2], .bool b]) ∧ TabIn w' f A1 A2 c1 c2) ∧ Keeps [] w w' := by
  subst hn
  have hk : Keeps [] w (w.alloc (.cells #[.slice A t.cols.length c, .slice B t.rows.length d] 25)) := (Keeps.refl _ _).alloc _
  have hI := rdTbs_blk (Blk.new w 25 _) (hT.quiet hk)
  have hB : ∀ x ∈ [t], TbB x := fun x hx => by rw [List.mem_singleton] at hx; rw [hx]; exact hT.tbB
  cases ho : oneJ j [t] with
  | some u =>
    rw [ho] at hf hb
    subst hf hb
    refine (one_some hcode ho Ao co Ai ni ci Ac cc _ 1 _ (hE.quiet hk) (hA.keep hk) hcc hlc hI hB (by show 1 ≤ _; omega)).mono ?_
    rintro e w' ⟨h, hk2⟩
    exact ⟨h, hk.trans hk2⟩
  | none =>
    rw [ho] at hf hb
    subst hf hb
    refine (one_noth hcode ho Ao co Ai ni ci Ac cc _ 1 _ (hE.quiet hk) (hA.keep hk) hcc hlc hI hB (by show 1 ≤ _; omega)).mono ?_
    rintro e w' ⟨h, hk2⟩
    exact ⟨⟨none, 0, none, 0, h, eT_in _⟩, hk.trans hk2⟩
theorem oneU2 {j : Jb} {t u f : Tb} {b : Bool} (hcode : j.code = 1 ∨ j.code = 2 ∨ j.code = 3 ∨ j.code = 5 ∨ j.code = 6) (hf : (oneJ j [t, u]).getD eT = f) (hb : (oneJ j [t, u]).isSome = b) (Ac : Option Addr) (cc : Nat) (A B : Option Addr) (c d : Nat) (A' B' : Option Addr) (c' d' : Nat) (w : World) (n : Nat) (hn : w.heap.size = n) (hE : OEnv w) (hA : Rd w [] 1 Ac j.cols.length (strs j.cols)) (hcc : j.cols.length ≤ cc) (hlc : j.cols.length ≤ 4294967296) (hT : TabIn w t A B c d) (hS : TabIn w u A' B' c' d') :
    Calls Tryz.prog 11 #[jAgg j none 0 none 0 0 Ac cc, .slice (some ⟨n, 0, none⟩) 2 2] (w.alloc (.cells #[.slice A t.cols.length c, .slice B t.rows.length d, .slice A' u.cols.length c', .slice B' u.rows.length d'] 25)) fun e w' => (∃ A1 c1 A2 c2, e = .returned (.tuple #[.agg #[.slice A1 f.cols.length c1, .slice A2 f.rows.length c2], .bool b]) ∧ TabIn w' f A1 A2 c1 c2) ∧ Keeps [] w w' := by
  cases ho : oneJ j [t, u] with
  | some x =>
    rw [ho] at hf hb
    subst hf hb
    exact oneT2 hcode ho Ac cc A B c d A' B' c' d' w n hn hE hA hcc hlc hT hS
  | none =>
    rw [ho] at hf hb
    subst hf hb
    refine (oneN2 hcode ho Ac cc A B c d A' B' c' d' w n hn hE hA hcc hlc hT hS).mono ?_
    rintro e w' ⟨h, hk2⟩
    exact ⟨⟨none, 0, none, 0, h, eT_in _⟩, hk2⟩
theorem longT_any (k : Bs) (w : World) : Calls Tryz.prog 26 #[.string (bs k)] w fun e w' => e = .returned (.bool (decide (40 < k.length))) ∧ Keeps [] w w' := by
  go_enter Tryz.func26, Tryz.ntmps26
  go_wp2
  go_ret
  exact ⟨congrArg (fun b => Ending.returned (.bool b)) (by rw [decide_eq_decide]; omega), Keeps.refl _ _⟩
set_option maxHeartbeats 8000000 in
set_option maxRecDepth 40000 in
theorem oturns_0 (j : Jb) (Ao : Option Addr) (co : Nat) (Ai : Option Addr) (ni ci : Nat) (Ac : Option Addr) (cc : Nat) (t : Tb) (A B : Option Addr) (c d : Nat) (u : Tb) (A' B' : Option Addr) (c' d' : Nat) (cols : List Bs) (Ax : Option Addr) (cx : Nat) (w : World) (hJ : JobAny w j Ao co Ac cc) (hT : TabAny w t A B c d) (hU : TabAny w u A' B' c' d') (hX : Rd w [] 1 Ax cols.length (strs cols)) (hxc : cols.length ≤ cx) (hE : OEnv w) (hsh : shortB j = false) :
    Calls Tryz.prog 7 #[jAgg j Ao co Ai ni ci Ac cc, tAgg A t.cols.length c B t.rows.length d, tAgg A' u.cols.length c' B' u.rows.length d', .slice Ax cols.length cx] w fun e w' => e = .returned (.bool true) ∧ Keeps [] w w' := by
  have HSH0 := Lib.hid (fun W (q : Keeps [] w W) => short_any j Ao co Ai ni ci Ac cc W (hJ.cols.keep q))
  have HS1 : Hid (∀ W, Keeps [] w W → Calls Tryz.prog 9 #[.agg #[.slice A t.cols.length c, .slice B t.rows.length d]] W fun e W' => e = .returned (.bool (smallB t)) ∧ Keeps [] W W') := Lib.hid fun W q => small_any t A B c d W (hT.cols.keep q) (hT.rows.keep q)
  have HS2 : Hid (∀ W, Keeps [] w W → Calls Tryz.prog 9 #[.agg #[.slice A' u.cols.length c', .slice B' u.rows.length d']] W fun e W' => e = .returned (.bool (smallB u)) ∧ Keeps [] W W') := Lib.hid fun W q => small_any u A' B' c' d' W (hU.cols.keep q) (hU.rows.keep q)
  have HLG : Hid (∀ W, Keeps [] w W → cols.length ≤ 8 → Calls Tryz.prog 20 #[.slice Ax cols.length cx, .func (.func 26) #[] #[]] W fun e W' => e = .returned (.bool (cols.any fun s => decide (40 < s.length))) ∧ Keeps [] W W') := Lib.hid fun W q h8 => containsFuncS_any 26 #[] (enters_of Tryz.func26 (by kernel_rfl) rfl) (fun s => decide (40 < s.length)) cols Ax cx W (hX.keep q) (by omega) (fun v _ W _ => longT_any v W)
  rw [hsh] at HSH0
  clear hJ hT hU hX hE hsh
  obtain ⟨at_, code, outs, js, jcols, op, ⟨lc, lk, ln, lw⟩, ⟨rc, rk, rn, rw'⟩, retry⟩ := j
  obtain ⟨no, hno⟩ : ∃ n, outs.length = n := ⟨_, rfl⟩
  obtain ⟨nc, hnc⟩ : ∃ n, jcols.length = n := ⟨_, rfl⟩
  obtain ⟨nx, hnx⟩ : ∃ n, cols.length = n := ⟨_, rfl⟩
  have HSH : Hid (∀ W, Keeps [] w W → Calls Tryz.prog 17 #[.agg #[.int .i64 at_, .int .i64 code, .slice Ao no co, .slice Ai ni ci, .slice Ac nc cc, .string (bs op), .string (bs lc), .int .i64 lk, .int .i64 ln, .string (bs lw), .string (bs rc), .int .i64 rk, .int .i64 rn, .string (bs rw'), .int .i64 retry]] W fun e W' => e = .returned (.bool false) ∧ Keeps [] W W') := by rw [← hno, ← hnc]; exact HSH0
  clear HSH0
  show Calls _ _ #[.agg #[.int .i64 at_, .int .i64 code, .slice Ao outs.length co, .slice Ai ni ci, .slice Ac jcols.length cc, .string (bs op), .string (bs lc), .int .i64 lk, .int .i64 ln, .string (bs lw), .string (bs rc), .int .i64 rk, .int .i64 rn, .string (bs rw'), .int .i64 retry], .agg #[.slice A t.cols.length c, .slice B t.rows.length d], .agg #[.slice A' u.cols.length c', .slice B' u.rows.length d'], .slice Ax cols.length cx] w _
  rw [hno, hnc, hnx]
  clear hno hnc hnx hxc
  have HBJ := Lib.hid (((Blk.new w 36 #[.int .i64 at_, .int .i64 code, .slice Ao no co, .slice Ai ni ci, .slice Ac nc cc, .string (bs op), .string (bs lc), .int .i64 lk, .int .i64 ln, .string (bs lw), .string (bs rc), .int .i64 rk, .int .i64 rn, .string (bs rw'), .int .i64 retry]).alloc (.cells #[.slice A t.cols.length c, .slice B t.rows.length d] 25)).alloc (.cells #[.slice A' u.cols.length c', .slice B' u.rows.length d'] 25))
  have HBT := Lib.hid ((Blk.new (w.alloc (.cells #[.int .i64 at_, .int .i64 code, .slice Ao no co, .slice Ai ni ci, .slice Ac nc cc, .string (bs op), .string (bs lc), .int .i64 lk, .int .i64 ln, .string (bs lw), .string (bs rc), .int .i64 rk, .int .i64 rn, .string (bs rw'), .int .i64 retry] 36)) 25 #[.slice A t.cols.length c, .slice B t.rows.length d]).alloc (.cells #[.slice A' u.cols.length c', .slice B' u.rows.length d'] 25))
  have HBU := Lib.hid (Blk.new ((w.alloc (.cells #[.int .i64 at_, .int .i64 code, .slice Ao no co, .slice Ai ni ci, .slice Ac nc cc, .string (bs op), .string (bs lc), .int .i64 lk, .int .i64 ln, .string (bs lw), .string (bs rc), .int .i64 rk, .int .i64 rn, .string (bs rw'), .int .i64 retry] 36)).alloc (.cells #[.slice A t.cols.length c, .slice B t.rows.length d] 25)) 25 #[.slice A' u.cols.length c', .slice B' u.rows.length d'])
  simp only [size_alloc] at HBT HBU
  have HK0 : Hid (Keeps [] w (((w.alloc (.cells #[.int .i64 at_, .int .i64 code, .slice Ao no co, .slice Ai ni ci, .slice Ac nc cc, .string (bs op), .string (bs lc), .int .i64 lk, .int .i64 ln, .string (bs lw), .string (bs rc), .int .i64 rk, .int .i64 rn, .string (bs rw'), .int .i64 retry] 36)).alloc (.cells #[.slice A t.cols.length c, .slice B t.rows.length d] 25)).alloc (.cells #[.slice A' u.cols.length c', .slice B' u.rows.length d'] 25))) := Lib.hid ((((Keeps.refl _ _).alloc _).alloc _).alloc _)
  go_enter Tryz.func7, Tryz.ntmps7
  go_wp2_with fail
  refine (HSH.out _ HK0.out).mono ?_
  rintro e w2 ⟨rfl, hk2⟩
  go_wp2
  go_ret
  exact ⟨rfl, HK0.out.trans hk2⟩
set_option maxHeartbeats 8000000 in
set_option maxRecDepth 40000 in
theorem oturns_1 (j : Jb) (Ao : Option Addr) (co : Nat) (Ai : Option Addr) (ni ci : Nat) (Ac : Option Addr) (cc : Nat) (t : Tb) (A B : Option Addr) (c d : Nat) (u : Tb) (A' B' : Option Addr) (c' d' : Nat) (cols : List Bs) (Ax : Option Addr) (cx : Nat) (w : World) (hJ : JobAny w j Ao co Ac cc) (hT : TabAny w t A B c d) (hU : TabAny w u A' B' c' d') (hX : Rd w [] 1 Ax cols.length (strs cols)) (hxc : cols.length ≤ cx) (hE : OEnv w) (hsh : shortB j = true) (hs1 : smallB t = false) :
    Calls Tryz.prog 7 #[jAgg j Ao co Ai ni ci Ac cc, tAgg A t.cols.length c B t.rows.length d, tAgg A' u.cols.length c' B' u.rows.length d', .slice Ax cols.length cx] w fun e w' => e = .returned (.bool true) ∧ Keeps [] w w' := by
  have HSH0 := Lib.hid (fun W (q : Keeps [] w W) => short_any j Ao co Ai ni ci Ac cc W (hJ.cols.keep q))
  have HS1 : Hid (∀ W, Keeps [] w W → Calls Tryz.prog 9 #[.agg #[.slice A t.cols.length c, .slice B t.rows.length d]] W fun e W' => e = .returned (.bool (smallB t)) ∧ Keeps [] W W') := Lib.hid fun W q => small_any t A B c d W (hT.cols.keep q) (hT.rows.keep q)
  have HS2 : Hid (∀ W, Keeps [] w W → Calls Tryz.prog 9 #[.agg #[.slice A' u.cols.length c', .slice B' u.rows.length d']] W fun e W' => e = .returned (.bool (smallB u)) ∧ Keeps [] W W') := Lib.hid fun W q => small_any u A' B' c' d' W (hU.cols.keep q) (hU.rows.keep q)
  have HLG : Hid (∀ W, Keeps [] w W → cols.length ≤ 8 → Calls Tryz.prog 20 #[.slice Ax cols.length cx, .func (.func 26) #[] #[]] W fun e W' => e = .returned (.bool (cols.any fun s => decide (40 < s.length))) ∧ Keeps [] W W') := Lib.hid fun W q h8 => containsFuncS_any 26 #[] (enters_of Tryz.func26 (by kernel_rfl) rfl) (fun s => decide (40 < s.length)) cols Ax cx W (hX.keep q) (by omega) (fun v _ W _ => longT_any v W)
  rw [hsh] at HSH0
  rw [hs1] at HS1
  clear hJ hT hU hX hE hsh hs1
  obtain ⟨at_, code, outs, js, jcols, op, ⟨lc, lk, ln, lw⟩, ⟨rc, rk, rn, rw'⟩, retry⟩ := j
  obtain ⟨no, hno⟩ : ∃ n, outs.length = n := ⟨_, rfl⟩
  obtain ⟨nc, hnc⟩ : ∃ n, jcols.length = n := ⟨_, rfl⟩
  obtain ⟨nx, hnx⟩ : ∃ n, cols.length = n := ⟨_, rfl⟩
  have HSH : Hid (∀ W, Keeps [] w W → Calls Tryz.prog 17 #[.agg #[.int .i64 at_, .int .i64 code, .slice Ao no co, .slice Ai ni ci, .slice Ac nc cc, .string (bs op), .string (bs lc), .int .i64 lk, .int .i64 ln, .string (bs lw), .string (bs rc), .int .i64 rk, .int .i64 rn, .string (bs rw'), .int .i64 retry]] W fun e W' => e = .returned (.bool true) ∧ Keeps [] W W') := by rw [← hno, ← hnc]; exact HSH0
  clear HSH0
  show Calls _ _ #[.agg #[.int .i64 at_, .int .i64 code, .slice Ao outs.length co, .slice Ai ni ci, .slice Ac jcols.length cc, .string (bs op), .string (bs lc), .int .i64 lk, .int .i64 ln, .string (bs lw), .string (bs rc), .int .i64 rk, .int .i64 rn, .string (bs rw'), .int .i64 retry], .agg #[.slice A t.cols.length c, .slice B t.rows.length d], .agg #[.slice A' u.cols.length c', .slice B' u.rows.length d'], .slice Ax cols.length cx] w _
  rw [hno, hnc, hnx]
  clear hno hnc hnx hxc
  have HBJ := Lib.hid (((Blk.new w 36 #[.int .i64 at_, .int .i64 code, .slice Ao no co, .slice Ai ni ci, .slice Ac nc cc, .string (bs op), .string (bs lc), .int .i64 lk, .int .i64 ln, .string (bs lw), .string (bs rc), .int .i64 rk, .int .i64 rn, .string (bs rw'), .int .i64 retry]).alloc (.cells #[.slice A t.cols.length c, .slice B t.rows.length d] 25)).alloc (.cells #[.slice A' u.cols.length c', .slice B' u.rows.length d'] 25))
  have HBT := Lib.hid ((Blk.new (w.alloc (.cells #[.int .i64 at_, .int .i64 code, .slice Ao no co, .slice Ai ni ci, .slice Ac nc cc, .string (bs op), .string (bs lc), .int .i64 lk, .int .i64 ln, .string (bs lw), .string (bs rc), .int .i64 rk, .int .i64 rn, .string (bs rw'), .int .i64 retry] 36)) 25 #[.slice A t.cols.length c, .slice B t.rows.length d]).alloc (.cells #[.slice A' u.cols.length c', .slice B' u.rows.length d'] 25))
  have HBU := Lib.hid (Blk.new ((w.alloc (.cells #[.int .i64 at_, .int .i64 code, .slice Ao no co, .slice Ai ni ci, .slice Ac nc cc, .string (bs op), .string (bs lc), .int .i64 lk, .int .i64 ln, .string (bs lw), .string (bs rc), .int .i64 rk, .int .i64 rn, .string (bs rw'), .int .i64 retry] 36)).alloc (.cells #[.slice A t.cols.length c, .slice B t.rows.length d] 25)) 25 #[.slice A' u.cols.length c', .slice B' u.rows.length d'])
  simp only [size_alloc] at HBT HBU
  have HK0 : Hid (Keeps [] w (((w.alloc (.cells #[.int .i64 at_, .int .i64 code, .slice Ao no co, .slice Ai ni ci, .slice Ac nc cc, .string (bs op), .string (bs lc), .int .i64 lk, .int .i64 ln, .string (bs lw), .string (bs rc), .int .i64 rk, .int .i64 rn, .string (bs rw'), .int .i64 retry] 36)).alloc (.cells #[.slice A t.cols.length c, .slice B t.rows.length d] 25)).alloc (.cells #[.slice A' u.cols.length c', .slice B' u.rows.length d'] 25))) := Lib.hid ((((Keeps.refl _ _).alloc _).alloc _).alloc _)
  go_enter Tryz.func7, Tryz.ntmps7
  go_wp2_with fail
  refine (HSH.out _ HK0.out).mono ?_
  rintro e w2 ⟨rfl, hk2⟩
  have HK2 := Lib.hid (HK0.out.trans hk2)
  have HJ2 := Lib.hid (HBJ.out.keep hk2 (by simp))
  have HT2 := Lib.hid (HBT.out.keep hk2 (by simp))
  have HU2 := Lib.hid (HBU.out.keep hk2 (by simp))
  obtain ⟨bj, hbj⟩ : ∃ b, w.heap.size = b := ⟨_, rfl⟩
  have HLB : Hid (w.heap.size ≤ bj) := Lib.hid (by omega)
  rw [hbj] at HJ2 HT2 HU2 ⊢
  clear hk2 HBJ HBT HBU HK0 hbj
  have q1 : w2.cell? ⟨bj + 1, 0, none⟩ = some (.slice A t.cols.length c) := HT2.out.cell 0
  have r1 : w2.cell? ⟨bj + 1, 1, none⟩ = some (.slice B t.rows.length d) := HT2.out.cell 1
  have l1 : bj + 1 < w2.heap.size := HT2.out.lt
  go_wp2_with fail
  clear q1 r1 l1
  refine (HS1.out _ HK2.out).mono ?_
  rintro e w3 ⟨rfl, hk3⟩
  have HK3 := Lib.hid (HK2.out.trans hk3)
  go_wp2
  go_ret
  exact ⟨rfl, HK3.out⟩
set_option maxHeartbeats 8000000 in
set_option maxRecDepth 40000 in
theorem oturns_2 (j : Jb) (Ao : Option Addr) (co : Nat) (Ai : Option Addr) (ni ci : Nat) (Ac : Option Addr) (cc : Nat) (t : Tb) (A B : Option Addr) (c d : Nat) (u : Tb) (A' B' : Option Addr) (c' d' : Nat) (cols : List Bs) (Ax : Option Addr) (cx : Nat) (w : World) (hJ : JobAny w j Ao co Ac cc) (hT : TabAny w t A B c d) (hU : TabAny w u A' B' c' d') (hX : Rd w [] 1 Ax cols.length (strs cols)) (hxc : cols.length ≤ cx) (hE : OEnv w) (hsh : shortB j = true) (hs1 : smallB t = true) (hs2 : smallB u = false) :
    Calls Tryz.prog 7 #[jAgg j Ao co Ai ni ci Ac cc, tAgg A t.cols.length c B t.rows.length d, tAgg A' u.cols.length c' B' u.rows.length d', .slice Ax cols.length cx] w fun e w' => e = .returned (.bool true) ∧ Keeps [] w w' := by
  have HSH0 := Lib.hid (fun W (q : Keeps [] w W) => short_any j Ao co Ai ni ci Ac cc W (hJ.cols.keep q))
  have HS1 : Hid (∀ W, Keeps [] w W → Calls Tryz.prog 9 #[.agg #[.slice A t.cols.length c, .slice B t.rows.length d]] W fun e W' => e = .returned (.bool (smallB t)) ∧ Keeps [] W W') := Lib.hid fun W q => small_any t A B c d W (hT.cols.keep q) (hT.rows.keep q)
  have HS2 : Hid (∀ W, Keeps [] w W → Calls Tryz.prog 9 #[.agg #[.slice A' u.cols.length c', .slice B' u.rows.length d']] W fun e W' => e = .returned (.bool (smallB u)) ∧ Keeps [] W W') := Lib.hid fun W q => small_any u A' B' c' d' W (hU.cols.keep q) (hU.rows.keep q)
  have HLG : Hid (∀ W, Keeps [] w W → cols.length ≤ 8 → Calls Tryz.prog 20 #[.slice Ax cols.length cx, .func (.func 26) #[] #[]] W fun e W' => e = .returned (.bool (cols.any fun s => decide (40 < s.length))) ∧ Keeps [] W W') := Lib.hid fun W q h8 => containsFuncS_any 26 #[] (enters_of Tryz.func26 (by kernel_rfl) rfl) (fun s => decide (40 < s.length)) cols Ax cx W (hX.keep q) (by omega) (fun v _ W _ => longT_any v W)
  rw [hsh] at HSH0
  rw [hs1] at HS1
  rw [hs2] at HS2
  clear hJ hT hU hX hE hsh hs1 hs2
  obtain ⟨at_, code, outs, js, jcols, op, ⟨lc, lk, ln, lw⟩, ⟨rc, rk, rn, rw'⟩, retry⟩ := j
  obtain ⟨no, hno⟩ : ∃ n, outs.length = n := ⟨_, rfl⟩
  obtain ⟨nc, hnc⟩ : ∃ n, jcols.length = n := ⟨_, rfl⟩
  obtain ⟨nx, hnx⟩ : ∃ n, cols.length = n := ⟨_, rfl⟩
  have HSH : Hid (∀ W, Keeps [] w W → Calls Tryz.prog 17 #[.agg #[.int .i64 at_, .int .i64 code, .slice Ao no co, .slice Ai ni ci, .slice Ac nc cc, .string (bs op), .string (bs lc), .int .i64 lk, .int .i64 ln, .string (bs lw), .string (bs rc), .int .i64 rk, .int .i64 rn, .string (bs rw'), .int .i64 retry]] W fun e W' => e = .returned (.bool true) ∧ Keeps [] W W') := by rw [← hno, ← hnc]; exact HSH0
  clear HSH0
  show Calls _ _ #[.agg #[.int .i64 at_, .int .i64 code, .slice Ao outs.length co, .slice Ai ni ci, .slice Ac jcols.length cc, .string (bs op), .string (bs lc), .int .i64 lk, .int .i64 ln, .string (bs lw), .string (bs rc), .int .i64 rk, .int .i64 rn, .string (bs rw'), .int .i64 retry], .agg #[.slice A t.cols.length c, .slice B t.rows.length d], .agg #[.slice A' u.cols.length c', .slice B' u.rows.length d'], .slice Ax cols.length cx] w _
  rw [hno, hnc, hnx]
  clear hno hnc hnx hxc
  have HBJ := Lib.hid (((Blk.new w 36 #[.int .i64 at_, .int .i64 code, .slice Ao no co, .slice Ai ni ci, .slice Ac nc cc, .string (bs op), .string (bs lc), .int .i64 lk, .int .i64 ln, .string (bs lw), .string (bs rc), .int .i64 rk, .int .i64 rn, .string (bs rw'), .int .i64 retry]).alloc (.cells #[.slice A t.cols.length c, .slice B t.rows.length d] 25)).alloc (.cells #[.slice A' u.cols.length c', .slice B' u.rows.length d'] 25))
  have HBT := Lib.hid ((Blk.new (w.alloc (.cells #[.int .i64 at_, .int .i64 code, .slice Ao no co, .slice Ai ni ci, .slice Ac nc cc, .string (bs op), .string (bs lc), .int .i64 lk, .int .i64 ln, .string (bs lw), .string (bs rc), .int .i64 rk, .int .i64 rn, .string (bs rw'), .int .i64 retry] 36)) 25 #[.slice A t.cols.length c, .slice B t.rows.length d]).alloc (.cells #[.slice A' u.cols.length c', .slice B' u.rows.length d'] 25))
  have HBU := Lib.hid (Blk.new ((w.alloc (.cells #[.int .i64 at_, .int .i64 code, .slice Ao no co, .slice Ai ni ci, .slice Ac nc cc, .string (bs op), .string (bs lc), .int .i64 lk, .int .i64 ln, .string (bs lw), .string (bs rc), .int .i64 rk, .int .i64 rn, .string (bs rw'), .int .i64 retry] 36)).alloc (.cells #[.slice A t.cols.length c, .slice B t.rows.length d] 25)) 25 #[.slice A' u.cols.length c', .slice B' u.rows.length d'])
  simp only [size_alloc] at HBT HBU
  have HK0 : Hid (Keeps [] w (((w.alloc (.cells #[.int .i64 at_, .int .i64 code, .slice Ao no co, .slice Ai ni ci, .slice Ac nc cc, .string (bs op), .string (bs lc), .int .i64 lk, .int .i64 ln, .string (bs lw), .string (bs rc), .int .i64 rk, .int .i64 rn, .string (bs rw'), .int .i64 retry] 36)).alloc (.cells #[.slice A t.cols.length c, .slice B t.rows.length d] 25)).alloc (.cells #[.slice A' u.cols.length c', .slice B' u.rows.length d'] 25))) := Lib.hid ((((Keeps.refl _ _).alloc _).alloc _).alloc _)
  go_enter Tryz.func7, Tryz.ntmps7
  go_wp2_with fail
  refine (HSH.out _ HK0.out).mono ?_
  rintro e w2 ⟨rfl, hk2⟩
  have HK2 := Lib.hid (HK0.out.trans hk2)
  have HJ2 := Lib.hid (HBJ.out.keep hk2 (by simp))
  have HT2 := Lib.hid (HBT.out.keep hk2 (by simp))
  have HU2 := Lib.hid (HBU.out.keep hk2 (by simp))
  obtain ⟨bj, hbj⟩ : ∃ b, w.heap.size = b := ⟨_, rfl⟩
  have HLB : Hid (w.heap.size ≤ bj) := Lib.hid (by omega)
  rw [hbj] at HJ2 HT2 HU2 ⊢
  clear hk2 HBJ HBT HBU HK0 hbj
  have q1 : w2.cell? ⟨bj + 1, 0, none⟩ = some (.slice A t.cols.length c) := HT2.out.cell 0
  have r1 : w2.cell? ⟨bj + 1, 1, none⟩ = some (.slice B t.rows.length d) := HT2.out.cell 1
  have l1 : bj + 1 < w2.heap.size := HT2.out.lt
  go_wp2_with fail
  clear q1 r1 l1
  refine (HS1.out _ HK2.out).mono ?_
  rintro e w3 ⟨rfl, hk3⟩
  have HK3 := Lib.hid (HK2.out.trans hk3)
  have HJ3 := Lib.hid (HJ2.out.keep hk3 (by simp))
  have HT3 := Lib.hid (HT2.out.keep hk3 (by simp))
  have HU3 := Lib.hid (HU2.out.keep hk3 (by simp))
  clear hk3 HJ2 HT2 HU2
  have q1 : w3.cell? ⟨bj + 1 + 1, 0, none⟩ = some (.slice A' u.cols.length c') := HU3.out.cell 0
  have r1 : w3.cell? ⟨bj + 1 + 1, 1, none⟩ = some (.slice B' u.rows.length d') := HU3.out.cell 1
  have l1 : bj + 1 + 1 < w3.heap.size := HU3.out.lt
  go_wp2_with fail
  clear q1 r1 l1
  refine (HS2.out _ HK3.out).mono ?_
  rintro e w4 ⟨rfl, hk4⟩
  have HK4 := Lib.hid (HK3.out.trans hk4)
  go_wp2
  go_ret
  exact ⟨rfl, HK4.out⟩
set_option maxHeartbeats 8000000 in
set_option maxRecDepth 40000 in
theorem oturns_3 (j : Jb) (Ao : Option Addr) (co : Nat) (Ai : Option Addr) (ni ci : Nat) (Ac : Option Addr) (cc : Nat) (t : Tb) (A B : Option Addr) (c d : Nat) (u : Tb) (A' B' : Option Addr) (c' d' : Nat) (cols : List Bs) (Ax : Option Addr) (cx : Nat) (w : World) (hJ : JobAny w j Ao co Ac cc) (hT : TabAny w t A B c d) (hU : TabAny w u A' B' c' d') (hX : Rd w [] 1 Ax cols.length (strs cols)) (hxc : cols.length ≤ cx) (hE : OEnv w) (hsh : shortB j = true) (hs1 : smallB t = true) (hs2 : smallB u = true) (h8 : 8 < cols.length) :
    Calls Tryz.prog 7 #[jAgg j Ao co Ai ni ci Ac cc, tAgg A t.cols.length c B t.rows.length d, tAgg A' u.cols.length c' B' u.rows.length d', .slice Ax cols.length cx] w fun e w' => e = .returned (.bool true) ∧ Keeps [] w w' := by
  have HSH0 := Lib.hid (fun W (q : Keeps [] w W) => short_any j Ao co Ai ni ci Ac cc W (hJ.cols.keep q))
  have HS1 : Hid (∀ W, Keeps [] w W → Calls Tryz.prog 9 #[.agg #[.slice A t.cols.length c, .slice B t.rows.length d]] W fun e W' => e = .returned (.bool (smallB t)) ∧ Keeps [] W W') := Lib.hid fun W q => small_any t A B c d W (hT.cols.keep q) (hT.rows.keep q)
  have HS2 : Hid (∀ W, Keeps [] w W → Calls Tryz.prog 9 #[.agg #[.slice A' u.cols.length c', .slice B' u.rows.length d']] W fun e W' => e = .returned (.bool (smallB u)) ∧ Keeps [] W W') := Lib.hid fun W q => small_any u A' B' c' d' W (hU.cols.keep q) (hU.rows.keep q)
  have HLG : Hid (∀ W, Keeps [] w W → cols.length ≤ 8 → Calls Tryz.prog 20 #[.slice Ax cols.length cx, .func (.func 26) #[] #[]] W fun e W' => e = .returned (.bool (cols.any fun s => decide (40 < s.length))) ∧ Keeps [] W W') := Lib.hid fun W q h8 => containsFuncS_any 26 #[] (enters_of Tryz.func26 (by kernel_rfl) rfl) (fun s => decide (40 < s.length)) cols Ax cx W (hX.keep q) (by omega) (fun v _ W _ => longT_any v W)
  rw [hsh] at HSH0
  rw [hs1] at HS1
  rw [hs2] at HS2
  clear hJ hT hU hX hE hsh hs1 hs2
  obtain ⟨at_, code, outs, js, jcols, op, ⟨lc, lk, ln, lw⟩, ⟨rc, rk, rn, rw'⟩, retry⟩ := j
  obtain ⟨no, hno⟩ : ∃ n, outs.length = n := ⟨_, rfl⟩
  obtain ⟨nc, hnc⟩ : ∃ n, jcols.length = n := ⟨_, rfl⟩
  obtain ⟨nx, hnx⟩ : ∃ n, cols.length = n := ⟨_, rfl⟩
  have HSH : Hid (∀ W, Keeps [] w W → Calls Tryz.prog 17 #[.agg #[.int .i64 at_, .int .i64 code, .slice Ao no co, .slice Ai ni ci, .slice Ac nc cc, .string (bs op), .string (bs lc), .int .i64 lk, .int .i64 ln, .string (bs lw), .string (bs rc), .int .i64 rk, .int .i64 rn, .string (bs rw'), .int .i64 retry]] W fun e W' => e = .returned (.bool true) ∧ Keeps [] W W') := by rw [← hno, ← hnc]; exact HSH0
  have t8 : (8 : Int) < (nx : Int) := by omega
  clear h8
  clear HSH0
  show Calls _ _ #[.agg #[.int .i64 at_, .int .i64 code, .slice Ao outs.length co, .slice Ai ni ci, .slice Ac jcols.length cc, .string (bs op), .string (bs lc), .int .i64 lk, .int .i64 ln, .string (bs lw), .string (bs rc), .int .i64 rk, .int .i64 rn, .string (bs rw'), .int .i64 retry], .agg #[.slice A t.cols.length c, .slice B t.rows.length d], .agg #[.slice A' u.cols.length c', .slice B' u.rows.length d'], .slice Ax cols.length cx] w _
  rw [hno, hnc, hnx]
  clear hno hnc hnx hxc
  have HBJ := Lib.hid (((Blk.new w 36 #[.int .i64 at_, .int .i64 code, .slice Ao no co, .slice Ai ni ci, .slice Ac nc cc, .string (bs op), .string (bs lc), .int .i64 lk, .int .i64 ln, .string (bs lw), .string (bs rc), .int .i64 rk, .int .i64 rn, .string (bs rw'), .int .i64 retry]).alloc (.cells #[.slice A t.cols.length c, .slice B t.rows.length d] 25)).alloc (.cells #[.slice A' u.cols.length c', .slice B' u.rows.length d'] 25))
  have HBT := Lib.hid ((Blk.new (w.alloc (.cells #[.int .i64 at_, .int .i64 code, .slice Ao no co, .slice Ai ni ci, .slice Ac nc cc, .string (bs op), .string (bs lc), .int .i64 lk, .int .i64 ln, .string (bs lw), .string (bs rc), .int .i64 rk, .int .i64 rn, .string (bs rw'), .int .i64 retry] 36)) 25 #[.slice A t.cols.length c, .slice B t.rows.length d]).alloc (.cells #[.slice A' u.cols.length c', .slice B' u.rows.length d'] 25))
  have HBU := Lib.hid (Blk.new ((w.alloc (.cells #[.int .i64 at_, .int .i64 code, .slice Ao no co, .slice Ai ni ci, .slice Ac nc cc, .string (bs op), .string (bs lc), .int .i64 lk, .int .i64 ln, .string (bs lw), .string (bs rc), .int .i64 rk, .int .i64 rn, .string (bs rw'), .int .i64 retry] 36)).alloc (.cells #[.slice A t.cols.length c, .slice B t.rows.length d] 25)) 25 #[.slice A' u.cols.length c', .slice B' u.rows.length d'])
  simp only [size_alloc] at HBT HBU
  have HK0 : Hid (Keeps [] w (((w.alloc (.cells #[.int .i64 at_, .int .i64 code, .slice Ao no co, .slice Ai ni ci, .slice Ac nc cc, .string (bs op), .string (bs lc), .int .i64 lk, .int .i64 ln, .string (bs lw), .string (bs rc), .int .i64 rk, .int .i64 rn, .string (bs rw'), .int .i64 retry] 36)).alloc (.cells #[.slice A t.cols.length c, .slice B t.rows.length d] 25)).alloc (.cells #[.slice A' u.cols.length c', .slice B' u.rows.length d'] 25))) := Lib.hid ((((Keeps.refl _ _).alloc _).alloc _).alloc _)
  go_enter Tryz.func7, Tryz.ntmps7
  go_wp2_with fail
  refine (HSH.out _ HK0.out).mono ?_
  rintro e w2 ⟨rfl, hk2⟩
  have HK2 := Lib.hid (HK0.out.trans hk2)
  have HJ2 := Lib.hid (HBJ.out.keep hk2 (by simp))
  have HT2 := Lib.hid (HBT.out.keep hk2 (by simp))
  have HU2 := Lib.hid (HBU.out.keep hk2 (by simp))
  obtain ⟨bj, hbj⟩ : ∃ b, w.heap.size = b := ⟨_, rfl⟩
  have HLB : Hid (w.heap.size ≤ bj) := Lib.hid (by omega)
  rw [hbj] at HJ2 HT2 HU2 ⊢
  clear hk2 HBJ HBT HBU HK0 hbj
  have q1 : w2.cell? ⟨bj + 1, 0, none⟩ = some (.slice A t.cols.length c) := HT2.out.cell 0
  have r1 : w2.cell? ⟨bj + 1, 1, none⟩ = some (.slice B t.rows.length d) := HT2.out.cell 1
  have l1 : bj + 1 < w2.heap.size := HT2.out.lt
  go_wp2_with fail
  clear q1 r1 l1
  refine (HS1.out _ HK2.out).mono ?_
  rintro e w3 ⟨rfl, hk3⟩
  have HK3 := Lib.hid (HK2.out.trans hk3)
  have HJ3 := Lib.hid (HJ2.out.keep hk3 (by simp))
  have HT3 := Lib.hid (HT2.out.keep hk3 (by simp))
  have HU3 := Lib.hid (HU2.out.keep hk3 (by simp))
  clear hk3 HJ2 HT2 HU2
  have q1 : w3.cell? ⟨bj + 1 + 1, 0, none⟩ = some (.slice A' u.cols.length c') := HU3.out.cell 0
  have r1 : w3.cell? ⟨bj + 1 + 1, 1, none⟩ = some (.slice B' u.rows.length d') := HU3.out.cell 1
  have l1 : bj + 1 + 1 < w3.heap.size := HU3.out.lt
  go_wp2_with fail
  clear q1 r1 l1
  refine (HS2.out _ HK3.out).mono ?_
  rintro e w4 ⟨rfl, hk4⟩
  have HK4 := Lib.hid (HK3.out.trans hk4)
  go_wp2
  go_ret
  exact ⟨rfl, HK4.out⟩
set_option maxHeartbeats 8000000 in
set_option maxRecDepth 40000 in
theorem oturns_4 (j : Jb) (Ao : Option Addr) (co : Nat) (Ai : Option Addr) (ni ci : Nat) (Ac : Option Addr) (cc : Nat) (t : Tb) (A B : Option Addr) (c d : Nat) (u : Tb) (A' B' : Option Addr) (c' d' : Nat) (cols : List Bs) (Ax : Option Addr) (cx : Nat) (w : World) (hJ : JobAny w j Ao co Ac cc) (hT : TabAny w t A B c d) (hU : TabAny w u A' B' c' d') (hX : Rd w [] 1 Ax cols.length (strs cols)) (hxc : cols.length ≤ cx) (hE : OEnv w) (hsh : shortB j = true) (hs1 : smallB t = true) (hs2 : smallB u = true) (h8 : cols.length ≤ 8) (hlg : (cols.any fun s => decide (40 < s.length)) = true) :
    Calls Tryz.prog 7 #[jAgg j Ao co Ai ni ci Ac cc, tAgg A t.cols.length c B t.rows.length d, tAgg A' u.cols.length c' B' u.rows.length d', .slice Ax cols.length cx] w fun e w' => e = .returned (.bool true) ∧ Keeps [] w w' := by
  have HSH0 := Lib.hid (fun W (q : Keeps [] w W) => short_any j Ao co Ai ni ci Ac cc W (hJ.cols.keep q))
  have HS1 : Hid (∀ W, Keeps [] w W → Calls Tryz.prog 9 #[.agg #[.slice A t.cols.length c, .slice B t.rows.length d]] W fun e W' => e = .returned (.bool (smallB t)) ∧ Keeps [] W W') := Lib.hid fun W q => small_any t A B c d W (hT.cols.keep q) (hT.rows.keep q)
  have HS2 : Hid (∀ W, Keeps [] w W → Calls Tryz.prog 9 #[.agg #[.slice A' u.cols.length c', .slice B' u.rows.length d']] W fun e W' => e = .returned (.bool (smallB u)) ∧ Keeps [] W W') := Lib.hid fun W q => small_any u A' B' c' d' W (hU.cols.keep q) (hU.rows.keep q)
  have HLG : Hid (∀ W, Keeps [] w W → cols.length ≤ 8 → Calls Tryz.prog 20 #[.slice Ax cols.length cx, .func (.func 26) #[] #[]] W fun e W' => e = .returned (.bool (cols.any fun s => decide (40 < s.length))) ∧ Keeps [] W W') := Lib.hid fun W q h8 => containsFuncS_any 26 #[] (enters_of Tryz.func26 (by kernel_rfl) rfl) (fun s => decide (40 < s.length)) cols Ax cx W (hX.keep q) (by omega) (fun v _ W _ => longT_any v W)
  rw [hsh] at HSH0
  rw [hs1] at HS1
  rw [hs2] at HS2
  rw [hlg] at HLG
  have HLG1 := Lib.hid (fun W q => HLG.out W q h8)
  clear hJ hT hU hX hE hsh hs1 hs2 hlg
  obtain ⟨at_, code, outs, js, jcols, op, ⟨lc, lk, ln, lw⟩, ⟨rc, rk, rn, rw'⟩, retry⟩ := j
  obtain ⟨no, hno⟩ : ∃ n, outs.length = n := ⟨_, rfl⟩
  obtain ⟨nc, hnc⟩ : ∃ n, jcols.length = n := ⟨_, rfl⟩
  obtain ⟨nx, hnx⟩ : ∃ n, cols.length = n := ⟨_, rfl⟩
  have HSH : Hid (∀ W, Keeps [] w W → Calls Tryz.prog 17 #[.agg #[.int .i64 at_, .int .i64 code, .slice Ao no co, .slice Ai ni ci, .slice Ac nc cc, .string (bs op), .string (bs lc), .int .i64 lk, .int .i64 ln, .string (bs lw), .string (bs rc), .int .i64 rk, .int .i64 rn, .string (bs rw'), .int .i64 retry]] W fun e W' => e = .returned (.bool true) ∧ Keeps [] W W') := by rw [← hno, ← hnc]; exact HSH0
  clear HLG
  have HLG : Hid (∀ W, Keeps [] w W → Calls Tryz.prog 20 #[.slice Ax nx cx, .func (.func 26) #[] #[]] W fun e W' => e = .returned (.bool true) ∧ Keeps [] W W') := by rw [← hnx]; exact HLG1
  have t8 : ¬ (8 : Int) < (nx : Int) := by omega
  clear h8 HLG1
  clear HSH0
  show Calls _ _ #[.agg #[.int .i64 at_, .int .i64 code, .slice Ao outs.length co, .slice Ai ni ci, .slice Ac jcols.length cc, .string (bs op), .string (bs lc), .int .i64 lk, .int .i64 ln, .string (bs lw), .string (bs rc), .int .i64 rk, .int .i64 rn, .string (bs rw'), .int .i64 retry], .agg #[.slice A t.cols.length c, .slice B t.rows.length d], .agg #[.slice A' u.cols.length c', .slice B' u.rows.length d'], .slice Ax cols.length cx] w _
  rw [hno, hnc, hnx]
  clear hno hnc hnx hxc
  have HBJ := Lib.hid (((Blk.new w 36 #[.int .i64 at_, .int .i64 code, .slice Ao no co, .slice Ai ni ci, .slice Ac nc cc, .string (bs op), .string (bs lc), .int .i64 lk, .int .i64 ln, .string (bs lw), .string (bs rc), .int .i64 rk, .int .i64 rn, .string (bs rw'), .int .i64 retry]).alloc (.cells #[.slice A t.cols.length c, .slice B t.rows.length d] 25)).alloc (.cells #[.slice A' u.cols.length c', .slice B' u.rows.length d'] 25))
  have HBT := Lib.hid ((Blk.new (w.alloc (.cells #[.int .i64 at_, .int .i64 code, .slice Ao no co, .slice Ai ni ci, .slice Ac nc cc, .string (bs op), .string (bs lc), .int .i64 lk, .int .i64 ln, .string (bs lw), .string (bs rc), .int .i64 rk, .int .i64 rn, .string (bs rw'), .int .i64 retry] 36)) 25 #[.slice A t.cols.length c, .slice B t.rows.length d]).alloc (.cells #[.slice A' u.cols.length c', .slice B' u.rows.length d'] 25))
  have HBU := Lib.hid (Blk.new ((w.alloc (.cells #[.int .i64 at_, .int .i64 code, .slice Ao no co, .slice Ai ni ci, .slice Ac nc cc, .string (bs op), .string (bs lc), .int .i64 lk, .int .i64 ln, .string (bs lw), .string (bs rc), .int .i64 rk, .int .i64 rn, .string (bs rw'), .int .i64 retry] 36)).alloc (.cells #[.slice A t.cols.length c, .slice B t.rows.length d] 25)) 25 #[.slice A' u.cols.length c', .slice B' u.rows.length d'])
  simp only [size_alloc] at HBT HBU
  have HK0 : Hid (Keeps [] w (((w.alloc (.cells #[.int .i64 at_, .int .i64 code, .slice Ao no co, .slice Ai ni ci, .slice Ac nc cc, .string (bs op), .string (bs lc), .int .i64 lk, .int .i64 ln, .string (bs lw), .string (bs rc), .int .i64 rk, .int .i64 rn, .string (bs rw'), .int .i64 retry] 36)).alloc (.cells #[.slice A t.cols.length c, .slice B t.rows.length d] 25)).alloc (.cells #[.slice A' u.cols.length c', .slice B' u.rows.length d'] 25))) := Lib.hid ((((Keeps.refl _ _).alloc _).alloc _).alloc _)
  go_enter Tryz.func7, Tryz.ntmps7
  go_wp2_with fail
  refine (HSH.out _ HK0.out).mono ?_
  rintro e w2 ⟨rfl, hk2⟩
  have HK2 := Lib.hid (HK0.out.trans hk2)
  have HJ2 := Lib.hid (HBJ.out.keep hk2 (by simp))
  have HT2 := Lib.hid (HBT.out.keep hk2 (by simp))
  have HU2 := Lib.hid (HBU.out.keep hk2 (by simp))
  obtain ⟨bj, hbj⟩ : ∃ b, w.heap.size = b := ⟨_, rfl⟩
  have HLB : Hid (w.heap.size ≤ bj) := Lib.hid (by omega)
  rw [hbj] at HJ2 HT2 HU2 ⊢
  clear hk2 HBJ HBT HBU HK0 hbj
  have q1 : w2.cell? ⟨bj + 1, 0, none⟩ = some (.slice A t.cols.length c) := HT2.out.cell 0
  have r1 : w2.cell? ⟨bj + 1, 1, none⟩ = some (.slice B t.rows.length d) := HT2.out.cell 1
  have l1 : bj + 1 < w2.heap.size := HT2.out.lt
  go_wp2_with fail
  clear q1 r1 l1
  refine (HS1.out _ HK2.out).mono ?_
  rintro e w3 ⟨rfl, hk3⟩
  have HK3 := Lib.hid (HK2.out.trans hk3)
  have HJ3 := Lib.hid (HJ2.out.keep hk3 (by simp))
  have HT3 := Lib.hid (HT2.out.keep hk3 (by simp))
  have HU3 := Lib.hid (HU2.out.keep hk3 (by simp))
  clear hk3 HJ2 HT2 HU2
  have q1 : w3.cell? ⟨bj + 1 + 1, 0, none⟩ = some (.slice A' u.cols.length c') := HU3.out.cell 0
  have r1 : w3.cell? ⟨bj + 1 + 1, 1, none⟩ = some (.slice B' u.rows.length d') := HU3.out.cell 1
  have l1 : bj + 1 + 1 < w3.heap.size := HU3.out.lt
  go_wp2_with fail
  clear q1 r1 l1
  refine (HS2.out _ HK3.out).mono ?_
  rintro e w4 ⟨rfl, hk4⟩
  have HK4 := Lib.hid (HK3.out.trans hk4)
  have HJ4 := Lib.hid (HJ3.out.keep hk4 (by simp))
  have HT4 := Lib.hid (HT3.out.keep hk4 (by simp))
  have HU4 := Lib.hid (HU3.out.keep hk4 (by simp))
  clear hk4 HJ3 HT3 HU3
  go_wp2_with fail
  refine (HLG.out _ HK4.out).mono ?_
  rintro e w5 ⟨rfl, hk5⟩
  have HK5 := Lib.hid (HK4.out.trans hk5)
  go_wp2
  go_ret
  exact ⟨rfl, HK5.out⟩
theorem size_set1 (w : World) (p : Addr) (v : Value) : (w.setCell p v).heap.size = w.heap.size := by simp [World.setCell]
end Go.Proofs.YtomgnjgaafnkiaaGreatDoor
