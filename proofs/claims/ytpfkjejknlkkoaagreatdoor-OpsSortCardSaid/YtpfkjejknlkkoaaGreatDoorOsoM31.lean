/- OpsJoin as plain data: pairs are counted; sums of groups. No program in sight. Jobs as plain data: what joins and groups make may be; what any job makes may be. No program in sight. ops.Do at every job; one at every job of one output. -/
import Derived.Test.YtpfkjejknlkkoaaGreatDoorOsoM30
import Derived.Test.YtpfkjejknlkkoaaGreatDoorOsoM26
import Derived.Test.YtpfkjejknlkkoaaGreatDoorOsoM29
set_option linter.unusedSimpArgs false
set_option linter.unusedVariables false
namespace Go.Proofs.YtpfkjejknlkkoaaGreatDoor
theorem joined_ok {j : Jb} {a b : List Cl} {out : List (List Cl)} (h : joinedJ j a b = .ok out) : ∃ x y k m, j.cols = [x, y] ∧ colIx a x = some k ∧ colIx b y = some m ∧ (a.getD k zC).kind = (b.getD m zC).kind ∧ dupC (a ++ b.take m ++ b.drop (m + 1)) = false ∧ (a ++ b.take m ++ b.drop (m + 1)).length ≤ 6 ∧ out = [a ++ b.take m ++ b.drop (m + 1)] := by
 unfold joinedJ at h
 by_cases h2 : j.cols.length ≠ 2
 ·rw [if_pos h2] at h; cases h
 ·rw [if_neg h2] at h
  obtain ⟨x, y, hxy⟩ : ∃ x y, j.cols = [x, y] := by
   match hj : j.cols, Decidable.not_not.1 h2 with
   | [x, y], _ => exact ⟨x, y, rfl⟩
  rw [hxy] at h
  simp only [List.getD_cons_zero, List.getD_cons_succ] at h
  cases hk : colIx a x with
  | none => rw [hk] at h; cases h
  | some k =>
   cases hm : colIx b y with
   | none => rw [hk, hm] at h; cases h
   | some m =>
    rw [hk, hm] at h
    simp only at h
    split at h
    ·cases h
    ·rename_i h3
     split at h
     ·cases h
     ·rename_i h4
      split at h
      ·cases h
      ·rename_i h5
       injection h with h
       exact ⟨x, y, k, m, hxy, hk, hm, Decidable.not_not.1 h3, by simpa using h4, by omega, h.symm⟩
theorem grouped_ok {j : Jb} {a : List Cl} {out : List (List Cl)} (h : groupedJ j a = .ok out) : ∃ x y k m, j.cols = [x, y] ∧ (j.op = sumOp ∨ j.op = [109, 97, 120]) ∧ colIx a x = some k ∧ colIx a y = some m ∧ (a.getD m zC).kind = 1 ∧ k ≠ m ∧ out = [[a.getD k zC, a.getD m zC]] := by
 unfold groupedJ at h
 by_cases h2 : j.cols.length ≠ 2 ∨ ¬ (j.op = [115, 117, 109] ∨ j.op = [109, 97, 120])
 ·rw [if_pos h2] at h; cases h
 ·rw [if_neg h2] at h
  have h2' : j.cols.length = 2 := Classical.byContradiction fun hn => h2 (.inl hn)
  have h3' : j.op = [115, 117, 109] ∨ j.op = [109, 97, 120] := Classical.byContradiction fun hn => h2 (.inr hn)
  obtain ⟨x, y, hxy⟩ : ∃ x y, j.cols = [x, y] := by
   match hj : j.cols, h2' with
   | [x, y], _ => exact ⟨x, y, rfl⟩
  rw [hxy] at h
  simp only [List.getD_cons_zero, List.getD_cons_succ] at h
  cases hk : colIx a x with
  | none => rw [hk] at h; cases h
  | some k =>
   cases hm : colIx a y with
   | none => rw [hk, hm] at h; cases h
   | some m =>
    rw [hk, hm] at h
    simp only at h
    split at h
    ·cases h
    ·rename_i h3
     split at h
     ·cases h
     ·rename_i h4
      injection h with h
      exact ⟨x, y, k, m, hxy, h3', hk, hm, Decidable.not_not.1 h3, h4, h.symm⟩
theorem ix_of {a : List Cl} {n : Bs} {k : Nat} (h : colIx a n = some k) : ixOf a n = k := by unfold ixOf; rw [h]; rfl
theorem one_join {j : Jb} {a b u : Tb} (hc : j.code = 7) (h : oneJ j [a, b] = some u) : rightB a = true ∧ rightB b = true ∧ ∃ x y k m, j.cols = [x, y] ∧ colIx a.cols x = some k ∧ colIx b.cols y = some m ∧ (a.cols.getD k zC).kind = (b.cols.getD m zC).kind ∧ dupC (a.cols ++ b.cols.take m ++ b.cols.drop (m + 1)) = false ∧ (a.cols ++ b.cols.take m ++ b.cols.drop (m + 1)).length ≤ 6 ∧ (pairsJ k m a.rows b.rows).length ≤ 60 ∧ u = ⟨a.cols ++ b.cols.take m ++ b.cols.drop (m + 1), pairsJ k m a.rows b.rows⟩ := by
 rw [one_gen (by rw [hc]; rfl)] at h
 have e1 : colsJ { j with outs := [[120]] } ([a, b].map (·.cols)) = joinedJ { j with outs := [[120]] } a.cols b.cols := by
  unfold colsJ sizesN
  simp [hc]
 have e2 : ∀ out, madeJ { j with outs := [[120]] } [a, b] out = .ok [pairsJ (ixOf a.cols (j.cols.getD 0 [])) (ixOf b.cols (j.cols.getD 1 [])) a.rows b.rows] := fun out => by
  unfold madeJ
  simp [hc]
 rw [e1] at h
 simp only [e2] at h
 obtain ⟨hr, out, rows, h1, h2, h3⟩ := h
 injection h2 with h2
 subst h2
 obtain ⟨x, y, k, m, hxy, hk, hm, h4, h5, h6, rfl⟩ := joined_ok h1
 have hxy' : j.cols = [x, y] := hxy
 obtain ⟨h7, h8⟩ := tabs_single.1 h3
 rw [hxy'] at h7 h8
 simp only [List.getD_cons_zero, List.getD_cons_succ, ix_of hk, ix_of hm] at h7 h8
 exact ⟨hr a (by simp), hr b (by simp), x, y, k, m, hxy', hk, hm, h4, h5, h6, h7, h8⟩
theorem one_group {j : Jb} {t u : Tb} (hc : j.code = 8) (h : oneJ j [t] = some u) : rightB t = true ∧ ∃ x y k m, j.cols = [x, y] ∧ (j.op = sumOp ∨ j.op = [109, 97, 120]) ∧ colIx t.cols x = some k ∧ colIx t.cols y = some m ∧ (t.cols.getD m zC).kind = 1 ∧ k ≠ m ∧ (∀ p ∈ groupsJ j.op k m (sortK t [x]), rvB p.2 = true) ∧ (groupsJ j.op k m (sortK t [x])).length ≤ 60 ∧ u = ⟨[t.cols.getD k zC, t.cols.getD m zC], grpRows (groupsJ j.op k m (sortK t [x]))⟩ := by
 rw [one_gen (by rw [hc]; rfl)] at h
 have e1 : colsJ { j with outs := [[120]] } ([t].map (·.cols)) = groupedJ { j with outs := [[120]] } t.cols := by
  unfold colsJ sizesN
  simp [hc]
 have e2 : ∀ out, madeJ { j with outs := [[120]] } [t] out = if ((groupsJ j.op (ixOf t.cols (j.cols.getD 0 [])) (ixOf t.cols (j.cols.getD 1 [])) (sortK t [j.cols.getD 0 []])).any fun p => !rvB p.2) = true then .error 2 else .ok [grpRows (groupsJ j.op (ixOf t.cols (j.cols.getD 0 [])) (ixOf t.cols (j.cols.getD 1 [])) (sortK t [j.cols.getD 0 []]))] := fun out => by
  unfold madeJ
  simp only [hc]
  rw [if_neg (by decide), if_neg (by decide), if_pos trivial]
  rfl
 rw [e1] at h
 simp only [e2] at h
 obtain ⟨hr, out, rows, h1, h2, h3⟩ := h
 obtain ⟨x, y, k, m, hxy, hop, hk, hm, h4, h5, rfl⟩ := grouped_ok h1
 have hxy' : j.cols = [x, y] := hxy
 rw [hxy'] at h2
 simp only [List.getD_cons_zero, List.getD_cons_succ, ix_of hk, ix_of hm] at h2
 split at h2
 ·cases h2
 ·rename_i hn
  injection h2 with h2
  subst h2
  obtain ⟨h7, h8⟩ := tabs_single.1 h3
  refine ⟨hr t (by simp), x, y, k, m, hxy', hop, hk, hm, h4, h5, fun p hp => ?_, by simpa [grpRows] using h7, h8⟩
  refine Classical.byContradiction fun hf => hn (List.any_eq_true.2 ⟨p, hp, by simpa using hf⟩)
theorem last_snoc {α : Type} {l : List α} {x : α} (h : l.getLast? = some x) : l = l.dropLast ++ [x] := by
 obtain ⟨q, rfl⟩ := List.getLast?_eq_some_iff.1 h
 rw [List.dropLast_concat]
theorem grp_snoc (op : Bs) (k m : Nat) (rs : List (List Vl)) (r : List Vl) : groupsJ op k m (rs ++ [r]) = grpStep op k m (groupsJ op k m rs) r := by
 unfold groupsJ
 rw [List.foldl_append]
 rfl
theorem getD_row {t : Tb} (h : rightB t = true) {r : List Vl} (hr : r ∈ t.rows) {k : Nat} (hk : k < t.cols.length) : k < r.length ∧ rvB (r.getD k zV) = true ∧ (r.getD k zV).kind = (t.cols.getD k zC).kind := by
 obtain ⟨_, _, c⟩ := rightB_parts.1 h
 obtain ⟨h1, h2⟩ := rowB_iff'.1 (c r hr)
 have hkr : k < r.length := by omega
 obtain ⟨h3, h4⟩ := h2 k hkr hk
 refine ⟨hkr, ?_, ?_⟩
 ·rw [List.getD_eq_getElem?_getD, List.getElem?_eq_getElem hkr]; exact h4
 ·rw [List.getD_eq_getElem?_getD, List.getElem?_eq_getElem hkr, List.getD_eq_getElem?_getD, List.getElem?_eq_getElem hk]; exact h3
end Go.Proofs.YtpfkjejknlkkoaaGreatDoor
namespace Go.Proofs.YtpfkjejknlkkoaaGreatDoor
theorem dup_nodup {out : List Cl} (h : dupC out = false) : (out.map (·.name)).Nodup := by
 rw [List.nodup_iff_pairwise_ne, List.pairwise_iff_getElem]
 intro i j hi hj hij e
 simp only [List.length_map] at hi hj
 simp only [List.getElem_map] at e
 unfold dupC at h
 rw [← Bool.not_eq_true, List.any_eq_true] at h
 refine h ⟨j, List.mem_range.2 hj, ?_⟩
 rw [List.getD_eq_getElem?_getD, List.getElem?_eq_getElem hj]
 simp only [Option.getD_some]
 unfold colIx
 rw [List.findIdx?_isSome, List.any_eq_true]
 refine ⟨out[i], ?_, by simpa using e⟩
 rw [List.mem_take_iff_getElem]
 exact ⟨i, by omega, rfl⟩
theorem getElem_cut {α : Type} (l : List α) (m i : Nat) (h : i < (l.take m ++ l.drop (m + 1)).length) (hm : m < l.length) : ∃ k, ∃ hk : k < l.length, (l.take m ++ l.drop (m + 1))[i] = l[k] ∧ k = if i < m then i else i + 1 := by
 have hl : (l.take m ++ l.drop (m + 1)).length = l.length - 1 := by simp; omega
 by_cases hi : i < m
 ·refine ⟨i, by omega, ?_, by rw [if_pos hi]⟩
  rw [List.getElem_append_left (by simp; omega), List.getElem_take]
 ·refine ⟨i + 1, by omega, ?_, by rw [if_neg hi]⟩
  rw [List.getElem_append_right (by simp; omega), List.getElem_drop]
  congr 1
  simp
  omega
theorem join_right {j : Jb} {a b u : Tb} (hc : j.code = 7) (h : oneJ j [a, b] = some u) : rightB u = true := by
 obtain ⟨ha, hb, x, y, k, m, _, hk, hm, _, hd, hl, hn, rfl⟩ := one_join hc h
 obtain ⟨a1, _, a3⟩ := rightB_parts.1 ha
 obtain ⟨b1, _, b3⟩ := rightB_parts.1 hb
 obtain ⟨c1, _, c3, _⟩ := colsB_iff.1 a1
 obtain ⟨_, _, d3, _⟩ := colsB_iff.1 b1
 obtain ⟨hml, _, _⟩ := colIx_some.1 hm
 refine rightB_parts.2 ⟨colsB_iff.2 ⟨by simp only [List.length_append]; omega, hl, fun c hcm => ?_, dup_nodup hd⟩, hn, fun r hr => ?_⟩
 ·rw [List.append_assoc, List.mem_append] at hcm
  rcases hcm with h1 | h1
  ·exact c3 c h1
  ·rw [List.mem_append] at h1
   rcases h1 with h1 | h1
   ·exact d3 c (List.mem_of_mem_take h1)
   ·exact d3 c (List.mem_of_mem_drop h1)
 ·unfold pairsJ at hr
  obtain ⟨x, hx, hr⟩ := List.mem_flatMap.1 hr
  obtain ⟨y, hy, rfl⟩ := List.mem_map.1 hr
  have hy' := (List.mem_filter.1 hy).1
  obtain ⟨e1, e2⟩ := rowB_iff'.1 (a3 x hx)
  obtain ⟨f1, f2⟩ := rowB_iff'.1 (b3 y hy')
  rw [List.append_assoc, List.append_assoc]
  have hl1 : (y.take m ++ y.drop (m + 1)).length = (b.cols.take m ++ b.cols.drop (m + 1)).length := by simp [f1]
  refine rowB_iff'.2 ⟨by rw [List.length_append, e1, hl1, ← List.length_append], fun i hi hi' => ?_⟩
  by_cases hix : i < x.length
  ·rw [List.getElem_append_left hix, List.getElem_append_left (by omega)]
   exact e2 i hix (by omega)
  ·rw [List.getElem_append_right (Nat.le_of_not_lt hix), List.getElem_append_right (show a.cols.length ≤ i by rw [← e1]; exact Nat.le_of_not_lt hix)]
   have hi1 : i - x.length < (y.take m ++ y.drop (m + 1)).length := by rw [List.length_append] at hi; omega
   obtain ⟨k1, hk1, g1, q1⟩ := getElem_cut y m (i - x.length) hi1 (by omega)
   obtain ⟨k2, hk2, g2, q2⟩ := getElem_cut b.cols m (i - x.length) (by rw [← hl1]; exact hi1) hml
   have hkk : k1 = k2 := by rw [q1, q2]
   subst hkk
   have e3 : i - a.cols.length = i - x.length := by rw [e1]
   simp only [e3]
   rw [g1, g2]
   exact f2 k1 hk1 hk2
theorem grp_mem (op : Bs) (k m : Nat) (rs : List (List Vl)) : ∀ p ∈ groupsJ op k m rs, ∃ r ∈ rs, p.1 = r.getD k zV ∧ ∃ q ∈ rs, p.2.kind = (q.getD m zV).kind := by
 refine snoc_ind (p := fun rs => ∀ p ∈ groupsJ op k m rs, ∃ r ∈ rs, p.1 = r.getD k zV ∧ ∃ q ∈ rs, p.2.kind = (q.getD m zV).kind) (fun p hp => by cases hp) (fun rs r ih p hp => ?_) rs
 have ih' : ∀ p ∈ groupsJ op k m rs, ∃ q ∈ rs ++ [r], p.1 = q.getD k zV ∧ ∃ z ∈ rs ++ [r], p.2.kind = (z.getD m zV).kind := fun p hp => by
  obtain ⟨q, hq, h1, z, hz, h2⟩ := ih p hp
  exact ⟨q, by simp [hq], h1, z, by simp [hz], h2⟩
 have hnew : ∃ q ∈ rs ++ [r], (r.getD k zV, r.getD m zV).1 = q.getD k zV ∧ ∃ z ∈ rs ++ [r], (r.getD k zV, r.getD m zV).2.kind = (z.getD m zV).kind := ⟨r, by simp, rfl, r, by simp, rfl⟩
 rw [grp_snoc] at hp
 unfold grpStep at hp
 cases hl : (groupsJ op k m rs).getLast? with
 | none =>
  rw [hl] at hp
  rcases List.mem_append.1 hp with hp | hp
  ·exact ih' p hp
  ·rw [List.mem_singleton.1 hp]; exact hnew
 | some z =>
  rw [hl] at hp
  have hg := last_snoc hl
  simp only at hp
  split at hp
  ·rcases List.mem_append.1 hp with hp | hp
   ·exact ih' p (by rw [hg]; simp [hp])
   ·rw [List.mem_singleton.1 hp]
    exact ih' z (by rw [hg]; simp)
  ·rcases List.mem_append.1 hp with hp | hp
   ·exact ih' p hp
   ·rw [List.mem_singleton.1 hp]; exact hnew
theorem group_right {j : Jb} {t u : Tb} (hc : j.code = 8) (h : oneJ j [t] = some u) : rightB u = true := by
 obtain ⟨hr, x, y, k, m, _, _, hk, hm, hki, hne, hrv, hl, rfl⟩ := one_group hc h
 obtain ⟨a1, _, a3⟩ := rightB_parts.1 hr
 obtain ⟨_, _, c3, c4⟩ := colsB_iff.1 a1
 obtain ⟨hkl, _, _⟩ := colIx_some.1 hk
 obtain ⟨hml, _, _⟩ := colIx_some.1 hm
 have gk : t.cols.getD k zC = t.cols[k] := by rw [List.getD_eq_getElem?_getD, List.getElem?_eq_getElem hkl]; rfl
 have gm : t.cols.getD m zC = t.cols[m] := by rw [List.getD_eq_getElem?_getD, List.getElem?_eq_getElem hml]; rfl
 rw [gk, gm]
 refine rightB_parts.2 ⟨colsB_iff.2 ⟨by simp, by simp, fun c hcm => ?_, ?_⟩, by simpa [grpRows] using hl, fun r hrm => ?_⟩
 ·simp only [List.mem_cons, List.not_mem_nil, or_false] at hcm
  rcases hcm with rfl | rfl
  ·exact c3 _ (List.getElem_mem hkl)
  ·exact c3 _ (List.getElem_mem hml)
 ·simp only [List.map_cons, List.map_nil, List.nodup_cons, List.mem_singleton, List.not_mem_nil, not_false_eq_true, List.nodup_nil, and_true]
  intro e
  have h1 := colIx_self c4 hkl
  have h2 := colIx_self c4 hml
  rw [e, h2] at h1
  injection h1 with h1
  exact hne h1.symm
 ·obtain ⟨p, hp, rfl⟩ := List.mem_map.1 hrm
  obtain ⟨q, hq, e1, z, hz, e2⟩ := grp_mem _ k m _ p hp
  obtain ⟨_, v1, v2⟩ := getD_row hr (sort_mem.1 hq) hkl
  obtain ⟨_, _, w2⟩ := getD_row hr (sort_mem.1 hz) hml
  refine rowB_iff'.2 ⟨rfl, fun i hi hi' => ?_⟩
  match i, hi with
  | 0, _ => exact ⟨by show p.1.kind = _; rw [e1, v2, gk]; rfl, by show rvB p.1 = true; rw [e1]; exact v1⟩
  | 1, _ => exact ⟨by show p.2.kind = _; rw [e2, w2, gm]; rfl, hrv p hp⟩
end Go.Proofs.YtpfkjejknlkkoaaGreatDoor
namespace Go.Proofs.YtpfkjejknlkkoaaGreatDoor
open Go.RowKit
theorem colsJ_4 {j : Jb} {ins : List (List Cl)} {out : List (List Cl)} (h4 : j.code = 4) (h : colsJ j ins = .ok out) : pickedJ j (ins.getD 0 []) = .ok out := by
 unfold colsJ at h
 by_cases hbad : (sizesN j.code).1 = 0 ∨ ins.length ≠ (sizesN j.code).1 ∨ j.outs.length ≠ (sizesN j.code).2
 ·rw [if_pos hbad] at h; cases h
 ·rw [if_neg hbad, if_neg (by omega), if_neg (by omega), if_pos (.inr h4)] at h; exact h
theorem colsJ_7 {j : Jb} {ins : List (List Cl)} {out : List (List Cl)} (h7 : j.code = 7) (h : colsJ j ins = .ok out) : joinedJ j (ins.getD 0 []) (ins.getD 1 []) = .ok out := by
 unfold colsJ at h
 by_cases hbad : (sizesN j.code).1 = 0 ∨ ins.length ≠ (sizesN j.code).1 ∨ j.outs.length ≠ (sizesN j.code).2
 ·rw [if_pos hbad] at h; cases h
 ·rw [if_neg hbad, if_neg (by omega), if_neg (by omega), if_neg (by omega), if_neg (by omega), if_pos h7] at h; exact h
theorem colsJ_8 {j : Jb} {ins : List (List Cl)} {out : List (List Cl)} (h8 : j.code = 8) (h : colsJ j ins = .ok out) : groupedJ j (ins.getD 0 []) = .ok out := by
 unfold colsJ at h
 by_cases hbad : (sizesN j.code).1 = 0 ∨ ins.length ≠ (sizesN j.code).1 ∨ j.outs.length ≠ (sizesN j.code).2
 ·rw [if_pos hbad] at h; cases h
 ·rw [if_neg hbad, if_neg (by omega), if_neg (by omega), if_neg (by omega), if_neg (by omega), if_neg (by omega), if_pos h8] at h; exact h
theorem cols_cells {w : World} {Ac : Option Addr} {x y : Bs} (h : Rd w [] 1 Ac 2 (strs [x, y])) : ∃ bc oc, Ac = some ⟨bc, oc, none⟩ ∧ w.cell? ⟨bc, oc, none⟩ = some (.string (bs x)) ∧ w.cell? ⟨bc, oc + 1, none⟩ = some (.string (bs y)) := by
 obtain ⟨b, o, e, _, _, hc⟩ := h.open' (by omega) (by omega)
 exact ⟨b, o, e, hc 0 _ rfl, hc 1 _ rfl⟩
set_option maxRecDepth 40000 in
theorem do_sjg (j : Jb) (hcode : j.code = 4 ∨ j.code = 7 ∨ j.code = 8) (Ao : Option Addr) (co : Nat) (Ai : Option Addr) (ni ci : Nat) (Ac : Option Addr) (cc : Nat) (ins : List Tb) (AT : Option Addr) (ct : Nat) (w : World) (hE : OEnv w) (hJ : JobIn w j Ao co Ac cc) (hI : RdTbs w AT ins) (hB : ∀ t ∈ ins, TbB t) (hll : ∀ t ∈ ins, t.cols.length ≤ 4294967) (hl : ins.length ≤ 4294967296) :
  Calls Tryz.prog 27 #[jAgg j Ao co Ai ni ci Ac cc, .slice AT ins.length ct] w fun e w' => DoOut (doJ j ins) e w' ∧ Keeps [] w w' := by
 refine do_any j Ao co Ai ni ci Ac cc ins AT ct w hI hB hl (fun W q AH ch hH => ?_) (fun out hr hc W q OA od => ?_)
 ·refine colsA_any j Ao co Ai ni ci Ac cc (ins.map (·.cols)) AH ch W (hE.quiet q).c (hJ.quiet q) hH (fun l hm => ?_)
  obtain ⟨t, ht, rfl⟩ := List.mem_map.1 hm
  exact hll t ht
 ·have hsz := sizes_of hc
  rw [List.length_map] at hsz
  have hcw := hJ.cols.keep q
  have hcc := hJ.cc
  rcases hcode with h4 | h7 | h8
  ·have h1 : ins.length = 1 := by rw [hsz, h4]; rfl
   obtain ⟨t, rfl⟩ : ∃ t, ins = [t] := by
    match ins, h1 with
    | [t], _ => exact ⟨t, rfl⟩
   have hrt : rightB t = true := hr t (by simp)
   obtain ⟨⟨_, h11, h12, _⟩, _⟩ := picked_ok.1 (colsJ_4 h4 hc)
   obtain ⟨b, o, A1, c1, A2, c2, rfl, d0, d1, hT⟩ := (hI.keep q).first (k := 0) (by simp) rfl (hB t (by simp))
   rw [Nat.zero_mul, Nat.add_zero] at d0 d1
   have hmj : madeJ j [t] out = .ok [sortK t j.cols] := by
    unfold madeJ
    simp only
    rw [if_pos h4]
    rfl
   rw [hmj]
   have hlc := hJ.lc
   have := right_rows hrt
   obtain ⟨at_, code, outs, js, cols, op, ⟨lc, lk, ln, lw⟩, ⟨rc, rk, rn, rw'⟩, retry⟩ := j
   simp only at h4
   subst h4
   exact made_4 t cols Ac OA out.length od b o 1 ct A1 A2 c1 c2 at_ retry lk ln rk rn outs op lc lw rc rw' Ao co Ai ni ci cc W d0 d1 hT (by omega) hcw hlc h12 (row_len hrt) (by omega)
  ·have h1 : ins.length = 2 := by rw [hsz, h7]; rfl
   obtain ⟨t, u, rfl⟩ : ∃ t u, ins = [t, u] := by
    match ins, h1 with
    | [t, u], _ => exact ⟨t, u, rfl⟩
   have hrt : rightB t = true := hr t (by simp)
   have hru : rightB u = true := hr u (by simp)
   obtain ⟨x, y, k, m, hxy, hk, hm, _⟩ := joined_ok (colsJ_7 h7 hc)
   have hk' : colIx t.cols x = some k := hk
   have hm' : colIx u.cols y = some m := hm
   obtain ⟨b, o, A1, c1, A2, c2, rfl, d0, d1, hT⟩ := (hI.keep q).first (k := 0) (by simp) rfl (hB t (by simp))
   obtain ⟨b', o', A3, c3, A4, c4, hbo, d2, d3, hU⟩ := (hI.keep q).first (k := 1) (by simp) rfl (hB u (by simp))
   injection hbo with hbo
   injection hbo with hb ho _
   subst hb ho
   rw [Nat.zero_mul, Nat.add_zero] at d0 d1
   have hmj : madeJ j [t, u] out = .ok [pairsJ k m t.rows u.rows] := by
    unfold madeJ
    simp only
    rw [if_neg (by omega), if_pos h7, hxy]
    show Except.ok [pairsJ (ixOf t.cols x) (ixOf u.cols y) t.rows u.rows] = _
    rw [ix_of hk', ix_of hm']
   rw [hmj]
   have b1 := right_rows hrt
   have b2 := right_rows hru
   have b3 := (rightB_of hrt).2.1
   have b4 := (rightB_of hru).2.1
   obtain ⟨at_, code, outs, js, cols, op, ⟨lc, lk, ln, lw⟩, ⟨rc, rk, rn, rw'⟩, retry⟩ := j
   simp only at h7 hxy
   subst h7 hxy
   obtain ⟨bc, oc, rfl, s0, s1⟩ := cols_cells hcw
   exact made_7 t u x y k m hk' hm' A3 A4 c3 c4 bc oc OA out.length od b o 2 ct A1 A2 c1 c2 at_ retry lk ln rk rn outs op lc lw rc rw' Ao co Ai ni ci cc W d0 d1 hT (by omega) s0 s1 d2 d3 hU (row_len hrt) (row_len hru) (by omega) (by omega) (by omega) (by omega)
  ·have h1 : ins.length = 1 := by rw [hsz, h8]; rfl
   obtain ⟨t, rfl⟩ : ∃ t, ins = [t] := by
    match ins, h1 with
    | [t], _ => exact ⟨t, rfl⟩
   have hrt : rightB t = true := hr t (by simp)
   obtain ⟨x, y, k, m, hxy, _, hk, hm, hki, _⟩ := grouped_ok (colsJ_8 h8 hc)
   have hk' : colIx t.cols x = some k := hk
   have hm' : colIx t.cols y = some m := hm
   obtain ⟨b, o, A1, c1, A2, c2, rfl, d0, d1, hT⟩ := (hI.keep q).first (k := 0) (by simp) rfl (hB t (by simp))
   rw [Nat.zero_mul, Nat.add_zero] at d0 d1
   have hmj : madeJ j [t] out = optE (grpO (groupsJ j.op k m (sortK t [x]))) := by
    unfold madeJ grpO
    simp only
    rw [if_neg (by omega), if_neg (by omega), if_pos h8, hxy]
    show (if ((groupsJ j.op (ixOf t.cols x) (ixOf t.cols y) (sortK t [x])).any fun p => !rvB p.2) = true then Except.error 2 else Except.ok [grpRows (groupsJ j.op (ixOf t.cols x) (ixOf t.cols y) (sortK t [x]))]) = _
    rw [ix_of hk', ix_of hm']
    split <;> rfl
   rw [hmj]
   have b1 := right_rows hrt
   obtain ⟨hml, _, _⟩ := colIx_some.1 hm'
   have hki' : (t.cols.getD m zC).kind = 1 := hki
   obtain ⟨at_, code, outs, js, cols, op, ⟨lc, lk, ln, lw⟩, ⟨rc, rk, rn, rw'⟩, retry⟩ := j
   simp only at h8 hxy
   subst h8 hxy
   obtain ⟨bc, oc, rfl, s0, s1⟩ := cols_cells hcw
   exact made_8 t x y k m hk' hm' bc oc OA out.length od b o 1 ct A1 A2 c1 c2 at_ retry lk ln rk rn outs op lc lw rc rw' Ao co Ai ni ci cc W d0 d1 hT (by omega) (by simpa using hcc) s0 s1 (row_len hrt) (fun r hrm => by
    obtain ⟨_, a2, a3⟩ := getD_row hrt hrm hml
    have := int_bd a2 (a3.trans hki')
    exact ⟨this.1, this.2.1⟩) (by omega)
theorem doA_any (j : Jb) (Ao : Option Addr) (co : Nat) (Ai : Option Addr) (ni ci : Nat) (Ac : Option Addr) (cc : Nat) (ins : List Tb) (AT : Option Addr) (ct : Nat) (w : World) (hE : OEnv w) (hJ : JobIn w j Ao co Ac cc) (hI : RdTbs w AT ins) (hB : ∀ t ∈ ins, TbB t) (hll : ∀ t ∈ ins, t.cols.length ≤ 4294967) (hl : ins.length ≤ 4294967296) :
  Calls Tryz.prog 27 #[jAgg j Ao co Ai ni ci Ac cc, .slice AT ins.length ct] w fun e w' => DoOut (doJ j ins) e w' ∧ Keeps [] w w' := by
 by_cases h1 : j.code = 1 ∨ j.code = 9
 ·exact do_cmp j h1 Ao co Ai ni ci Ac cc ins AT ct w hE hJ hI hB hl
 ·by_cases h2 : j.code = 2 ∨ j.code = 3 ∨ j.code = 5 ∨ j.code = 6
  ·exact do_four j h2 Ao co Ai ni ci Ac cc ins AT ct w hE hJ hI hB hl
  ·by_cases h3 : j.code = 4 ∨ j.code = 7 ∨ j.code = 8
   ·exact do_sjg j h3 Ao co Ai ni ci Ac cc ins AT ct w hE hJ hI hB hll hl
   ·refine do_any j Ao co Ai ni ci Ac cc ins AT ct w hI hB hl (fun W q AH ch hH => ?_) (fun out hr hc W q OA od => ?_)
    ·refine colsA_any j Ao co Ai ni ci Ac cc (ins.map (·.cols)) AH ch W (hE.quiet q).c (hJ.quiet q) hH (fun l hm => ?_)
     obtain ⟨t, ht, rfl⟩ := List.mem_map.1 hm
     exact hll t ht
    ·unfold colsJ at hc
     rw [if_pos] at hc
     ·cases hc
     ·left
      unfold sizesN
      rw [if_neg (by omega), if_neg (by omega), if_neg (by omega)]
theorem one_right8 {j : Jb} (h0 : j.code / 9 = 0) {ins : List Tb} {u : Tb} (h : oneJ j ins = some u) : rightB u = true := by
 have hs : ins.length = (sizesN j.code).1 ∧ (sizesN j.code).1 ≠ 0 := by
  obtain ⟨_, out, rows, h1, _⟩ := (one_gen h0).1 h
  have h2 := sizes_of h1
  rw [List.length_map] at h2
  refine ⟨h2, fun h3 => ?_⟩
  unfold colsJ at h1
  rw [if_pos (.inl h3)] at h1
  cases h1
 have hcodes : j.code = 1 ∨ j.code = 2 ∨ j.code = 3 ∨ j.code = 4 ∨ j.code = 5 ∨ j.code = 6 ∨ j.code = 7 ∨ j.code = 8 := by
  refine Classical.byContradiction fun hn => hs.2 ?_
  unfold sizesN
  rw [if_neg (by omega), if_neg (by omega), if_neg (by omega)]
 rcases hcodes with h1 | h1 | h1 | h4 | h1 | h1 | h7 | h8
 ·exact one_right (by omega) h
 ·exact one_right (by omega) h
 ·exact one_right (by omega) h
 ·obtain ⟨t, rfl⟩ : ∃ t, ins = [t] := by
   rw [h4] at hs
   match ins, hs.1 with
   | [t], _ => exact ⟨t, rfl⟩
  obtain ⟨hr, _, rfl⟩ := (one_sort h4).1 h
  exact sort_right hr
 ·exact one_right (by omega) h
 ·exact one_right (by omega) h
 ·obtain ⟨t, v, rfl⟩ : ∃ t v, ins = [t, v] := by
   rw [h7] at hs
   match ins, hs.1 with
   | [t, v], _ => exact ⟨t, v, rfl⟩
  exact join_right h7 h
 ·obtain ⟨t, rfl⟩ : ∃ t, ins = [t] := by
   rw [h8] at hs
   match ins, hs.1 with
   | [t], _ => exact ⟨t, rfl⟩
  exact group_right h8 h
end Go.Proofs.YtpfkjejknlkkoaaGreatDoor
