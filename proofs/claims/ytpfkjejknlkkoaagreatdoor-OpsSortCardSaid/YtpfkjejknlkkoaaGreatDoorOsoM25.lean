/- Jobs as plain data: what one makes of a table, code by code; it may be. No program in sight. ops.groups. ops.made: Set. -/
import Derived.Test.YtpfkjejknlkkoaaGreatDoorOsoM24
import Derived.Test.YtpfkjejknlkkoaaGreatDoorOsoM23
import Derived.Test.YtpfkjejknlkkoaaGreatDoorOsoM5
import Derived.StillTailTactics
import Derived.Lib.MinMax
import Derived.Deep.CutRange
set_option linter.unusedSimpArgs false
set_option linter.unusedVariables false
namespace Go.Proofs.YtpfkjejknlkkoaaGreatDoor
theorem rowB_iff' {cs : List Cl} {r : List Vl} : rowB cs r = true ↔ r.length = cs.length ∧ ∀ i (h : i < r.length) (h' : i < cs.length), r[i].kind = cs[i].kind ∧ rvB r[i] = true := by
 unfold rowB
 simp only [Bool.and_eq_true, decide_eq_true_eq, List.all_eq_true]
 constructor
 ·rintro ⟨h1, h2⟩
  refine ⟨h1, fun i h h' => ?_⟩
  have := h2 i (List.mem_range.2 h)
  unfold okAt at this
  rw [List.getElem?_eq_getElem h, List.getElem?_eq_getElem h'] at this
  simpa using this
 ·rintro ⟨h1, h2⟩
  refine ⟨h1, fun i hi => ?_⟩
  have h := List.mem_range.1 hi
  unfold okAt
  rw [List.getElem?_eq_getElem h, List.getElem?_eq_getElem (by omega)]
  have := h2 i h (by omega)
  simpa using this
theorem colsB_iff {l : List Cl} : colsB l = true ↔ 1 ≤ l.length ∧ l.length ≤ 6 ∧ (∀ c ∈ l, nameB c.name = true ∧ (c.kind = 1 ∨ c.kind = 2)) ∧ (l.map (·.name)).Nodup := by
 unfold colsB
 simp only [Bool.and_eq_true, decide_eq_true_eq, List.all_eq_true]
 constructor
 ·rintro ⟨⟨h1, h2⟩, h3⟩
  have key : ∀ i (h : i < l.length), (nameB l[i].name = true ∧ (l[i].kind = 1 ∨ l[i].kind = 2)) ∧ ∀ k (hk : k < i), l[k].name ≠ l[i].name := fun i h => by
   have := h3 i (List.mem_range.2 h)
   unfold okCol at this
   rw [List.getElem?_eq_getElem h] at this
   simp only [Bool.and_eq_true, Bool.or_eq_true, decide_eq_true_eq, Bool.not_eq_true', List.any_eq_false, beq_iff_eq] at this
   refine ⟨this.1, fun k hk => this.2 _ ?_⟩
   rw [List.mem_take_iff_getElem]
   exact ⟨k, by omega, rfl⟩
  refine ⟨h1, h2, fun c hc => ?_, ?_⟩
  ·obtain ⟨i, hi, rfl⟩ := List.getElem_of_mem hc
   exact (key i hi).1
  ·rw [List.nodup_iff_pairwise_ne, List.pairwise_iff_getElem]
   intro i k hi hk hlt
   simp only [List.getElem_map]
   exact (key k (by simpa using hk)).2 i hlt
 ·rintro ⟨h1, h2, h3, h4⟩
  refine ⟨⟨h1, h2⟩, fun i hi => ?_⟩
  have h := List.mem_range.1 hi
  unfold okCol
  rw [List.getElem?_eq_getElem h]
  simp only [Bool.and_eq_true, Bool.or_eq_true, decide_eq_true_eq, Bool.not_eq_true', List.any_eq_false, beq_iff_eq]
  refine ⟨h3 _ (List.getElem_mem h), fun x hx => ?_⟩
  rw [List.mem_take_iff_getElem] at hx
  obtain ⟨k, hk, rfl⟩ := hx
  rw [List.nodup_iff_pairwise_ne, List.pairwise_iff_getElem] at h4
  have := h4 k i (by simp; omega) (by simpa using h) (by omega)
  simpa using this
theorem colIx_some {a : List Cl} {n : Bs} {k : Nat} : colIx a n = some k ↔ ∃ h : k < a.length, a[k].name = n ∧ ∀ j (hj : j < k), (a[j]'(by omega)).name ≠ n := by
 unfold colIx
 rw [List.findIdx?_eq_some_iff_getElem]
 constructor
 ·rintro ⟨h, h1, h2⟩
  exact ⟨h, by simpa using h1, fun j hj => by simpa using h2 j hj⟩
 ·rintro ⟨h, h1, h2⟩
  exact ⟨h, by simpa using h1, fun j hj => by simpa using h2 j hj⟩
def colOf (a : List Cl) (n : Bs) : Cl := match colIx a n with
 | none => zC
 | some k => a.getD k zC
theorem colOf_some {a : List Cl} {n : Bs} {k : Nat} (h : colIx a n = some k) : ∃ hk : k < a.length, colOf a n = a[k] ∧ (colOf a n).name = n := by
 obtain ⟨hk, h1, _⟩ := colIx_some.1 h
 have e : colOf a n = a[k] := by
  unfold colOf
  rw [h]
  simp only
  rw [List.getD_eq_getElem?_getD, List.getElem?_eq_getElem hk]; rfl
 exact ⟨hk, e, by rw [e]; exact h1⟩
theorem colIx_self {a : List Cl} (h : (a.map (·.name)).Nodup) {k : Nat} (hk : k < a.length) : colIx a a[k].name = some k := by
 refine colIx_some.2 ⟨hk, rfl, fun j hj => ?_⟩
 rw [List.nodup_iff_pairwise_ne, List.pairwise_iff_getElem] at h
 have := h j k (by simp; omega) (by simpa using hk) hj
 simpa using this
theorem pickGo_ok {a : List Cl} : ∀ (ns seen : List Bs) (acc out : List Cl), pickGo a seen ns acc = .ok out ↔ (∀ n ∈ ns, ∃ k, colIx a n = some k) ∧ ns.Nodup ∧ (∀ n ∈ ns, n ∉ seen) ∧ out = acc ++ ns.map (colOf a)
 | [], seen, acc, out => by
  simp only [pickGo, Except.ok.injEq, List.not_mem_nil, false_imp_iff, implies_true, List.nodup_nil, List.map_nil, List.append_nil, true_and]
  exact ⟨fun h => h.symm, fun h => h.symm⟩
 | n :: ns, seen, acc, out => by
  unfold pickGo
  cases h : colIx a n with
  | none =>
   simp only
   constructor
   ·intro h2; cases h2
   ·rintro ⟨h2, _⟩
    obtain ⟨k, hk⟩ := h2 n (by simp)
    rw [h] at hk; cases hk
  | some k =>
   simp only
   have e : colOf a n = a.getD k zC := by unfold colOf; rw [h]
   by_cases hs : n ∈ seen
   ·rw [if_pos hs]
    constructor
    ·intro h2; cases h2
    ·rintro ⟨_, _, h3, _⟩
     exact absurd hs (h3 n (by simp))
   ·rw [if_neg hs, pickGo_ok ns (seen ++ [n]) (acc ++ [a.getD k zC]) out]
    simp only [List.mem_cons, List.nodup_cons, List.map_cons, List.mem_append, List.not_mem_nil, or_false, not_or, ← e]
    constructor
    ·rintro ⟨h1, h2, h3, h4⟩
     refine ⟨fun x hx => ?_, ⟨fun hn => (h3 n hn).2 rfl, h2⟩, fun x hx => ?_, by rw [h4]; simp⟩
     ·rcases hx with rfl | hx
      ·exact ⟨k, h⟩
      ·exact h1 x hx
     ·rcases hx with rfl | hx
      ·exact hs
      ·exact (h3 x hx).1
    ·rintro ⟨h1, ⟨h2, h3⟩, h4, h5⟩
     exact ⟨fun x hx => h1 x (.inr hx), h3, fun x hx => ⟨h4 x (.inr hx), fun hxn => h2 (hxn ▸ hx)⟩, by rw [h5]; simp⟩
theorem one_gen {j : Jb} {ins : List Tb} {u : Tb} (hc : j.code / 9 = 0) : oneJ j ins = some u ↔ (∀ t ∈ ins, rightB t = true) ∧ ∃ out rows, colsJ { j with outs := [[120]] } (ins.map (·.cols)) = .ok out ∧ madeJ { j with outs := [[120]] } ins out = .ok rows ∧ tabsJ out rows = .ok [u] := by
 rw [one_iff hc, do_ok]
theorem tabs_single {c : List Cl} {r : List (List Vl)} {u : Tb} : tabsJ [c] [r] = .ok [u] ↔ r.length ≤ 60 ∧ u = ⟨c, r⟩ := by
 rw [tabsJ_one]
 split
 ·rename_i h
  constructor
  ·intro h2; cases h2
  ·rintro ⟨h2, _⟩; omega
 ·rename_i h
  constructor
  ·intro h2
   injection h2 with h2
   injection h2 with h2 _
   exact ⟨by omega, h2.symm⟩
  ·rintro ⟨_, rfl⟩; rfl
def pickOk (j : Jb) (a : List Cl) : Prop := 1 ≤ j.cols.length ∧ j.cols.length ≤ 6 ∧ (∀ n ∈ j.cols, ∃ k, colIx a n = some k) ∧ j.cols.Nodup
theorem picked_ok {j : Jb} {a : List Cl} {out : List (List Cl)} : pickedJ j a = .ok out ↔ pickOk j a ∧ out = [if j.code = 4 then a else j.cols.map (colOf a)] := by
 unfold pickedJ pickOk
 split
 ·rename_i h
  constructor
  ·intro h2; cases h2
  ·rintro ⟨⟨h2, h3, _⟩, _⟩; omega
 ·rename_i h
  cases hp : pickGo a [] j.cols [] with
  | error e =>
   constructor
   ·intro h2; cases h2
   ·rintro ⟨⟨_, _, h3, h4⟩, _⟩
    have := (pickGo_ok j.cols [] [] (j.cols.map (colOf a))).2 ⟨h3, h4, by simp, by simp⟩
    rw [hp] at this; cases this
  | ok q =>
   obtain ⟨h3, h4, _, h5⟩ := (pickGo_ok j.cols [] [] q).1 hp
   have e : q = j.cols.map (colOf a) := by simpa using h5
   subst e
   constructor
   ·intro h2
    injection h2 with h2
    exact ⟨⟨by omega, by omega, h3, h4⟩, h2.symm⟩
   ·rintro ⟨_, h2⟩; rw [h2]
theorem one_proj {j : Jb} {t u : Tb} (hc : j.code = 3) : oneJ j [t] = some u ↔ rightB t = true ∧ pickOk j t.cols ∧ u = ⟨j.cols.map (colOf t.cols), t.rows.map (pickRow j t)⟩ := by
 rw [one_gen (by rw [hc]; rfl)]
 have e1 : colsJ { j with outs := [[120]] } ([t].map (·.cols)) = pickedJ { j with outs := [[120]] } t.cols := by
  unfold colsJ sizesN
  simp [hc]
 have e2 : ∀ out, madeJ { j with outs := [[120]] } [t] out = .ok [t.rows.map (pickRow j t)] := fun out => by
  unfold madeJ madeO
  simp [hc]
  intro a _
  rfl
 rw [e1]
 simp only [e2, List.mem_singleton, forall_eq]
 constructor
 ·rintro ⟨hr, out, rows, h1, h2, h3⟩
  injection h2 with h2
  subst h2
  obtain ⟨h4, h5⟩ := picked_ok.1 h1
  rw [if_neg (by simp only; omega)] at h5
  subst h5
  exact ⟨hr, h4, (tabs_single.1 h3).2⟩
 ·rintro ⟨hr, h4, rfl⟩
  refine ⟨hr, _, _, picked_ok.2 ⟨h4, rfl⟩, rfl, ?_⟩
  rw [if_neg (by simp only; omega)]
  exact tabs_single.2 ⟨by rw [List.length_map]; exact right_rows hr, rfl⟩
theorem one_union {j : Jb} {t v u : Tb} (hc : j.code = 5) : oneJ j [t, v] = some u ↔ rightB t = true ∧ rightB v = true ∧ t.cols = v.cols ∧ t.rows.length + v.rows.length ≤ 60 ∧ u = ⟨t.cols, t.rows ++ v.rows⟩ := by
 rw [one_gen (by rw [hc]; rfl)]
 have e1 : colsJ { j with outs := [[120]] } ([t, v].map (·.cols)) = if t.cols ≠ v.cols then .error 13 else .ok [t.cols] := by
  unfold colsJ sizesN
  simp [hc]
 have e2 : ∀ out, madeJ { j with outs := [[120]] } [t, v] out = .ok [t.rows ++ v.rows] := fun out => by
  unfold madeJ madeO
  simp [hc]
 rw [e1]
 simp only [e2, List.mem_cons, List.not_mem_nil, or_false, forall_eq_or_imp, forall_eq]
 constructor
 ·rintro ⟨⟨hr, hv⟩, out, rows, h1, h2, h3⟩
  injection h2 with h2
  subst h2
  split at h1
  ·cases h1
  ·rename_i hne
   injection h1 with h1
   subst h1
   obtain ⟨h4, h5⟩ := tabs_single.1 h3
   rw [List.length_append] at h4
   exact ⟨hr, hv, Decidable.not_not.1 hne, h4, h5⟩
 ·rintro ⟨hr, hv, he, hl, rfl⟩
  refine ⟨⟨hr, hv⟩, [t.cols], _, by rw [if_neg (fun h => h he)], rfl, tabs_single.2 ⟨by rw [List.length_append]; exact hl, rfl⟩⟩
theorem distinct_sub : ∀ (rs : List (List Vl)) (seen : List Bs) (out : List (List Vl)), (distinctGo rs seen out).length ≤ rs.length + out.length ∧ ∀ r ∈ distinctGo rs seen out, r ∈ rs ∨ r ∈ out
 | [], _, out => ⟨by simp [distinctGo], fun r h => .inr (by simpa [distinctGo] using h)⟩
 | x :: rs, seen, out => by
  unfold distinctGo
  split
  ·obtain ⟨h1, h2⟩ := distinct_sub rs seen out
   exact ⟨by simp; omega, fun r hr => (h2 r hr).imp (fun h => by simp [h]) id⟩
  ·obtain ⟨h1, h2⟩ := distinct_sub rs (rowText x :: seen) (out ++ [x])
   refine ⟨by simp at h1 ⊢; omega, fun r hr => ?_⟩
   rcases h2 r hr with h | h
   ·exact .inl (by simp [h])
   ·rw [List.mem_append, List.mem_singleton] at h
    rcases h with h | h
    ·exact .inr h
    ·exact .inl (by simp [h])
theorem one_dist {j : Jb} {t u : Tb} (hc : j.code = 6) : oneJ j [t] = some u ↔ rightB t = true ∧ u = ⟨t.cols, distinctGo t.rows [] []⟩ := by
 rw [one_gen (by rw [hc]; rfl)]
 have e1 : colsJ { j with outs := [[120]] } ([t].map (·.cols)) = .ok [t.cols] := by
  unfold colsJ sizesN
  simp [hc]
 have e2 : ∀ out, madeJ { j with outs := [[120]] } [t] out = .ok [distinctGo t.rows [] []] := fun out => by
  unfold madeJ madeO
  simp [hc]
 rw [e1]
 simp only [e2, List.mem_singleton, forall_eq]
 constructor
 ·rintro ⟨hr, out, rows, h1, h2, h3⟩
  injection h1 with h1
  injection h2 with h2
  subst h1 h2
  exact ⟨hr, (tabs_single.1 h3).2⟩
 ·rintro ⟨hr, rfl⟩
  refine ⟨hr, _, _, rfl, rfl, tabs_single.2 ⟨?_, rfl⟩⟩
  have := (distinct_sub t.rows [] []).1
  have := right_rows hr
  simp at *
  omega
theorem dist_right {t : Tb} (h : rightB t = true) : rightB ⟨t.cols, distinctGo t.rows [] []⟩ = true :=
 right_sub h (by have := (distinct_sub t.rows [] []).1; have := right_rows h; simp at *; omega) fun r hr => by
  rcases (distinct_sub t.rows [] []).2 r hr with h | h
  ·exact h
  ·cases h
theorem union_right {t v : Tb} (h : rightB t = true) (hv : rightB v = true) (hc : t.cols = v.cols) (hl : t.rows.length + v.rows.length ≤ 60) : rightB ⟨t.cols, t.rows ++ v.rows⟩ = true := by
 obtain ⟨a, _, c⟩ := rightB_parts.1 h
 obtain ⟨_, _, c'⟩ := rightB_parts.1 hv
 refine rightB_parts.2 ⟨a, by rw [List.length_append]; exact hl, fun r hr => ?_⟩
 rw [List.mem_append] at hr
 rcases hr with hr | hr
 ·exact c r hr
 ·exact hc ▸ c' r hr
theorem pick_at (j : Jb) (t : Tb) (r : List Vl) (i : Nat) (h : i < j.cols.length) {k : Nat} (hk : colIx t.cols j.cols[i] = some k) (hr : k < r.length) : (pickRow j t r)[i]'(by unfold pickRow; simpa using h) = r[k] := by
 unfold pickRow
 simp only [List.getElem_map, hk]
 rw [List.getD_eq_getElem?_getD, List.getElem?_eq_getElem hr]; rfl
theorem proj_right {j : Jb} {t : Tb} (h : rightB t = true) (hp : pickOk j t.cols) : rightB ⟨j.cols.map (colOf t.cols), t.rows.map (pickRow j t)⟩ = true := by
 obtain ⟨a, b, c⟩ := rightB_parts.1 h
 obtain ⟨h1, h2, h3, h4⟩ := hp
 obtain ⟨_, _, h7, _⟩ := colsB_iff.1 a
 refine rightB_parts.2 ⟨colsB_iff.2 ⟨by simpa using h1, by simpa using h2, fun x hx => ?_, ?_⟩, by simpa using b, fun r hr => ?_⟩
 ·obtain ⟨n, hn, rfl⟩ := List.mem_map.1 hx
  obtain ⟨k, hk⟩ := h3 n hn
  obtain ⟨hkl, he, _⟩ := colOf_some hk
  rw [he]
  exact h7 _ (List.getElem_mem hkl)
 ·have e : (j.cols.map (colOf t.cols)).map (·.name) = j.cols := by
   rw [List.map_map]
   refine (List.map_congr_left fun n hn => ?_).trans (List.map_id _)
   obtain ⟨k, hk⟩ := h3 n hn
   exact (colOf_some hk).2.2
  simp only
  rw [e]
  exact h4
 ·obtain ⟨x, hx, rfl⟩ := List.mem_map.1 hr
  obtain ⟨hl, hv⟩ := rowB_iff'.1 (c x hx)
  refine rowB_iff'.2 ⟨by simp [pickRow], fun i hi hi' => ?_⟩
  have hic : i < j.cols.length := by simpa [pickRow] using hi
  obtain ⟨k, hk⟩ := h3 _ (List.getElem_mem hic)
  obtain ⟨hkl, he, _⟩ := colOf_some hk
  rw [pick_at j t x i hic hk (by omega)]
  simp only [List.getElem_map]
  rw [he]
  exact hv k (by omega) hkl
theorem change_ok (j : Jb) (a : Tb) : ∀ (rs acc l : List (List Vl)), changeGo j a rs acc = some l ↔ ∃ q, l = acc ++ q ∧ q.length = rs.length ∧ ∀ i (h : i < rs.length) (h' : i < q.length), changeRow j a rs[i] = some q[i]
 | [], acc, l => by
  simp only [changeGo, Option.some.injEq]
  constructor
  ·intro h; exact ⟨[], by simp [h], rfl, fun i h => by simp at h⟩
  ·rintro ⟨q, h1, h2, _⟩
   have : q = [] := List.eq_nil_of_length_eq_zero h2
   rw [h1, this, List.append_nil]
 | r :: rs, acc, l => by
  unfold changeGo
  cases h : changeRow j a r with
  | none =>
   simp only
   constructor
   ·intro h2; cases h2
   ·rintro ⟨q, _, h2, h3⟩
    have := h3 0 (by simp) (by rw [h2]; simp)
    simp only [List.getElem_cons_zero] at this
    rw [h] at this; cases this
  | some x =>
   simp only
   rw [change_ok j a rs (acc ++ [x]) l]
   constructor
   ·rintro ⟨q, rfl, hq, hi⟩
    refine ⟨x :: q, by simp, by simp [hq], fun i hi1 hi2 => ?_⟩
    rcases i with _ | i
    ·exact h
    ·exact hi i (by simpa using hi1) (by simpa using hi2)
   ·rintro ⟨q, rfl, hq, hi⟩
    match q, hq with
    | y :: q, hq =>
     have h0 := hi 0 (by simp) (by simp)
     simp only [List.getElem_cons_zero] at h0
     rw [h] at h0
     cases h0
     refine ⟨q, by simp, by simpa using hq, fun i hi1 hi2 => ?_⟩
     have := hi (i + 1) (by simpa using hi1) (by simpa using hi2)
     simpa using this
def setOk (j : Jb) (a : List Cl) (k : Nat) : Prop := j.cols.length = 1 ∧ (j.op = [43] ∨ j.op = [45] ∨ j.op = [42]) ∧ colIx a (j.cols.headD []) = some k ∧ (a.getD k zC).kind = 1 ∧ kindI j.left a = 1 ∧ kindI j.right a = 1
theorem set_ok {j : Jb} {a : List Cl} {out : List (List Cl)} : setJ j a = .ok out ↔ (∃ k, setOk j a k) ∧ out = [a] := by
 unfold setJ setOk
 split
 ·rename_i h
  constructor
  ·intro h2; cases h2
  ·rintro ⟨⟨k, h1, h2, _⟩, _⟩
   rcases h with h | h
   ·exact absurd h1 h
   ·exact absurd h2 h
 ·rename_i h
  have h1 : j.cols.length = 1 := Decidable.not_not.1 fun hn => h (.inl hn)
  have h2 : j.op = [43] ∨ j.op = [45] ∨ j.op = [42] := Classical.byContradiction fun hn => h (.inr hn)
  cases hk : colIx a (j.cols.headD []) with
  | none =>
   constructor
   ·intro h3; cases h3
   ·rintro ⟨⟨k, _, _, h3, _⟩, _⟩; cases h3
  | some k =>
   simp only
   split
   ·rename_i h3
    constructor
    ·intro h4; cases h4
    ·rintro ⟨⟨k', _, _, h4, h5, h6, h7⟩, _⟩
     cases h4
     rcases h3 with h3 | h3 | h3
     ·exact absurd h5 h3
     ·exact absurd h6 h3
     ·exact absurd h7 h3
   ·rename_i h3
    simp only [not_or, Decidable.not_not] at h3
    constructor
    ·intro h4
     injection h4 with h4
     exact ⟨⟨k, h1, h2, rfl, h3.1, h3.2.1, h3.2.2⟩, h4.symm⟩
    ·rintro ⟨_, h4⟩; rw [h4]
theorem one_set {j : Jb} {t u : Tb} (hc : j.code = 2) : oneJ j [t] = some u ↔ rightB t = true ∧ (∃ k, setOk j t.cols k) ∧ ∃ l, changeGo j t t.rows [] = some l ∧ u = ⟨t.cols, l⟩ := by
 rw [one_gen (by rw [hc]; rfl)]
 have e1 : colsJ { j with outs := [[120]] } ([t].map (·.cols)) = setJ j t.cols := by
  unfold colsJ sizesN
  simp [hc]
  rfl
 have e2 : ∀ out, madeJ { j with outs := [[120]] } [t] out = match changeGo j t t.rows [] with
  | none => .error 2
  | some l => .ok [l] := fun out => by
  have hg : ∀ rs acc, changeGo { j with outs := [[120]] } t rs acc = changeGo j t rs acc := fun rs => by
   induction rs with
   | nil => intro acc; rfl
   | cons r rs ih =>
    intro acc
    unfold changeGo
    have : changeRow { j with outs := [[120]] } t r = changeRow j t r := rfl
    rw [this]
    cases changeRow j t r with
    | none => rfl
    | some x => exact ih _
  rw [madeJ_of (by show j.code ≠ 4; omega) (by show j.code ≠ 7; omega) (by show j.code ≠ 8; omega)]
  unfold madeO
  simp only
  rw [if_neg (by omega), if_pos hc]
  show (match changeGo { j with outs := [[120]] } t t.rows [] with | none => _ | some l => _) = _
  rw [hg]
 rw [e1]
 simp only [e2, List.mem_singleton, forall_eq]
 constructor
 ·rintro ⟨hr, out, rows, h1, h2, h3⟩
  obtain ⟨h4, rfl⟩ := set_ok.1 h1
  cases hg : changeGo j t t.rows [] with
  | none => rw [hg] at h2; cases h2
  | some l =>
   rw [hg] at h2
   injection h2 with h2
   subst h2
   exact ⟨hr, h4, l, rfl, (tabs_single.1 h3).2⟩
 ·rintro ⟨hr, h4, l, hg, rfl⟩
  refine ⟨hr, _, [l], set_ok.2 ⟨h4, rfl⟩, by rw [hg], tabs_single.2 ⟨?_, rfl⟩⟩
  obtain ⟨q, hq, hl, _⟩ := (change_ok j t t.rows [] l).1 hg
  have := right_rows hr
  rw [List.nil_append] at hq
  rw [hq, hl]; exact this
theorem int_bd {v : Vl} (h : rvB v = true) (hk : v.kind = 1) : -1000000000 ≤ v.num ∧ v.num ≤ 1000000000 ∧ v.word = [] := by
 unfold rvB at h
 rw [if_pos hk] at h
 simp only [Bool.and_eq_true, decide_eq_true_eq, beq_iff_eq] at h
 exact ⟨h.1.2, h.2, h.1.1⟩
theorem arg_int {a : Ar} {t : Tb} (hr : rightB t = true) (hk : kindI a t.cols = 1) {r : List Vl} (hm : r ∈ t.rows) : -1000000000 ≤ (argV a t.cols r).num ∧ (argV a t.cols r).num ≤ 1000000000 := by
 obtain ⟨_, _, c⟩ := rightB_parts.1 hr
 obtain ⟨hl, hv⟩ := rowB_iff'.1 (c r hm)
 unfold kindI at hk
 unfold argV
 split at hk
 ·rename_i hc
  rw [if_pos hc]
  split at hk
  ·rename_i hrv
   have := int_bd hrv hk
   exact ⟨this.1, this.2.1⟩
  ·cases hk
 ·rename_i hc
  rw [if_neg hc]
  cases hx : colIx t.cols a.col with
  | none => rw [hx] at hk; cases hk
  | some k =>
   rw [hx] at hk
   simp only at hk ⊢
   split at hk
   ·obtain ⟨hkl, _, _⟩ := colIx_some.1 hx
    have hkr : k < r.length := by omega
    rw [List.getD_eq_getElem?_getD, List.getElem?_eq_getElem hkl] at hk
    rw [List.getD_eq_getElem?_getD, List.getElem?_eq_getElem hkr]
    obtain ⟨h1, h2⟩ := hv k hkr hkl
    have := int_bd h2 (h1.trans hk)
    exact ⟨this.1, this.2.1⟩
   ·cases hk
theorem changeRow_some {j : Jb} {a : Tb} {k : Nat} (hk : colIx a.cols (j.cols.headD []) = some k) {r x : List Vl} : changeRow j a r = some x ↔ (-1000000000 ≤ setN j.op (argV j.left a.cols r).num (argV j.right a.cols r).num ∧ setN j.op (argV j.left a.cols r).num (argV j.right a.cols r).num ≤ 1000000000) ∧ x = r.set k ⟨(r.getD k zV).kind, setN j.op (argV j.left a.cols r).num (argV j.right a.cols r).num, (r.getD k zV).word⟩ := by
 unfold changeRow
 simp only
 split
 ·rename_i h
  constructor
  ·intro h2; cases h2
  ·rintro ⟨h2, _⟩; omega
 ·rename_i h
  rw [hk]
  simp only [Option.some.injEq]
  exact ⟨fun h2 => ⟨by omega, h2.symm⟩, fun h2 => h2.2.symm⟩
theorem set_right {j : Jb} {t : Tb} {k : Nat} {l : List (List Vl)} (h : rightB t = true) (hs : setOk j t.cols k) (hg : changeGo j t t.rows [] = some l) : rightB ⟨t.cols, l⟩ = true := by
 obtain ⟨a, b, c⟩ := rightB_parts.1 h
 obtain ⟨q, hq, hl, hi⟩ := (change_ok j t t.rows [] l).1 hg
 rw [List.nil_append] at hq
 subst hq
 obtain ⟨_, _, hk, hk1, _, _⟩ := hs
 obtain ⟨hkl, _, _⟩ := colIx_some.1 hk
 refine rightB_parts.2 ⟨a, by rw [hl]; exact b, fun r hr => ?_⟩
 obtain ⟨i, hil0, rfl⟩ := List.getElem_of_mem hr
 have hil : i < l.length := hil0
 have hx := hi i (by omega) hil
 obtain ⟨hb, he⟩ := (changeRow_some hk).1 hx
 obtain ⟨hrl, hrv⟩ := rowB_iff'.1 (c t.rows[i] (List.getElem_mem (by omega)))
 simp only at he ⊢
 rw [he]
 refine rowB_iff'.2 ⟨by rw [List.length_set]; exact hrl, fun m h1 h2 => ?_⟩
 rw [List.length_set] at h1
 rw [List.getElem_set]
 split
 ·rename_i hkm
  subst hkm
  obtain ⟨h3, h4⟩ := hrv k h1 h2
  have hkind : t.cols[k].kind = 1 := by
   rw [List.getD_eq_getElem?_getD, List.getElem?_eq_getElem h2] at hk1
   exact hk1
  have hgd : (t.rows[i]'(by omega)).getD k zV = (t.rows[i]'(by omega))[k] := by rw [List.getD_eq_getElem?_getD, List.getElem?_eq_getElem h1]; rfl
  rw [hgd]
  refine ⟨h3, ?_⟩
  have hw := (int_bd h4 (h3.trans hkind)).2.2
  unfold rvB
  simp only
  rw [if_pos (h3.trans hkind), hw]
  simp only [Bool.and_eq_true, decide_eq_true_eq]
  exact ⟨⟨rfl, hb.1⟩, hb.2⟩
 ·exact hrv m h1 h2
end Go.Proofs.YtpfkjejknlkkoaaGreatDoor
namespace Go.Proofs.YtpfkjejknlkkoaaGreatDoor
open Go.RowKit Go.BigFrame
attribute [local go_sem] bs_size bs_extract bs_append bs_toList KW.cell
def gCells (p : Vl × Vl) : Array Value := #[.int .i64 p.1.kind, .int .i64 p.1.num, .string (bs p.1.word), .int .i64 p.2.kind, .int .i64 p.2.num, .string (bs p.2.word)]
def gV (g : Nat) : Value := .slice (some ⟨g, 0, none⟩) 2 2
def Grp (base : Nat) (W : World) (v : Value) (gs : List (Vl × Vl)) : Prop :=
 ∃ G : List Nat, G.length = gs.length ∧ G.Nodup ∧ W.ownsRow base 41 1 v gs.length (G.map gV) ∧ ∀ i (h : i < G.length) (h' : i < gs.length), base ≤ G[i] ∧ Blk W G[i] 32 (gCells gs[i])
theorem Grp.nil (base : Nat) (W : World) : Grp base W (.slice none 0 0) [] := ⟨[], rfl, List.nodup_nil, World.ownsRow_nil _ _ _ _, fun i h => by cases h⟩
theorem Grp.keep {base : Nat} {W W' : World} {v : Value} {gs : List (Vl × Vl)} (h : Grp base W v gs) (hk : Keeps [] W W') : Grp base W' v gs := by
 obtain ⟨G, h1, h2, h3, h4⟩ := h
 exact ⟨G, h1, h2, own_keep h3 hk (fun _ _ => by simp), fun i a b => ⟨(h4 i a b).1, (h4 i a b).2.keep hk (by simp)⟩⟩
theorem Grp.last {base : Nat} {W : World} {v : Value} {gs : List (Vl × Vl)} {z : Vl × Vl} (h : Grp base W v (gs ++ [z])) : ∃ gv cap gl, v = .slice (some ⟨gv, 0, none⟩) (gs.length + 1) cap ∧ gv < W.heap.size ∧ base ≤ gl ∧ W.cell? ⟨gv, gs.length, none⟩ = some (gV gl) ∧ Blk W gl 32 (gCells z) ∧
  ∀ n, Grp base (W.setCell ⟨gl, 4, none⟩ (.int .i64 n)) v (gs ++ [(z.1, ⟨z.2.kind, n, z.2.word⟩)]) := by
 obtain ⟨G, h1, h2, h3, h4⟩ := h
 have hl : G.length = gs.length + 1 := by rw [h1]; simp
 obtain ⟨b4, hB⟩ := h4 gs.length (by omega) (by simp)
 have hz : (gs ++ [z])[gs.length]'(by simp) = z := by simp
 rw [hz] at hB
 have h3' := h3
 rw [List.length_append, List.length_singleton] at h3
 rcases h3.2 with ⟨_, h0⟩ | ⟨gv, cap, cur, rfl, hb, hh, hc, _⟩
 ·omega
 ·have hcell := h3.cells (g := gv) rfl gs.length (gV G[gs.length]) (by rw [List.getElem?_map, List.getElem?_eq_getElem (by omega)]; rfl)
  rw [add_at, Nat.zero_add] at hcell
  refine ⟨gv, cap, G[gs.length], rfl, (Array.getElem?_eq_some_iff.1 hh).1, b4, hcell, hB, fun n => ⟨G, by rw [h1]; simp, h2, ?_, fun i a b => ?_⟩⟩
  ·have := own_set (i := 4) (u := .int .i64 n) h3' hB (by decide)
   rw [List.length_append, List.length_singleton] at this ⊢
   exact this
  ·have hi : i < gs.length + 1 := by rw [← hl]; exact a
   obtain ⟨c1, c2⟩ := h4 i a (by simpa using hi)
   refine ⟨c1, ?_⟩
   by_cases he : i = gs.length
   ·subst he
    have := hB.set 4 (.int .i64 n)
    refine this.congr ?_
    simp [gCells]
   ·have hne : G[i] ≠ G[gs.length] := by
     rw [List.nodup_iff_pairwise_ne, List.pairwise_iff_getElem] at h2
     exact h2 i gs.length a (by omega) (by omega)
    have e1 : (gs ++ [(z.1, (⟨z.2.kind, n, z.2.word⟩ : Vl))])[i]'b = (gs ++ [z])[i]'(by simpa using hi) := by
     rw [List.getElem_append_left (by omega), List.getElem_append_left (by omega)]
    rw [e1]
    exact c2.far hne _
theorem Grp.snoc {base : Nat} {y Y W : World} {v : Value} {gs : List (Vl × Vl)} {p : Vl × Vl} {G : List Nat} {bn gw cap : Nat} (h1 : G.length = gs.length) (h2 : G.Nodup) (h4 : ∀ i (h : i < G.length) (h' : i < gs.length), base ≤ G[i] ∧ Blk y G[i] 32 (gCells gs[i])) (hv : Y.ownsRow base 41 1 v gs.length (G.map gV)) (hk : Keeps [] y Y) (hbn : y.heap.size ≤ bn) (hbb : base ≤ y.heap.size) (hb : Blk Y bn 32 (gCells p)) (hg : Y.grownBy W v.ownBlock)
  (hown : W.ownsRow base 41 1 (.slice (some ⟨gw, 0, none⟩) (gs.length + 1) cap) (gs.length + 1) (G.map gV ++ [gV bn])) : Grp base W (.slice (some ⟨gw, 0, none⟩) (gs.length + 1) cap) (gs ++ [p]) := by
 have hkind := fun g hg => own_kind hv g hg
 have hold : ∀ g cs, Blk Y g 32 cs → Blk W g 32 cs := fun g cs hB => by
  refine (hg.block g hB.lt fun e => ?_).trans hB
  obtain ⟨cs', fz, hh⟩ := hkind g e.symm
  rw [hB] at hh
  injection hh with hh
  injection hh with _ h2
  revert h2
  decide
 refine ⟨G ++ [bn], by simp [h1], List.nodup_append.2 ⟨h2, by simp, fun a ha b hb' e => ?_⟩, by simpa using hown, fun i a b => ?_⟩
 ·rw [List.mem_singleton] at hb'
  obtain ⟨i, hi, rfl⟩ := List.getElem_of_mem ha
  have := (h4 i hi (by omega)).2.lt
  omega
 ·by_cases hi : i < G.length
  ·rw [List.getElem_append_left hi, List.getElem_append_left (by omega)]
   obtain ⟨c1, c2⟩ := h4 i hi (by omega)
   exact ⟨c1, hold _ _ (c2.keep hk (by simp))⟩
  ·have hi' : i = G.length := by simp at a; omega
   subst hi'
   rw [List.getElem_append_right (Nat.le_refl _), List.getElem_append_right (by omega)]
   simp only [Nat.sub_self, h1, List.getElem_cons_zero]
   exact ⟨Nat.le_trans hbb hbn, hold _ _ hb⟩
theorem Grp.rows {base : Nat} {W : World} {v : Value} {gs : List (Vl × Vl)} (h : Grp base W v gs) : RowsIs W v (grpRows gs) := by
 obtain ⟨G, h1, h2, h3, h4⟩ := h
 have hl : (grpRows gs).length = gs.length := by simp [grpRows]
 rw [← hl] at h3
 obtain ⟨A, c, e, hc, hr⟩ := own_rd h3
 refine ⟨A, c, e, hc, G.map gV, by rw [List.length_map, hl, h1], hr, fun i a b => ?_⟩
 have hi : i < G.length := by simpa using a
 obtain ⟨_, hb⟩ := h4 i hi (by omega)
 rw [List.getElem_map]
 have e2 : (grpRows gs)[i]'b = [(gs[i]'(by omega)).1, (gs[i]'(by omega)).2] := by simp [grpRows]
 rw [e2]
 refine ⟨_, 2, rfl, Nat.le_refl _, rfl, fun _ => ⟨_, rfl, by simp, hb.lt, fun j u hu => ?_⟩⟩
 rw [add_at, Nat.zero_add, hb.cell j]
 simpa [gCells, vsCells, vCells] using hu
theorem grpJ_snoc (op : Bs) (k m : Nat) (l : List (List Vl)) (r : List Vl) : groupsJ op k m (l ++ [r]) = grpStep op k m (groupsJ op k m l) r := by unfold groupsJ; rw [List.foldl_append]; rfl
theorem grpJ_len (op : Bs) (k m : Nat) (l : List (List Vl)) : (groupsJ op k m l).length ≤ l.length := by
 refine snoc_ind (p := fun l => (groupsJ op k m l).length ≤ l.length) (Nat.le_refl _) (fun l r ih => ?_) l
 rw [grpJ_snoc, List.length_append, List.length_singleton]
 unfold grpStep
 split
 ·simp; omega
 ·split
  ·simp; omega
  ·simp; omega
def grpO (g : List (Vl × Vl)) : Option (List (List Vl)) := if (g.any fun p => !rvB p.2) = true then none else some (grpRows g)
def GrpB (n : Nat) (gs : List (Vl × Vl)) : Prop := ∀ p ∈ gs, -((n : Int) * 1000000000) ≤ p.2.num ∧ p.2.num ≤ (n : Int) * 1000000000
theorem GrpB.add {n : Nat} {gs : List (Vl × Vl)} (h : GrpB n gs) {p : Vl × Vl} (hp : -(((n + 1 : Nat) : Int) * 1000000000) ≤ p.2.num ∧ p.2.num ≤ ((n + 1 : Nat) : Int) * 1000000000) : GrpB (n + 1) (gs ++ [p]) := fun q hq => by
 rcases List.mem_append.1 hq with hq | hq
 ·have := h q hq
  omega
 ·rw [List.mem_singleton.1 hq]; exact hp
set_option maxHeartbeats 8000000 in
set_option maxRecDepth 100000 in
theorem groups_any (t : Tb) (n1 n2 : Bs) (k m : Nat) (hk : colIx t.cols n1 = some k) (hm : colIx t.cols n2 = some m) (at_ code retry lk ln rk rn : Int) (no : Nat) (op lc lw rc rw' : Bs) (Ao : Option Addr) (co : Nat) (Ai : Option Addr) (ni ci : Nat) (bc oc : Nat) (cc : Nat) (hcc : 2 ≤ cc) (A B : Option Addr) (c d : Nat) (w : World)
  (s0 : w.cell? ⟨bc, oc, none⟩ = some (.string (bs n1))) (s1 : w.cell? ⟨bc, oc + 1, none⟩ = some (.string (bs n2))) (hT : TabIn w t A B c d) (hra : ∀ r ∈ t.rows, r.length = t.cols.length) (hnum : ∀ r ∈ t.rows, -1000000000 ≤ (r.getD m zV).num ∧ (r.getD m zV).num ≤ 1000000000) (hna : t.rows.length ≤ 100) :
  Calls Tryz.prog 71 #[.agg #[.int .i64 at_, .int .i64 code, .slice Ao no co, .slice Ai ni ci, .slice (some ⟨bc, oc, none⟩) 2 cc, .string (bs op), .string (bs lc), .int .i64 lk, .int .i64 ln, .string (bs lw), .string (bs rc), .int .i64 rk, .int .i64 rn, .string (bs rw'), .int .i64 retry], .agg #[.slice A t.cols.length c, .slice B t.rows.length d]] w fun e w' => ChgOut (grpO (groupsJ op k m (sortK t [n1]))) e w' ∧ Keeps [] w w' := by
 obtain ⟨ir, hir, hrz0, hrz1, hrz2⟩ := info_parts rinfo
 have HF1 : Hid (∀ W, Keeps [] w W → Calls Tryz.prog 66 #[.slice A t.cols.length c, .string (bs n1)] W fun e W' => e = .returned (.int .i64 (k : Int)) ∧ Keeps [] W W') := Lib.hid fun W q => by
  have h := find_any t.cols n1 A c W (hT.cols.keep q) hT.ln
  rw [hk] at h
  exact h
 have HF2 : Hid (∀ W, Keeps [] w W → Calls Tryz.prog 66 #[.slice A t.cols.length c, .string (bs n2)] W fun e W' => e = .returned (.int .i64 (m : Int)) ∧ Keeps [] W W') := Lib.hid fun W q => by
  have h := find_any t.cols n2 A c W (hT.cols.keep q) hT.ln
  rw [hm] at h
  exact h
 have hkl : k < t.cols.length := (List.findIdx?_eq_some_iff_getElem.1 hk).1
 have hml : m < t.cols.length := (List.findIdx?_eq_some_iff_getElem.1 hm).1
 have HKL := Lib.hid (And.intro hkl hml)
 have HST : Hid (∀ W, Keeps [] w W → Calls Tryz.prog 67 #[.agg #[.int .i64 0, .int .i64 0, .slice none 0 0, .slice none 0 0, .slice (some ⟨bc, oc, none⟩) 1 cc, .string ⟨#[]⟩, .string ⟨#[]⟩, .int .i64 0, .int .i64 0, .string ⟨#[]⟩, .string ⟨#[]⟩, .int .i64 0, .int .i64 0, .string ⟨#[]⟩, .int .i64 0], .agg #[.slice A t.cols.length c, .slice B t.rows.length d]] W fun e w' => (∃ v, e = .returned v ∧ RowsIs w' v (sortK t [n1])) ∧ Keeps [] W w') := Lib.hid fun W q =>
  sorted_any (⟨0, 0, [], [], [n1], [], ⟨[], zV⟩, ⟨[], zV⟩, 0⟩ : Jb) t none 0 none 0 0 (some ⟨bc, oc, none⟩) cc A B c d W (hT.quiet q) ⟨rfl, fun _ => ⟨_, rfl, by simp, Nat.lt_of_lt_of_le (World.block_lt_of_cell? _ _ s0) q.size, fun j u hu => by
   have hj : j = 0 := by
    have := (List.getElem?_eq_some_iff.1 hu).1
    simp [strs] at this
    omega
   subst hj
   rw [add_at, Nat.add_zero]
   have hu' : some (Value.string (bs n1)) = some u := hu
   exact (q.cell_of s0 (by simp)).trans hu'⟩⟩ (by simp) (fun n hn => by rw [List.mem_singleton.1 hn]; exact ⟨k, hk⟩) hra (by omega) 0
 have HRS : Hid (∀ r ∈ sortK t [n1], r.length = t.cols.length ∧ -1000000000 ≤ (r.getD m zV).num ∧ (r.getD m zV).num ≤ 1000000000) := Lib.hid fun r hr => by
  have hr' := (stS_perm _).mem_iff.1 hr
  exact ⟨hra r hr', hnum r hr'⟩
 have HRN : Hid ((sortK t [n1]).length ≤ 100) := Lib.hid (by unfold sortK; rw [stS_len]; exact hna)
 have HS0 := Lib.hid s0
 have HS1 := Lib.hid s1
 obtain ⟨w2, hw2⟩ : ∃ w2, ((w.alloc (.cells #[.int .i64 at_, .int .i64 code, .slice Ao no co, .slice Ai ni ci, .slice (some ⟨bc, oc, none⟩) 2 cc, .string (bs op), .string (bs lc), .int .i64 lk, .int .i64 ln, .string (bs lw), .string (bs rc), .int .i64 rk, .int .i64 rn, .string (bs rw'), .int .i64 retry] 36)).alloc (.cells #[.slice A t.cols.length c, .slice B t.rows.length d] 25)) = w2 := ⟨_, rfl⟩
 have HK0 : Hid (Keeps [] w w2) := Lib.hid (by rw [← hw2]; exact ((Keeps.refl _ _).alloc _).alloc _)
 have HBJ : Hid (Blk w2 w.heap.size 36 #[.int .i64 at_, .int .i64 code, .slice Ao no co, .slice Ai ni ci, .slice (some ⟨bc, oc, none⟩) 2 cc, .string (bs op), .string (bs lc), .int .i64 lk, .int .i64 ln, .string (bs lw), .string (bs rc), .int .i64 rk, .int .i64 rn, .string (bs rw'), .int .i64 retry]) := Lib.hid (by rw [← hw2]; exact (Blk.new _ _ _).alloc _)
 have HBA : Hid (Blk w2 (w.heap.size + 1) 25 #[.slice A t.cols.length c, .slice B t.rows.length d]) := Lib.hid (by
  rw [← hw2]
  have h := Blk.new (w.alloc (.cells #[.int .i64 at_, .int .i64 code, .slice Ao no co, .slice Ai ni ci, .slice (some ⟨bc, oc, none⟩) 2 cc, .string (bs op), .string (bs lc), .int .i64 lk, .int .i64 ln, .string (bs lw), .string (bs rc), .int .i64 rk, .int .i64 rn, .string (bs rw'), .int .i64 retry] 36)) 25 #[.slice A t.cols.length c, .slice B t.rows.length d]
  rw [size_alloc] at h
  exact h)
 have HW := Lib.hid hw2
 clear hT hra hw2 s0 s1 hnum hkl hml
 generalize sortK t [n1] = rs at *
 go_enter Tryz.func71, Tryz.ntmps71
 go_upto_region 1 with (fail)
 rw [HW.out]
 have y4 : w2.cell? ⟨w.heap.size, 4, none⟩ = some (.slice (some ⟨bc, oc, none⟩) 2 cc) := HBJ.out.cell 4
 have e0 := HK0.out.cell_of HS0.out (by simp)
 have e1 := HK0.out.cell_of HS1.out (by simp)
 have a0 : w2.cell? ⟨w.heap.size + 1, 0, none⟩ = some (.slice A t.cols.length c) := HBA.out.cell 0
 have hz1 : w.heap.size < w2.heap.size := HBJ.out.lt
 have hz2 : bc < w2.heap.size := World.block_lt_of_cell? _ _ e0
 have hz3 : w.heap.size + 1 < w2.heap.size := HBA.out.lt
 have HF1' := Lib.hid (fun W (q : Keeps [] w2 W) => HF1.out W (HK0.out.trans q))
 have HF2' := Lib.hid (fun W (q : Keeps [] w2 W) => HF2.out W (HK0.out.trans q))
 clear HF1 HF2 HW HS0 HS1
 generalize w.heap.size = bx at *
 refine wp_region_keeps (by kernel_rfl) (by kernel_rfl) ?_
 repeat (go_big_quiet_step (first | with_reducible exact KW.of HF1'.out _ | with_reducible exact KW.of HF2'.out _))
 refine wpQuiet_nil ?_
 intro wq hkq
 have HKQ := Lib.hid (HK0.out.trans hkq)
 have HBJ3 := Lib.hid (HBJ.out.keep hkq (by simp))
 have HBA3 := Lib.hid (HBA.out.keep hkq (by simp))
 clear hkq y4 e0 e1 a0 hz1 hz2 hz3 HF1' HF2' HBJ HBA HK0
 have y4 : wq.cell? ⟨bx, 4, none⟩ = some (.slice (some ⟨bc, oc, none⟩) 2 cc) := HBJ3.out.cell 4
 have a0 : wq.cell? ⟨bx + 1, 0, none⟩ = some (.slice A t.cols.length c) := HBA3.out.cell 0
 have a1 : wq.cell? ⟨bx + 1, 1, none⟩ = some (.slice B t.rows.length d) := HBA3.out.cell 1
 have hz1 : bx < wq.heap.size := HBJ3.out.lt
 have hz3 : bx + 1 < wq.heap.size := HBA3.out.lt
 have hsl : ∀ W, (Instr.slice 30 (.slice (some ⟨bc, oc, none⟩) 2 cc) none (some (.int .i64 1)) none).run Tryz.prog W = .ok (.slice (some ⟨bc, oc, none⟩) 1 cc) W := slice_toS (some ⟨bc, oc, none⟩) 2 cc 1 (by omega)
 go_upto_region 3 with (fail)
 go_cut [33, 34, 35] (fun v l j wx => ∃ Ar cr, v = .slice Ar rs.length cr ∧ l = .int .i64 rs.length ∧ j = .int .i64 0 ∧ Hid (RdRows wx [] Ar rs) ∧ Hid (Keeps [] wq wx))
 case first =>
  go_region_law ((go_simp; go_at_call 67; refine (HST.out _ HKQ.out.drew).mono ?_; rintro e w3 ⟨⟨v0, rfl, hv0⟩, hk3⟩; obtain ⟨Ar, cr, rfl, hcr, hrr⟩ := hv0))
  all_goals
   go_wp2
   go_meet
   case rel => exact ⟨Ar, cr, rfl, rfl, rfl, Lib.hid hrr, Lib.hid (Keeps.of_drew hk3)⟩
 case rest =>
  obtain ⟨Ar, cr, rfl, rfl, rfl, HRR, HKW⟩ := hcut
  obtain ⟨w3, rfl⟩ : ∃ z : World, z = wc := ⟨_, rfl⟩
  clear y4 a0 a1 hz1 hz3 hsl HST
  have HBJ4 := Lib.hid (HBJ3.out.keep HKW.out (by simp))
  have HK3 := Lib.hid (HKQ.out.trans HKW.out)
  clear HBJ3 HBA3 HKQ HKW
  go_wp2_with fail
  go_loopw [8, 35] (fun u i wx => ∃ (n : Nat) (v : Value), v = u ∧ n ≤ rs.length ∧ i = .int .i64 n ∧ Hid (Grp w3.heap.size wx v (groupsJ op k m (rs.take n))) ∧ Hid (GrpB n (groupsJ op k m (rs.take n))) ∧ Hid (Keeps [] w3 wx)) (fun _ i _ => rs.length - (intOf i).toNat)
  case atStart => exact ⟨0, _, rfl, Nat.zero_le _, rfl, Lib.hid (Grp.nil _ _), Lib.hid (fun p hp => by cases hp), Lib.hid (Keeps.refl _ _)⟩
  case round =>
   obtain ⟨n, v, rfl, hn, rfl, HG, HB, HK⟩ := hrel
   obtain ⟨y, rfl⟩ : ∃ z : World, z = wr := ⟨_, rfl⟩
   by_cases hlt : n < rs.length
   ·have hrn := HRN.out
    obtain ⟨us, hul, hur, hui⟩ := HRR.out
    have hux : n < us.length := by omega
    have hrw := hui n hux hlt
    obtain ⟨b7, o7, hBe, _, hb7, hcs⟩ := hur.open' (by omega) (by omega)
    subst hBe
    have d7 := hcs (n * 1) us[n] (by rw [Nat.mul_one]; exact List.getElem?_eq_getElem hux)
    rw [Nat.mul_one] at d7
    have HSN : Hid (groupsJ op k m (rs.take (n + 1)) = grpStep op k m (groupsJ op k m (rs.take n)) rs[n]) := Lib.hid (by
     rw [List.take_succ_eq_append_getElem hlt]
     unfold groupsJ
     rw [List.foldl_append]
     rfl)
    have hrr := HRS.out _ (List.getElem_mem hlt)
    have hgl : (groupsJ op k m (rs.take n)).length ≤ 100 := by
     have := grpJ_len op k m (rs.take n)
     rw [List.length_take] at this
     omega
    generalize rs[n] = x at *
    obtain ⟨Ax, cx, hu, hcx, hxd⟩ := hrw
    rw [hu] at d7
    have hkl := HKL.out
    obtain ⟨bX, oX, rfl, _, hbX, hxc⟩ := hxd.open' (by omega) (by omega)
    have hkx : k < x.length := by omega
    have hmx : m < x.length := by omega
    obtain ⟨x0, x1, x2⟩ := vsCells_at x k hkx
    obtain ⟨x3, x4, x5⟩ := vsCells_at x m hmx
    have f0 := HK.out.cell_of (hxc _ _ x0) (by simp)
    have f1 := HK.out.cell_of (hxc _ _ x1) (by simp)
    have f2 := HK.out.cell_of (hxc _ _ x2) (by simp)
    have f3 := HK.out.cell_of (hxc _ _ x3) (by simp)
    have f4 := HK.out.cell_of (hxc _ _ x4) (by simp)
    have f5 := HK.out.cell_of (hxc _ _ x5) (by simp)
    rw [← Nat.add_assoc] at f1 f2 f4 f5
    have hgk : x.getD k zV = x[k] := by rw [List.getD_eq_getElem?_getD, List.getElem?_eq_getElem hkx]; rfl
    have hgm : x.getD m zV = x[m] := by rw [List.getD_eq_getElem?_getD, List.getElem?_eq_getElem hmx]; rfl
    unfold grpStep at HSN
    rw [hgk, hgm] at HSN
    rw [hgm] at hrr
    generalize x[k] = vx at *
    generalize x[m] = vm at *
    obtain ⟨vxk, vxn, vxw⟩ := vx
    obtain ⟨vmk, vmn, vmw⟩ := vm
    have HNM := Lib.hid hrr.2
    have d8 := HK.out.cell_of d7 (by simp)
    have hbX' := Nat.lt_of_lt_of_le hbX HK.out.size
    have hi1 : (0 : Int) ≤ (k : Int) := by omega
    have hi2 : (k : Int) < (x.length : Int) := by omega
    have hi3 : (0 : Int) ≤ (m : Int) := by omega
    have hi4 : (m : Int) < (x.length : Int) := by omega
    have y5 : y.cell? ⟨bx, 5, none⟩ = some (.string (bs op)) := (HBJ4.out.keep HK.out (by simp)).cell 5
    clear d7 hcs hul hur hui hu hxd x0 x1 x2 x3 x4 x5 hxc hgk hgm hkl hrr
    obtain ⟨GS, hGS⟩ : ∃ G, groupsJ op k m (rs.take n) = G := ⟨_, rfl⟩
    rw [hGS] at HG HB HSN hgl
    clear hGS
    obtain ⟨BR, hBR⟩ : ∃ B, (match GS.getLast? with | none => true | some z => !decide (z.1 = (⟨vxk, vxn, vxw⟩ : Vl))) = B := ⟨_, rfl⟩
    have HBR := Lib.hid hBR
    have hform : ∃ A c, v = .slice A GS.length c := by
     obtain ⟨_, _, _, hG3, _⟩ := HG.out
     obtain ⟨A, c, e, _⟩ := own_form hG3
     exact ⟨A, c, e⟩
    obtain ⟨A8, c8, rfl⟩ := hform
    obtain ⟨N, hN⟩ : ∃ N, GS.length = N := ⟨_, rfl⟩
    rw [hN] at HG hgl
    have HN := Lib.hid hN
    rw [hN]
    clear hBR hN
    have hwN : IntKind.i64.wrap ((N : Int) - 1) = (N : Int) - 1 := by simp [IntKind.wrap, IntKind.bits, IntKind.signed]; omega
    go_upto_region 8 with (fail)
    clear d8
    go_cut [61] from 39 to 108 (fun b wx => b = .bool BR ∧ Hid (Keeps [] y wx))
    case first =>
     rcases List.eq_nil_or_concat GS with h0 | ⟨init, z, h0⟩
     ·have hbt : BR = true := by rw [← HBR.out, h0]; rfl
      have hN0 : (N : Int) - 1 < 0 := by have := HN.out; rw [h0] at this; simp at this; omega
      clear HG HB HBR HSN h0 y5 HN hwN
      generalize (N : Int) - 1 = N1 at *
      refine wp_region_keeps (by kernel_rfl) (by kernel_rfl) ?_
      repeat (go_big_quiet_step (fail))
      refine wpQuiet_nil ?_
      intro w5 hk5
      go_wp2
      go_meet
      exact ⟨by rw [hbt], Lib.hid hk5⟩
     ·rw [List.concat_eq_append] at h0
      subst h0
      obtain ⟨gv, cap, gl, hv, hgv, hgl', hcell, hbl, _⟩ := HG.out.last
      have hNl : N = init.length + 1 := by rw [← HN.out]; simp
      injection hv with hA8 hx8 hc8
      clear hx8
      subst hA8 hc8
      obtain ⟨⟨zk, zn, zw⟩, zs⟩ := z
      have z0 : y.cell? ⟨gl, 0, none⟩ = some (.int .i64 zk) := hbl.cell 0
      have z1 : y.cell? ⟨gl, 1, none⟩ = some (.int .i64 zn) := hbl.cell 1
      have z2 : y.cell? ⟨gl, 2, none⟩ = some (.string (bs zw)) := hbl.cell 2
      have hgll : gl < y.heap.size := hbl.lt
      have hcell' : y.cell? ⟨gv, init.length, none⟩ = some (.slice (some ⟨gl, 0, none⟩) 2 2) := hcell
      have hNN : (N : Int) - 1 = (init.length : Int) := by omega
      have hneq := vNeq ⟨zk, zn, zw⟩ ⟨vxk, vxn, vxw⟩
      have hbv : (!decide ((⟨zk, zn, zw⟩ : Vl) = ⟨vxk, vxn, vxw⟩)) = BR := by
       rw [← HBR.out, List.getLast?_concat]
      rw [hbv] at hneq
      simp only at hneq
      have hl1 : (0 : Int) ≤ (init.length : Int) := by omega
      have hl2 : (init.length : Int) < (N : Int) := by omega
      have hl3 : ((init.length : Int) < 0) = False := eq_false (by omega)
      clear HG HB HBR HSN y5 HN hwN hNl hbl hcell hbv
      generalize (N : Int) - 1 = q at *
      subst hNN
      generalize init.length = L at *
      refine wp_region_keeps (by kernel_rfl) (by kernel_rfl) ?_
      repeat (go_big_quiet_step (fail))
      refine wpQuiet_nil ?_
      intro w5 hk5
      go_wp2
      go_meet
      exact ⟨rfl, Lib.hid hk5⟩
    case rest =>
     obtain ⟨rfl, HKU⟩ := hcut
     obtain ⟨u, rfl⟩ : ∃ z : World, z = wc := ⟨_, rfl⟩
     have f0 := HKU.out.cell_of f0 (by simp)
     have f1 := HKU.out.cell_of f1 (by simp)
     have f2 := HKU.out.cell_of f2 (by simp)
     have f3 := HKU.out.cell_of f3 (by simp)
     have f4 := HKU.out.cell_of f4 (by simp)
     have f5 := HKU.out.cell_of f5 (by simp)
     have hbXu := Nat.lt_of_lt_of_le hbX' HKU.out.size
     have y5u := HKU.out.cell_of y5 (by simp)
     have HGU := Lib.hid (HG.out.keep HKU.out)
     have HKK := Lib.hid (HK.out.trans HKU.out)
     clear HG HK HKU y5 hbX'
     cases hBRc : BR with
     | true =>
      have HSN2 : Hid (groupsJ op k m (rs.take (n + 1)) = GS ++ [((⟨vxk, vxn, vxw⟩ : Vl), (⟨vmk, vmn, vmw⟩ : Vl))]) := Lib.hid (by
       have h1 := HSN.out
       have h2 := HBR.out
       rw [hBRc] at h2
       cases hgl : GS.getLast? with
       | none => rw [hgl] at h1; exact h1
       | some z =>
        rw [hgl] at h1 h2
        simp only at h1 h2
        rw [if_neg (by simpa using h2)] at h1
        exact h1)
      have HBN : Hid (GrpB (n + 1) (groupsJ op k m (rs.take (n + 1)))) := Lib.hid (by
       rw [HSN2.out]
       have := HNM.out
       exact HB.out.add (by simp only at this ⊢; omega))
      subst hBRc
      have hbd := Lib.hid (show N + 1 ≤ maxLen ∧ (N + 1) * 24 ≤ 140737488355328 by simp only [maxLen]; omega)
      obtain ⟨Gl, hG1, hG2, hG3, hG4⟩ := HGU.out
      have HO : Hid (u.ownsRow w3.heap.size 41 1 (.slice A8 N c8) N (Gl.map gV)) := Lib.hid (by rw [← HN.out] at hG3 ⊢; exact hG3)
      have HG1 := Lib.hid hG1
      have HG2 := Lib.hid hG2
      have HG4 := Lib.hid hG4
      have HSZ3 := Lib.hid HKK.out.size
      clear hG1 hG2 hG3 hG4 HB HSN HBR y5u HNM
      have hnb : ∀ A B, ((u.alloc A).alloc B).heap[u.heap.size + 1]? = some B := fun A B => by
       have h := heap_alloc_new (u.alloc A) B
       rwa [size_alloc] at h
      go_upto_region 9 with (fail)
      go_region_law ((refine step_append_lies _ (by rfl) _ _ _ (by rfl) w3.heap.size 41 ir _ 1 24 Tryz.underlying23 hir hrz0 hrz1 hrz2 rfl (by decide) (.slice A8 N c8) N (Gl.map gV) (by rfl) (((HO.out.alloc _).alloc _)) ⟨u.heap.size + 1, 0, none⟩ 1 1 [.slice (some ⟨u.heap.size, 0, none⟩) 2 2] (by rfl) rfl (World.news_of_block (hnb _ _)) (by simp [Value.oneCell']) (by decide) hbd.out.1 hbd.out.2 (by have := HSZ3.out; simp; omega) _ rfl ?_; intro gw cap2 w8 hown8 hgrow8 hat8 hlt8))
      all_goals
       have HK8 := Lib.hid (((HKK.out.alloc (.cells (gCells ((⟨vxk, vxn, vxw⟩ : Vl), (⟨vmk, vmn, vmw⟩ : Vl))) 32)).alloc (.cells #[.slice (some ⟨u.heap.size, 0, none⟩) 2 2] 41)).drew.grown hgrow8 (fun g hg => .inr (HO.out.lt g hg).1))
       have HGN : Hid (Grp w3.heap.size w8 (.slice (some ⟨gw, 0, none⟩) (N + 1) cap2) (groupsJ op k m (rs.take (n + 1)))) := Lib.hid (by
        rw [HSN2.out]
        have h := Grp.snoc (base := w3.heap.size) (y := u) (W := w8) (v := .slice A8 N c8) (gs := GS) (p := ((⟨vxk, vxn, vxw⟩ : Vl), (⟨vmk, vmn, vmw⟩ : Vl))) (G := Gl) (bn := u.heap.size) (gw := gw) (cap := cap2) HG1.out HG2.out HG4.out (by rw [HN.out]; exact ((HO.out.alloc (.cells (gCells ((⟨vxk, vxn, vxw⟩ : Vl), (⟨vmk, vmn, vmw⟩ : Vl))) 32)).alloc (.cells #[.slice (some ⟨u.heap.size, 0, none⟩) 2 2] 41)).drew) (((Keeps.refl [] u).alloc _).alloc _).drew (Nat.le_refl _) HSZ3.out ((Blk.new _ _ _).alloc _).drew hgrow8 (by rw [HN.out]; exact hown8)
        rw [HN.out] at h
        exact h)
       clear hown8 hgrow8 hat8 hlt8
       go_wp2
       go_roundw
       case rel => exact ⟨n + 1, _, rfl, by omega, by go_num, HGN, HBN, HK8⟩
       case measure => simp [intOf]; omega
     | false =>
      have hlast : ∃ init z, GS = init ++ [z] ∧ z.1 = (⟨vxk, vxn, vxw⟩ : Vl) := by
       have h2 := HBR.out
       rw [hBRc] at h2
       cases hgl : GS.getLast? with
       | none => rw [hgl] at h2; cases h2
       | some z =>
        rw [hgl] at h2
        obtain ⟨ys, hys⟩ := List.getLast?_eq_some_iff.1 hgl
        exact ⟨ys, z, hys, by simpa using h2⟩
      obtain ⟨init, z, hGS, hz1⟩ := hlast
      subst hBRc
      have HSN2 : Hid (groupsJ op k m (rs.take (n + 1)) = init ++ [(z.1, grpAdd op z.2 (⟨vmk, vmn, vmw⟩ : Vl))]) := Lib.hid (by
       have h1 := HSN.out
       rw [hGS, List.getLast?_concat] at h1
       simp only at h1
       rw [if_pos hz1, List.dropLast_concat] at h1
       exact h1)
      subst hGS
      obtain ⟨gv, cap, gl, hv, hgv, hgl', hcell, hbl, hset⟩ := HGU.out.last
      have hNl : N = init.length + 1 := by rw [← HN.out]; simp
      injection hv with hA8 hx8 hc8
      clear hx8
      subst hA8 hc8
      obtain ⟨z1, ⟨zk, zn, zw⟩⟩ := z
      have hzb := HB.out (z1, ⟨zk, zn, zw⟩) (by simp)
      have hvb := HNM.out
      simp only at hzb hvb
      have hn100 : n ≤ 100 := by omega
      have HBI : Hid (GrpB n init) := Lib.hid fun p hp => HB.out p (by simp [hp])
      have z4 : u.cell? ⟨gl, 4, none⟩ = some (.int .i64 zn) := hbl.cell 4
      have z5 : u.frozen? ⟨gl, 4, none⟩ = false := hbl.frozen 4
      have hgll : gl < u.heap.size := hbl.lt
      have hcell' : u.cell? ⟨gv, init.length, none⟩ = some (.slice (some ⟨gl, 0, none⟩) 2 2) := hcell
      have hNN : (N : Int) - 1 = (init.length : Int) := by omega
      have hl1 : (0 : Int) ≤ (init.length : Int) := by omega
      have hl2 : (init.length : Int) < (N : Int) := by omega
      have HSET := Lib.hid hset
      have hwS : IntKind.i64.wrap (zn + vmn) = zn + vmn := by simp [IntKind.wrap, IntKind.bits, IntKind.signed]; omega
      have HBS : Hid (GrpB (n + 1) (init ++ [(z1, (⟨zk, zn + vmn, zw⟩ : Vl))])) := Lib.hid (HBI.out.add (by simp only; omega))
      have HBM : Hid (GrpB (n + 1) (init ++ [(z1, (⟨zk, max zn vmn, zw⟩ : Vl))])) := Lib.hid (HBI.out.add (by simp only; omega))
      clear HGU HB HBR HSN HN hwN hNl hbl hcell hset hz1 hzb hvb HNM HBI
      generalize (N : Int) - 1 = q at *
      subst hNN
      by_cases hop : op = sumOp
      ·have HSN3 : Hid (groupsJ op k m (rs.take (n + 1)) = init ++ [(z1, (⟨zk, zn + vmn, zw⟩ : Vl))]) := Lib.hid (by
        rw [HSN2.out]
        unfold grpAdd
        rw [if_pos hop])
       have t1 : (op == [115, 117, 109]) = true := by rw [hop]; rfl
       clear HSN2 hop
       go_upto_region 11 with (fail)
       generalize init.length = L at *
       refine wp_region_still_tail 15 (by kernel_rfl) (by kernel_rfl) ?_
       simp only [List.take_succ_cons, List.take_zero, List.drop_succ_cons, List.drop_zero]
       repeat still_step
       refine wpStill_nil ?_
       go_wp2
       go_roundw
       case rel => exact ⟨n + 1, _, rfl, by omega, by go_num, Lib.hid (by rw [HSN3.out]; exact HSET.out _), Lib.hid (by rw [HSN3.out]; exact HBS.out), Lib.hid (HKK.out.drew.setCell (.inr hgl') _)⟩
       case measure => simp [intOf]; omega
      ·have HSN3 : Hid (groupsJ op k m (rs.take (n + 1)) = init ++ [(z1, (⟨zk, max zn vmn, zw⟩ : Vl))]) := Lib.hid (by
        rw [HSN2.out]
        unfold grpAdd
        rw [if_neg hop])
       have t1 : (op == [115, 117, 109]) = false := by simpa [sumOp] using hop
       clear HSN2 hop
       go_upto_region 7 with (fail)
       generalize init.length = L at *
       refine wp_region_still_tail 19 (by kernel_rfl) (by kernel_rfl) ?_
       simp only [List.take_succ_cons, List.take_zero, List.drop_succ_cons, List.drop_zero]
       repeat still_step
       refine wpStill_nil ?_
       go_wp2
       go_roundw
       case rel => exact ⟨n + 1, _, rfl, by omega, by go_num, Lib.hid (by rw [HSN3.out]; exact HSET.out _), Lib.hid (by rw [HSN3.out]; exact HBM.out), Lib.hid (HKK.out.drew.setCell (.inr hgl') _)⟩
       case measure => simp [intOf]; omega
   ·obtain rfl : n = rs.length := by omega
    have HGY : Hid (Grp w3.heap.size y v (groupsJ op k m rs)) := Lib.hid (by have h := HG.out; rw [List.take_length] at h; exact h)
    have hGLN : (groupsJ op k m rs).length ≤ 100 := Nat.le_trans (grpJ_len op k m rs) HRN.out
    have HKY := Lib.hid (HK3.out.trans HK.out)
    clear HG HB HK HK3 HRR HRS HRN HBJ4
    obtain ⟨GS, hGS⟩ : ∃ G, groupsJ op k m rs = G := ⟨_, rfl⟩
    rw [hGS] at HGY hGLN
    have HGS := Lib.hid hGS
    clear hGS
    have hform : ∃ A c, v = .slice A GS.length c := by
     obtain ⟨_, _, _, hG3, _⟩ := HGY.out
     obtain ⟨A, c, e, _⟩ := own_form hG3
     exact ⟨A, c, e⟩
    obtain ⟨A8, c8, rfl⟩ := hform
    obtain ⟨N, hN⟩ : ∃ N, GS.length = N := ⟨_, rfl⟩
    rw [hN] at HGY hGLN
    have HN := Lib.hid hN
    rw [hN]
    clear hN
    go_wp2_with fail
    go_loopw [111] (fun i wx => ∃ q : Nat, q ≤ N ∧ i = .int .i64 q ∧ Hid (∀ j (h : j < q) (h' : j < GS.length), rvB GS[j].2 = true) ∧ Hid (Keeps [] y wx)) (fun i _ => N - (intOf i).toNat)
    case atStart => exact ⟨0, Nat.zero_le _, rfl, Lib.hid (fun j h => absurd h (by omega)), Lib.hid (Keeps.refl _ _)⟩
    case round =>
     obtain ⟨q, hq, rfl, HV, HKq⟩ := hrel
     obtain ⟨u, rfl⟩ : ∃ z : World, z = wr := ⟨_, rfl⟩
     by_cases hqn : q < N
     ·have hqg : q < GS.length := by rw [HN.out]; exact hqn
      obtain ⟨Gl, hG1, hG2, hG3, hG4⟩ := (HGY.out.keep HKq.out)
      have hqG : q < Gl.length := by rw [hG1]; exact hqg
      obtain ⟨_, hbl⟩ := hG4 q hqG hqg
      obtain ⟨A', c', e', hgf⟩ := own_form hG3
      injection e' with e1 e2 e3
      clear e2
      subst e1 e3
      obtain ⟨g8, rfl, hg8, hcell⟩ := hgf (by omega)
      have d8 : u.cell? ⟨g8, q, none⟩ = some (.slice (some ⟨Gl[q], 0, none⟩) 2 2) := hcell q _ (by rw [List.getElem?_map, List.getElem?_eq_getElem hqG]; rfl)
      have HVN : Hid (rvB GS[q].2 = true → ∀ j (h : j < q + 1) (h' : j < GS.length), rvB GS[j].2 = true) := Lib.hid fun h j hj hj' => by
       by_cases hjq : j < q
       ·exact HV.out j hjq hj'
       ·obtain rfl : j = q := by omega
        exact h
      have HVF : Hid (rvB GS[q].2 = false → grpO GS = none) := Lib.hid fun h => by
       unfold grpO
       rw [if_pos (List.any_eq_true.2 ⟨GS[q], List.getElem_mem hqg, by rw [h]; rfl⟩)]
      generalize Gl[q] = gq at *
      generalize GS[q] = pq at *
      obtain ⟨p1, ⟨pk, pn, pw⟩⟩ := pq
      have z3 : u.cell? ⟨gq, 3, none⟩ = some (.int .i64 pk) := hbl.cell 3
      have z4 : u.cell? ⟨gq, 4, none⟩ = some (.int .i64 pn) := hbl.cell 4
      have z5 : u.cell? ⟨gq, 5, none⟩ = some (.string (bs pw)) := hbl.cell 5
      have hgq : gq < u.heap.size := hbl.lt
      have HRV : Hid (Calls Tryz.prog 56 #[.agg #[.int .i64 pk, .int .i64 pn, .string (bs pw)]] u fun e w' => e = .returned (.bool (rvB ⟨pk, pn, pw⟩)) ∧ Keeps [] u w') := Lib.hid (rightValue_any ⟨pk, pn, pw⟩ u)
      have hi1 : (0 : Int) ≤ (q : Int) := by omega
      have hi2 : (q : Int) < (N : Int) := by omega
      simp only at HVN HVF
      clear hG1 hG2 hG3 hG4 hbl hgf hcell HV
      cases hrv : rvB (⟨pk, pn, pw⟩ : Vl) with
      | true =>
       rw [hrv] at HRV
       have HV2 := Lib.hid (HVN.out hrv)
       clear HVN HVF hrv
       go_wp2_with fail
       refine HRV.out.mono ?_
       rintro e w5 ⟨rfl, hk5⟩
       have HK5 := Lib.hid (HKq.out.trans hk5)
       clear hk5
       go_wp2
       go_roundw
       case rel => exact ⟨q + 1, by omega, by go_num, HV2, HK5⟩
       case measure => simp [intOf]; omega
      | false =>
       rw [hrv] at HRV
       have HF := Lib.hid (HVF.out hrv)
       clear HVN HVF hrv
       go_wp2_with fail
       refine HRV.out.mono ?_
       rintro e w5 ⟨rfl, hk5⟩
       go_wp2
       go_ret2
       exact ⟨by rw [HGS.out, HF.out]; rfl, (HKY.out.trans HKq.out).trans hk5⟩
     ·obtain rfl : q = N := by omega
      have HF : Hid (grpO GS = some (grpRows GS)) := Lib.hid (by
       unfold grpO
       rw [if_neg]
       intro h
       obtain ⟨p, hp, hf⟩ := List.any_eq_true.1 h
       obtain ⟨i, hi, rfl⟩ := List.getElem_of_mem hp
       rw [HV.out i (by rw [← HN.out]; exact hi) hi] at hf
       cases hf)
      have HRI := Lib.hid (HGY.out.keep HKq.out).rows
      have HKF := Lib.hid (HKY.out.trans HKq.out)
      go_wp2
      go_ret2
      exact ⟨by rw [HGS.out, HF.out]; exact ⟨_, rfl, tabs_one HRI.out _⟩, HKF.out.alloc _⟩
end Go.Proofs.YtpfkjejknlkkoaaGreatDoor
namespace Go.Proofs.YtpfkjejknlkkoaaGreatDoor
open Go.RowKit Go.BigFrame
attribute [local go_sem] bs_size bs_extract bs_append bs_toList
def optE (R : Option (List (List Vl))) : Except Int (List (List (List Vl))) := match R with
 | none => .error 2
 | some l => .ok [l]
theorem changed_any (j : Jb) (t : Tb) (k : Nat) (nm : Bs) (A B : Option Addr) (c d : Nat) (Ao : Option Addr) (co : Nat) (Ai : Option Addr) (ni ci : Nat) (Ac : Option Addr) (cc : Nat) (w : World) (hT : TabIn w t A B c d) (hcols : j.cols = [nm]) (hk : colIx t.cols nm = some k) (hcR : Rd w [] 1 Ac 1 (strs [nm]))
  (hrl : ∀ r ∈ t.rows, r.length = t.cols.length) (hal : ∀ r ∈ t.rows, argOk j.left t.cols r) (har : ∀ r ∈ t.rows, argOk j.right t.cols r)
  (hxl : ∀ r ∈ t.rows, -1000000000 ≤ (argV j.left t.cols r).num ∧ (argV j.left t.cols r).num ≤ 1000000000) (hxr : ∀ r ∈ t.rows, -1000000000 ≤ (argV j.right t.cols r).num ∧ (argV j.right t.cols r).num ≤ 1000000000) :
  Calls Tryz.prog 65 #[jAgg j Ao co Ai ni ci Ac cc, .agg #[.slice A t.cols.length c, .slice B t.rows.length d]] w fun e w' => ChgOut (changeGo j t t.rows []) e w' ∧ Keeps [] w w' := by
 by_cases h1 : j.op = [43]
 ·exact changed_add j t k nm A B c d Ao co Ai ni ci Ac cc w hT hcols hk hcR hrl hal har hxl hxr h1
 ·by_cases h2 : j.op = [45]
  ·exact changed_sub j t k nm A B c d Ao co Ai ni ci Ac cc w hT hcols hk hcR hrl hal har hxl hxr h2
  ·exact changed_mul j t k nm A B c d Ao co Ai ni ci Ac cc w hT hcols hk hcR hrl hal har hxl hxr h1 h2
set_option maxHeartbeats 4000000 in
set_option maxRecDepth 40000 in
theorem made_2 (t : Tb) (OA : Option Addr) (no od : Nat) (b o : Nat) (nt ct : Nat) (A B : Option Addr) (c d : Nat) (hnt : 1 ≤ nt) (at_ retry lk ln rk rn : Int) (outs cols : List Bs) (op lc lw rc rw' : Bs) (Ao : Option Addr) (co : Nat) (Ai : Option Addr) (ni ci : Nat) (Ac : Option Addr) (cc : Nat) (w : World)
  (hd0 : w.cell? ⟨b, o, none⟩ = some (.slice A t.cols.length c)) (hd1 : w.cell? ⟨b, o + 1, none⟩ = some (.slice B t.rows.length d)) (hT : TabIn w t A B c d) (R : Option (List (List Vl)))
  (hch : ∀ W, Keeps [] w W → Calls Tryz.prog 65 #[.agg #[.int .i64 at_, .int .i64 2, .slice Ao outs.length co, .slice Ai ni ci, .slice Ac cols.length cc, .string (bs op), .string (bs lc), .int .i64 lk, .int .i64 ln, .string (bs lw), .string (bs rc), .int .i64 rk, .int .i64 rn, .string (bs rw'), .int .i64 retry], .agg #[.slice A t.cols.length c, .slice B t.rows.length d]] W fun e w' => ChgOut R e w' ∧ Keeps [] W w') :
  Calls Tryz.prog 45 #[.agg #[.int .i64 at_, .int .i64 2, .slice Ao outs.length co, .slice Ai ni ci, .slice Ac cols.length cc, .string (bs op), .string (bs lc), .int .i64 lk, .int .i64 ln, .string (bs lw), .string (bs rc), .int .i64 rk, .int .i64 rn, .string (bs rw'), .int .i64 retry], .slice (some ⟨b, o, none⟩) nt ct, .slice OA no od] w fun e w' => MadeOut (optE R) e w' ∧ Keeps [] w w' := by
 have hi1 : (0 : Int) < (nt : Int) := by omega
 have HT := Lib.hid hT
 have hz0 : b < w.heap.size := World.block_lt_of_cell? _ _ hd0
 have HK0 : Hid (Keeps [] w ((w.alloc (.cells #[.int .i64 at_, .int .i64 2, .slice Ao outs.length co, .slice Ai ni ci, .slice Ac cols.length cc, .string (bs op), .string (bs lc), .int .i64 lk, .int .i64 ln, .string (bs lw), .string (bs rc), .int .i64 rk, .int .i64 rn, .string (bs rw'), .int .i64 retry] 36)).alloc (.cells #[.slice A t.cols.length c, .slice B t.rows.length d] 25))) := Lib.hid (((Keeps.refl _ _).alloc _).alloc _)
 have HBX := Lib.hid (Blk.alloc (Blk.new w 36 #[.int .i64 at_, .int .i64 2, .slice Ao outs.length co, .slice Ai ni ci, .slice Ac cols.length cc, .string (bs op), .string (bs lc), .int .i64 lk, .int .i64 ln, .string (bs lw), .string (bs rc), .int .i64 rk, .int .i64 rn, .string (bs rw'), .int .i64 retry]) (.cells #[.slice A t.cols.length c, .slice B t.rows.length d] 25))
 have HBT := Lib.hid (Blk.new (w.alloc (.cells #[.int .i64 at_, .int .i64 2, .slice Ao outs.length co, .slice Ai ni ci, .slice Ac cols.length cc, .string (bs op), .string (bs lc), .int .i64 lk, .int .i64 ln, .string (bs lw), .string (bs rc), .int .i64 rk, .int .i64 rn, .string (bs rw'), .int .i64 retry] 36)) 25 #[.slice A t.cols.length c, .slice B t.rows.length d])
 rw [size_alloc] at HBT
 have HCH := Lib.hid hch
 clear hch hT
 cases R with
 | none =>
  have HC : Hid (∀ W, Keeps [] w W → Calls Tryz.prog 65 #[.agg #[.int .i64 at_, .int .i64 2, .slice Ao outs.length co, .slice Ai ni ci, .slice Ac cols.length cc, .string (bs op), .string (bs lc), .int .i64 lk, .int .i64 ln, .string (bs lw), .string (bs rc), .int .i64 rk, .int .i64 rn, .string (bs rw'), .int .i64 retry], .agg #[.slice A t.cols.length c, .slice B t.rows.length d]] W fun e w' => e = .returned (.tuple #[.slice none 0 0, .iface 71 (.int .i64 2)]) ∧ Keeps [] W w') := HCH
  clear HCH
  go_enter Tryz.func45, Tryz.ntmps45
  go_wp2_with fail
  refine (HC.out _ HK0.out).mono ?_
  rintro e w5 ⟨rfl, hk5⟩
  go_wp2
  go_ret2
  exact ⟨rfl, HK0.out.trans hk5⟩
 | some l =>
  have HC : Hid (∀ W, Keeps [] w W → Calls Tryz.prog 65 #[.agg #[.int .i64 at_, .int .i64 2, .slice Ao outs.length co, .slice Ai ni ci, .slice Ac cols.length cc, .string (bs op), .string (bs lc), .int .i64 lk, .int .i64 ln, .string (bs lw), .string (bs rc), .int .i64 rk, .int .i64 rn, .string (bs rw'), .int .i64 retry], .agg #[.slice A t.cols.length c, .slice B t.rows.length d]] W fun e w' => (∃ g, e = .returned (.tuple #[.slice (some ⟨g, 0, none⟩) 1 1, .nilIface]) ∧ RdTabs w' (some ⟨g, 0, none⟩) [l]) ∧ Keeps [] W w') := HCH
  clear HCH
  go_enter Tryz.func45, Tryz.ntmps45
  go_wp2_with fail
  refine (HC.out _ HK0.out).mono ?_
  rintro e w5 ⟨⟨g, rfl, hr⟩, hk5⟩
  go_wp2
  go_ret2
  exact ⟨⟨_, 1, rfl, Nat.le_refl _, hr⟩, HK0.out.trans hk5⟩
end Go.Proofs.YtpfkjejknlkkoaaGreatDoor
