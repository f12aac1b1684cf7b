/- Jobs as plain data: the laws. No program in sight. ops.Do at Filter and Split, whole. one at Filter. -/
import Derived.Test.YtomgnjgaafnkiaaGreatDoorOncM2
import Derived.Test.YtomgnjgaafnkiaaGreatDoorOncM13
namespace Go.Proofs.YtomgnjgaafnkiaaGreatDoor
/-! ### Words -/
theorem do_ok {j : Jb} {ins : List Tb} {l : List Tb} : doJ j ins = .ok l ↔ (∀ t ∈ ins, rightB t = true) ∧ ∃ out rows, colsJ j (ins.map (·.cols)) = .ok out ∧ madeJ j ins out = .ok rows ∧ tabsJ out rows = .ok l := by
  unfold doJ
  by_cases h : (ins.any fun t => !rightB t) = true
  · rw [if_pos h]
    constructor
    · intro h2; cases h2
    · rintro ⟨h2, _⟩
      rw [List.any_eq_true] at h
      obtain ⟨t, ht, hn⟩ := h
      rw [h2 t ht] at hn
      cases hn
  · rw [if_neg h]
    have hr : ∀ t ∈ ins, rightB t = true := fun t ht => by
      refine Classical.byContradiction fun hc => h (List.any_eq_true.2 ⟨t, ht, ?_⟩)
      simpa using hc
    cases hc : colsJ j (ins.map (·.cols)) with
    | error e =>
      simp only
      constructor
      · intro h2; cases h2
      · rintro ⟨_, out, rows, h3, _⟩; cases h3
    | ok out =>
      cases hm : madeJ j ins out with
      | error e =>
        simp only [hm]
        constructor
        · intro h2; cases h2
        · rintro ⟨_, out', rows, h3, h4, _⟩
          cases h3
          rw [hm] at h4
          cases h4
      | ok rows =>
        simp only [hm]
        constructor
        · intro h2; exact ⟨hr, out, rows, rfl, hm, h2⟩
        · rintro ⟨_, out', rows', h3, h4, h5⟩
          cases h3
          rw [hm] at h4
          cases h4
          exact h5
theorem tabsJ_one (c : List Cl) (r : List (List Vl)) : tabsJ [c] [r] = if 60 < r.length then .error 12 else .ok [⟨c, r⟩] := by
  unfold tabsJ
  split
  · rfl
  · simp [tabsJ]
/-- A job with one output. -/
theorem one_iff {j : Jb} {ins : List Tb} {u : Tb} (hc : j.code / 9 = 0) : oneJ j ins = some u ↔ doJ { j with outs := [[120]] } ins = .ok [u] := by
  unfold oneJ
  rw [hc]
  simp only [Int.toNat_zero, Nat.add_zero, List.take_succ_cons, List.take_zero]
  cases doJ { j with outs := [[120]] } ins with
  | error e => simp
  | ok out =>
    simp only [List.length_cons, List.length_nil]
    match out with
    | [] => simp
    | [x] => simp
    | x :: y :: t => simp
theorem one_none {j : Jb} {ins : List Tb} (h : ∀ u, oneJ j ins ≠ some u) : oneJ j ins = none := by
  cases ho : oneJ j ins with
  | none => rfl
  | some u => exact absurd ho (h u)
/-! ### Filters -/
/-- What is wrong with a filter, if anything is. -/
def cmpE (j : Jb) (a : List Cl) : Option Int :=
  if j.op ∉ compares ∨ j.left.col = [] then some 1
  else match colIx a j.left.col with
    | none => some 7
    | some k => if kindI j.right a ≠ (a.getD k zC).kind then some 13 else none
theorem compared_eq (j : Jb) (a : List Cl) : comparedJ j a = match cmpE j a with
    | some e => .error e
    | none => .ok (List.replicate (if j.code = 9 then 2 else 1) a) := by
  unfold comparedJ cmpE
  split
  · rfl
  · cases colIx a j.left.col with
    | none => rfl
    | some k =>
      simp only
      split <;> rfl
theorem cmp_none {j : Jb} {a : List Cl} : cmpE j a = none ↔ j.op ∈ compares ∧ j.left.col ≠ [] ∧ ∃ k, colIx a j.left.col = some k ∧ kindI j.right a = (a.getD k zC).kind := by
  unfold cmpE
  by_cases h1 : j.op ∉ compares ∨ j.left.col = []
  · rw [if_pos h1]
    constructor
    · intro h; cases h
    · rintro ⟨h2, h3, _⟩
      rcases h1 with h | h
      · exact absurd h2 h
      · exact absurd h h3
  · rw [if_neg h1]
    have h1' : j.op ∈ compares ∧ j.left.col ≠ [] := ⟨Classical.byContradiction fun h => h1 (.inl h), fun h => h1 (.inr h)⟩
    cases hk : colIx a j.left.col with
    | none =>
      simp only
      constructor
      · intro h; cases h
      · rintro ⟨_, _, k, h, _⟩; cases h
    | some k =>
      simp only
      split
      · rename_i h
        constructor
        · intro h2; cases h2
        · rintro ⟨_, _, k', h2, h3⟩
          cases h2
          exact absurd h3 h
      · rename_i h
        constructor
        · intro _; exact ⟨h1'.1, h1'.2, k, rfl, Classical.byContradiction h⟩
        · intro _; rfl
def filterT (j : Jb) (t : Tb) : Tb := ⟨t.cols, t.rows.filter (keepsJ j t)⟩
def restT (j : Jb) (t : Tb) : Tb := ⟨t.cols, t.rows.filter fun r => !keepsJ j t r⟩
theorem right_rows {t : Tb} (h : rightB t = true) : t.rows.length ≤ 60 := (rightB_parts.1 h).2.1
theorem right_sub {t : Tb} {rs : List (List Vl)} (h : rightB t = true) (hl : rs.length ≤ 60) (hs : ∀ r ∈ rs, r ∈ t.rows) : rightB ⟨t.cols, rs⟩ = true := by
  obtain ⟨a, _, c⟩ := rightB_parts.1 h
  exact rightB_parts.2 ⟨a, hl, fun r hr => c r (hs r hr)⟩
theorem filter_right {t : Tb} (j : Jb) (h : rightB t = true) : rightB (filterT j t) = true :=
  right_sub h (Nat.le_trans (List.length_filter_le _ _) (right_rows h)) fun _ hr => (List.mem_filter.1 hr).1
theorem do_filter (j : Jb) (t : Tb) (hc : j.code = 1) (ho : j.outs.length = 1) : doJ j [t] = if rightB t = true then (match cmpE j t.cols with
    | some e => .error e
    | none => .ok [filterT j t]) else .error 1 := by
  unfold doJ
  by_cases hr : rightB t = true
  · have e1 : ([t].any fun t => !rightB t) = false := by simp [hr]
    rw [e1, if_neg (by decide), if_pos hr]
    unfold colsJ sizesN
    simp only [hc, ho, List.map_cons, List.map_nil, List.getD_cons_zero, compared_eq]
    cases cmpE j t.cols with
    | some e => simp
    | none =>
      have hl : ¬ 60 < (t.rows.filter (keepsJ j t)).length := by have := List.length_filter_le (keepsJ j t) t.rows; have := right_rows hr; omega
      simp [madeJ, hc, tabsJ, if_neg hl]
      rfl
  · have e1 : ([t].any fun t => !rightB t) = true := by simp [hr]
    rw [e1, if_pos rfl, if_neg hr]
theorem do_split (j : Jb) (t : Tb) (hc : j.code = 9) (ho : j.outs.length = 2) : doJ j [t] = if rightB t = true then (match cmpE j t.cols with
    | some e => .error e
    | none => .ok [filterT j t, restT j t]) else .error 1 := by
  unfold doJ
  by_cases hr : rightB t = true
  · have e1 : ([t].any fun t => !rightB t) = false := by simp [hr]
    rw [e1, if_neg (by decide), if_pos hr]
    unfold colsJ sizesN
    simp only [hc, ho, List.map_cons, List.map_nil, List.getD_cons_zero, compared_eq]
    cases cmpE j t.cols with
    | some e => simp
    | none =>
      have hl : ¬ 60 < (t.rows.filter (keepsJ j t)).length := by have := List.length_filter_le (keepsJ j t) t.rows; have := right_rows hr; omega
      have hl2 : ¬ 60 < (t.rows.filter fun r => !keepsJ j t r).length := by have := List.length_filter_le (fun r => !keepsJ j t r) t.rows; have := right_rows hr; omega
      simp [madeJ, hc, tabsJ, if_neg hl, if_neg hl2]
      exact ⟨rfl, rfl⟩
  · have e1 : ([t].any fun t => !rightB t) = true := by simp [hr]
    rw [e1, if_pos rfl, if_neg hr]
theorem one_filter (j : Jb) (t : Tb) (hc : j.code = 1) : oneJ j [t] = if rightB t = true ∧ cmpE j t.cols = none then some (filterT j t) else none := by
  unfold oneJ
  have e : (1 + (j.code / 9).toNat) = 1 := by rw [hc]; rfl
  rw [e, do_filter { j with outs := [[120], [121]].take 1 } t hc (by simp)]
  by_cases hr : rightB t = true
  · rw [if_pos hr]
    have e2 : cmpE { j with outs := [[120], [121]].take 1 } t.cols = cmpE j t.cols := rfl
    rw [e2]
    cases hE : cmpE j t.cols with
    | some e => simp
    | none => simp [hr]; rfl
  · rw [if_neg hr]
    simp [hr]
/-! ### OpsSplit -/
def oppB (op : Bs) : Bs := if op = [61] then [60, 62] else if op = [60, 62] then [61] else if op = [60] then [62, 61] else if op = [62, 61] then [60] else if op = [62] then [60, 61] else if op = [60, 61] then [62] else []
theorem opp_in (op : Bs) : oppB op ∈ compares ↔ op ∈ compares := by
  unfold oppB
  constructor
  · intro h
    refine Classical.byContradiction fun hn => ?_
    unfold compares at hn
    simp only [List.mem_cons, List.not_mem_nil, or_false, not_or] at hn
    rw [if_neg hn.1, if_neg hn.2.1, if_neg hn.2.2.1, if_neg hn.2.2.2.2.2, if_neg hn.2.2.2.2.1, if_neg hn.2.2.2.1] at h
    revert h
    decide
  · intro h
    unfold compares at h
    simp only [List.mem_cons, List.not_mem_nil, or_false] at h
    rcases h with rfl | rfl | rfl | rfl | rfl | rfl <;> decide
theorem opp_holds (a b : Vl) {op : Bs} (h : op ∈ compares) : holdsB a (oppB op) b = !holdsB a op b := by
  unfold compares at h
  simp only [List.mem_cons, List.not_mem_nil, or_false] at h
  rcases h with rfl | rfl | rfl | rfl | rfl | rfl <;> simp [oppB, holdsB]
def jobF (j : Jb) : Jb := { j with code := 1 }
def jobN (j : Jb) : Jb := { j with code := 1, op := oppB j.op }
def jobS (j : Jb) : Jb := { j with code := 9, outs := [[120], [121]] }
theorem cmp_opp (j : Jb) (a : List Cl) : cmpE (jobN j) a = none ↔ cmpE (jobF j) a = none := by
  rw [cmp_none, cmp_none]
  show (oppB j.op ∈ compares ∧ _) ↔ (j.op ∈ compares ∧ _)
  rw [opp_in]
  exact Iff.rfl
theorem split_law (j : Jb) (t : Tb) : (∃ e, doJ (jobS j) [t] = .error e ∧ oneJ (jobF j) [t] = none ∧ oneJ (jobN j) [t] = none) ∨
    (∃ y n, doJ (jobS j) [t] = .ok [y, n] ∧ oneJ (jobF j) [t] = some y ∧ oneJ (jobN j) [t] = some n ∧ y.rows.length + n.rows.length = t.rows.length) := by
  rw [do_split (jobS j) t rfl rfl, one_filter (jobF j) t rfl, one_filter (jobN j) t rfl]
  by_cases hr : rightB t = true
  · rw [if_pos hr]
    have e : cmpE (jobS j) t.cols = cmpE (jobF j) t.cols := rfl
    rw [e]
    cases hE : cmpE (jobF j) t.cols with
    | some x =>
      left
      refine ⟨x, rfl, by simp, ?_⟩
      rw [if_neg]
      rintro ⟨_, h⟩
      rw [cmp_opp, hE] at h
      cases h
    | none =>
      right
      have hN := (cmp_opp j t.cols).2 hE
      have hop := (cmp_none.1 hE).1
      refine ⟨_, _, rfl, ?_, ?_, ?_⟩
      · rw [if_pos ⟨hr, rfl⟩]; rfl
      · rw [if_pos ⟨hr, hN⟩]
        have : (fun r => keepsJ (jobN j) t r) = fun r => !keepsJ (jobS j) t r := by
          funext r
          exact opp_holds _ _ hop
        show some (⟨t.cols, t.rows.filter fun r => keepsJ (jobN j) t r⟩ : Tb) = _
        rw [this]
        rfl
      · show (t.rows.filter (keepsJ (jobS j) t)).length + (t.rows.filter fun r => !keepsJ (jobS j) t r).length = _
        generalize keepsJ (jobS j) t = p
        generalize t.rows = l
        induction l with
        | nil => rfl
        | cons r l ih =>
          rw [List.filter_cons, List.filter_cons]
          cases p r <;> simp <;> omega
  · rw [if_neg hr]
    left
    exact ⟨1, rfl, by simp [hr], by simp [hr]⟩
end Go.Proofs.YtomgnjgaafnkiaaGreatDoor
namespace Go.Proofs.YtomgnjgaafnkiaaGreatDoor
open Go.RowKit
theorem row_len {t : Tb} (h : rightB t = true) : ∀ r ∈ t.rows, r.length = t.cols.length := fun r hr => by
  have := (rightB_parts.1 h).2.2 r hr
  unfold rowB at this
  simp only [Bool.and_eq_true, decide_eq_true_eq] at this
  exact this.1
theorem colIx_lt {l : List Cl} {nm : Bs} {k : Nat} (h : colIx l nm = some k) : k < l.length := (List.findIdx?_eq_some_iff_getElem.1 h).1
theorem col_kind {t : Tb} (h : rightB t = true) {k : Nat} (hk : k < t.cols.length) : (t.cols.getD k zC).kind = 1 ∨ (t.cols.getD k zC).kind = 2 := by
  rw [List.getD_eq_getElem?_getD, List.getElem?_eq_getElem hk]
  exact (okCol_of (rightB_parts.1 h).1 hk).2
theorem argOk_left {a : Ar} {t : Tb} {k : Nat} (hr : rightB t = true) (hk : colIx t.cols a.col = some k) : ∀ r ∈ t.rows, argOk a t.cols r := fun r hm => .inr ⟨k, hk, by rw [row_len hr r hm]; exact colIx_lt hk⟩
theorem argOk_kind {a : Ar} {t : Tb} (hr : rightB t = true) (hk : kindI a t.cols ≠ 0) : ∀ r ∈ t.rows, argOk a t.cols r := fun r hm => by
  by_cases hc : a.col = []
  · exact .inl hc
  · unfold kindI at hk
    rw [if_neg hc] at hk
    cases h : colIx t.cols a.col with
    | none => rw [h] at hk; exact absurd rfl hk
    | some k => exact argOk_left hr h r hm
theorem RdTbs.first {w : World} {A : Option Addr} {ts : List Tb} {t : Tb} {k : Nat} (h : RdTbs w A ts) (hk : k < ts.length) (ht : ts[k] = t) (hb : TbB t) : ∃ b o A1 c1 A2 c2, A = some ⟨b, o, none⟩ ∧ w.cell? ⟨b, o + k * 2, none⟩ = some (.slice A1 t.cols.length c1) ∧ w.cell? ⟨b, o + k * 2 + 1, none⟩ = some (.slice A2 t.rows.length c2) ∧ TabIn w t A1 A2 c1 c2 := by
  obtain ⟨us, hul, hur, hui⟩ := h
  obtain ⟨b, o, hA, _, _, hcs⟩ := hur.open' (by omega) (by omega)
  have d0 := hcs _ _ (flat2_at us k (by omega)).1
  have d1 := hcs _ _ (flat2_at us k (by omega)).2
  obtain ⟨⟨A1, c1, e1, h1, h2⟩, ⟨A2, c2, e2, h3, h4⟩⟩ := hui k (by omega) hk
  rw [ht] at e1 h1 h2 e2 h3 h4
  rw [e1] at d0
  rw [e2, ← Nat.add_assoc] at d1
  exact ⟨b, o, A1, c1, A2, c2, hA, d0, d1, ⟨h2, h1, h4, h3, hb.names, hb.ln, hb.lm, hb.lr⟩⟩
theorem RdTbs.heads {w : World} {A : Option Addr} {ts : List Tb} (h : RdTbs w A ts) (i : Nat) (hi : i < ts.length) : ∃ u, HeadIs w u ts[i].cols := by
  obtain ⟨us, hul, hur, hui⟩ := h
  exact ⟨_, (hui i (by omega) hi).1⟩
theorem cmp_parts {j : Jb} {a : List Cl} {out : List (List Cl)} (h : comparedJ j a = .ok out) : ∃ k, colIx a j.left.col = some k ∧ kindI j.right a = (a.getD k zC).kind := by
  unfold comparedJ at h
  split at h
  · cases h
  · cases hk : colIx a j.left.col with
    | none => rw [hk] at h; cases h
    | some k =>
      rw [hk] at h
      simp only at h
      split at h
      · cases h
      · rename_i h2
        exact ⟨k, rfl, Decidable.not_not.1 h2⟩
theorem sizes_of {j : Jb} {ins : List (List Cl)} {out : List (List Cl)} (h : colsJ j ins = .ok out) : ins.length = (sizesN j.code).1 := by
  unfold colsJ at h
  split at h
  · cases h
  · rename_i h2
    simp only [not_or, Decidable.not_not] at h2
    exact h2.2.1
set_option maxRecDepth 40000 in
theorem do_cmp (j : Jb) (hcode : j.code = 1 ∨ j.code = 9) (Ao : Option Addr) (co : Nat) (Ai : Option Addr) (ni ci : Nat) (Ac : Option Addr) (cc : Nat) (ins : List Tb) (AT : Option Addr) (ct : Nat) (w : World) (hE : OEnv w) (hJ : JobIn w j Ao co Ac cc) (hI : RdTbs w AT ins) (hB : ∀ t ∈ ins, TbB t) (hl : ins.length ≤ 4294967296) :
    Calls Tryz.prog 18 #[jAgg j Ao co Ai ni ci Ac cc, .slice AT ins.length ct] w fun e w' => DoOut (doJ j ins) e w' ∧ Keeps [] w w' := by
  refine do_any j Ao co Ai ni ci Ac cc ins AT ct w hI hB hl (fun W q AH ch hH => ?_) (fun out hr hc W q OA od => ?_)
  · refine cols_any j Ao co Ai ni ci Ac cc (ins.map (·.cols)) AH ch W (hE.quiet q) (hJ.quiet q) hH (fun l hm => ?_) (by omega) (fun h => by omega)
    obtain ⟨t, ht, rfl⟩ := List.mem_map.1 hm
    exact (hB t ht).ln
  · have h1 : ins.length = 1 := by
      have := sizes_of hc
      rw [List.length_map] at this
      rw [this]
      rcases hcode with h | h <;> rw [h] <;> rfl
    have hol := cols_len hc
    have hol2 : out.length ≤ 2 := by rw [hol]; split <;> omega
    obtain ⟨t, rfl⟩ : ∃ t, ins = [t] := by
      match ins, h1 with
      | [t], _ => exact ⟨t, rfl⟩
    have hrt : rightB t = true := hr t (by simp)
    have hcj : comparedJ j t.cols = .ok out := by
      unfold colsJ at hc
      split at hc
      · cases hc
      · exact hc
    obtain ⟨k, hk, hkr⟩ := cmp_parts hcj
    have hal := argOk_left (a := j.left) hrt hk
    have har := argOk_kind (a := j.right) hrt (by
      rw [hkr]
      rcases col_kind hrt (colIx_lt hk) with h | h <;> rw [h] <;> decide)
    obtain ⟨b, o, A1, c1, A2, c2, rfl, d0, d1, hT⟩ := (hI.keep q).first (k := 0) (by simp) rfl (hB t (by simp))
    rw [Nat.zero_mul, Nat.add_zero] at d0 d1
    have hmj : madeJ j [t] out = .ok ([t.rows.filter (keepsJ j t), t.rows.filter fun r => !keepsJ j t r].take out.length) := by
      unfold madeJ
      rw [if_pos hcode]
      rfl
    rw [hmj]
    obtain ⟨at_, code, outs, js, cols, op, ⟨lc, lk, ln, lw⟩, ⟨rc, rk, rn, rw'⟩, retry⟩ := j
    rcases hcode with rfl | rfl
    · exact made_1 t out.length hol2 OA od b o 1 ct A1 A2 c1 c2 (by omega) at_ retry lk ln rk rn outs js cols op lc lw rc rw' Ao co Ai ni ci Ac cc W d0 d1 hT hal har
    · exact made_9 t out.length hol2 OA od b o 1 ct A1 A2 c1 c2 (by omega) at_ retry lk ln rk rn outs js cols op lc lw rc rw' Ao co Ai ni ci Ac cc W d0 d1 hT hal har
end Go.Proofs.YtomgnjgaafnkiaaGreatDoor
namespace Go.Proofs.YtomgnjgaafnkiaaGreatDoor
open Go.RowKit
theorem row_pos {t : Tb} (h : rightB t = true) : ∀ r ∈ t.rows, 1 ≤ r.length := fun r hr => by
  rw [row_len h r hr]
  have := (rightB_parts.1 h).1
  unfold colsB at this
  simp only [Bool.and_eq_true, decide_eq_true_eq] at this
  exact this.1.1
theorem one_cmp (j : Jb) (hc : j.code = 1) (Ao : Option Addr) (co : Nat) (Ai : Option Addr) (ni ci : Nat) (Ac : Option Addr) (cc : Nat) (t : Tb) (AT : Option Addr) (ct : Nat) (w : World) (hE : OEnv w) (hA : Rd w [] 1 Ac j.cols.length (strs j.cols)) (hcc : j.cols.length ≤ cc) (hlc : j.cols.length ≤ 4294967296) (hI : RdTbs w AT [t]) (hB : TbB t) :
    Calls Tryz.prog 11 #[jAgg j Ao co Ai ni ci Ac cc, .slice AT 1 ct] w fun e w' => OneOut (oneJ j [t]) e w' ∧ Keeps [] w w' := by
  refine one_any j (by omega) (by omega) Ao co Ai ni ci Ac cc [t] AT ct w (fun u hu => ?_) (fun W q Ax hx => ?_)
  · rw [one_filter j t hc] at hu
    split at hu
    · rename_i h
      injection hu with hu
      rw [← hu]
      exact row_pos (filter_right j h.1)
    · cases hu
  · exact do_cmp { j with outs := [[120]] } (.inl hc) Ax 2 Ai ni ci Ac cc [t] AT ct W (hE.quiet q) ⟨hx, by show 1 ≤ 2; omega, hA.keep q, hcc, by show 1 ≤ _; omega, hlc⟩ (hI.keep q) (fun x hx => by rw [List.mem_singleton] at hx; rw [hx]; exact hB) (by show 1 ≤ _; omega)
end Go.Proofs.YtomgnjgaafnkiaaGreatDoor
