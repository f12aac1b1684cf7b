/- table.Parse: words for what it makes. -/
import Derived.Test.YtodjaomghmcoiaaGreatDoorKind
import Derived.Test.YtodjaomghmcoiaaGreatDoorSlice1
import Derived.Test.YtodjaomghmcoiaaGreatDoorCut
import Derived.Test.YtodjaomghmcoiaaGreatDoorPval
import Derived.Test.YtodjaomghmcoiaaGreatDoorPrint
import Derived.Deep.AppendLies
namespace Go.Proofs.YtodjaomghmcoiaaGreatDoor
open Go.RowKit
attribute [local go_sem] bs_size bs_extract bs_append bs_toList
/-- What Parse hands back. -/
def ParseOut (R : PR) (e : Ending) (w' : World) : Prop := match R with
  | .ok t => ∃ A B c d, e = .returned (.tuple #[tAgg A t.cols.length c B t.rows.length d, .nilIface]) ∧ TabIn w' t A B c d
  | .bad x p => ∃ g, e = .returned (.tuple #[tAgg none 0 0 none 0 0, .iface 71 (.pointer (some ⟨g, 0, none⟩))]) ∧ Blk w' g 72 #[.int .i64 x, .int .i64 p]
theorem row_alloc_of {w w' : World} {base : Nat} {e : TypeId} {size n : Nat} {v : Value} {xs : List Value} {o : Obj} (h : w.ownsRow base e size v n xs) (hk : Keeps [] w.drew w') : (w'.alloc o).ownsRow base e size v n xs :=
  (own_keep h (L := []) ⟨hk.os, hk.output, hk.size, hk.block⟩ (fun _ _ => by simp)).alloc o
theorem le_base {w w' : World} {b : Nat} {o : Obj} (h : b ≤ w.heap.size) (hk : Keeps [] w.drew w') : b ≤ (w'.alloc o).heap.size := by
  have h1 := hk.size
  have h2 : w.drew.heap.size = w.heap.size := rfl
  simp
  omega
theorem row_ne {w : World} {base : Nat} {e t : TypeId} {size n : Nat} {v : Value} {xs : List Value} {g : Nat} {cs : Array Value} (h : w.ownsRow base e size v n xs) (hg : Blk w g t cs) (hne : e ≠ t) : v.ownBlock ≠ some g := fun hv => by
  rcases h.2 with ⟨rfl, _⟩ | ⟨g', cap, cur, rfl, _, hh, _⟩
  · cases hv
  · have : g' = g := by simpa [Value.ownBlock] using hv
    subst this
    unfold Blk at hg
    rw [hg] at hh
    injection hh with hh
    injection hh with _ h2
    exact hne h2.symm
theorem Keeps.of_drew {w w' : World} {L : List Nat} (h : Keeps L w.drew w') : Keeps L w w' := ⟨h.os, h.output, h.size, h.block⟩
/-- A row that a box's first field holds, one longer. -/
theorem cols_step {w3 wr w5 w6 w7 : World} {bt gw cap n m size : Nat} {v r : Value} {xs ys : List Value} {o : Obj} {e : TypeId} (he : e ≠ 25) (hk3r : Keeps [bt] w3 wr) (hk5 : Keeps [] wr w5)
    (hown : w5.ownsRow w3.heap.size e size v n xs) (hbt : Blk w5 bt 25 #[v, r]) (hk6 : Keeps [] w5.drew w6) (hown7 : w7.ownsRow w3.heap.size e size (.slice (some ⟨gw, 0, none⟩) m cap) m ys) (hgrow : (w6.alloc o).grownBy w7 v.ownBlock) :
    (w7.setCell ⟨bt, 0, none⟩ (.slice (some ⟨gw, 0, none⟩) m cap)).ownsRow w3.heap.size e size (.slice (some ⟨gw, 0, none⟩) m cap) m ys ∧ Blk (w7.setCell ⟨bt, 0, none⟩ (.slice (some ⟨gw, 0, none⟩) m cap)) bt 25 #[.slice (some ⟨gw, 0, none⟩) m cap, r] ∧ Keeps [bt] w3 (w7.setCell ⟨bt, 0, none⟩ (.slice (some ⟨gw, 0, none⟩) m cap)) := by
  have hbt6 := (hbt.keep hk6.of_drew (by simp)).alloc o
  have hne := row_ne hown hbt he
  have hbt7 : Blk w7 bt 25 #[v, r] := (hgrow.block bt hbt6.lt (fun e => hne e.symm)).trans hbt6
  have hne7 := row_ne hown7 hbt7 he
  have hk7 : Keeps [bt] w3 w7 := Keeps.grown (((hk3r.trans (hk5.weaken (by simp))).trans (hk6.of_drew.weaken (by simp))).alloc o) hgrow (fun g hg => .inr (hown.lt g hg).1)
  refine ⟨own_keep hown7 (Keeps.setCell (Keeps.refl [bt] w7) (.inl (by simp)) _) (fun g hg hm => ?_), ?_, hk7.setCell (.inl (by simp)) _⟩
  · have : g = bt := by simpa using hm
    subst this
    exact hne7 hg
  · exact (hbt7.set 0 _).congr rfl
set_option maxHeartbeats 1000000 in
theorem fail_any (x p : Int) (w : World) :
    Calls Tryz.prog 41 #[.int .i64 x, .int .i64 p] w fun e w' => ∃ g, e = .returned (.tuple #[.agg #[.slice none 0 0, .slice none 0 0], .iface 71 (.pointer (some ⟨g, 0, none⟩))]) ∧ Blk w' g 72 #[.int .i64 x, .int .i64 p] ∧ Keeps [] w w' := by
  go_enter Tryz.func41, Tryz.ntmps41
  go_wp2
  refine bodyPost_ret (v := .tuple #[.agg #[.slice none 0 0, .slice none 0 0], .iface 71 (.pointer (some ⟨w.heap.size + 1, 0, none⟩))]) (by simp [results, Tryz.results41, go_sem]) rfl ⟨_, rfl, ?_, ?_⟩
  · have h := Blk.new (w.alloc (.cells #[.slice none 0 0, .slice none 0 0] 25)) 72 #[.int .i64 x, .int .i64 p]
    rw [show (w.alloc (.cells #[.slice none 0 0, .slice none 0 0] 25)).heap.size = w.heap.size + 1 from Array.size_push _] at h
    exact h
  · repeat first | exact Keeps.refl _ _ | refine Keeps.alloc ?_ _ | refine Keeps.setCell ?_ (.inr (by simp)) _
theorem get0_headD {l : List Bs} (h : 0 < l.length) : l[0] = l.headD [] := by
  cases l with
  | nil => simp at h
  | cons => rfl
theorem colsP_len (l : Bs) : (colsP l).length = (splitC 32 l).length := by simp [colsP]
theorem csCells_take (l : List Cl) (n : Nat) (h : n < l.length) : csCells (l.take (n + 1)) = csCells (l.take n) ++ cCells l[n] := by
  rw [List.take_succ_eq_append_getElem h, csCells_append]
  simp [csCells]
theorem cinfo : (Tryz.prog.info? 63).map (fun i => (i.zero, i.size, i.bytes)) = some (some (.agg #[.string ⟨#[]⟩, .int .i64 0]), 2, 24) := by kernel_rfl
theorem vinfo : (Tryz.prog.info? 41).map (fun i => (i.zero, i.size, i.bytes)) = some (some (.agg #[.int .i64 0, .int .i64 0, .string ⟨#[]⟩]), 3, 32) := by kernel_rfl
theorem rinfo : (Tryz.prog.info? 66).map (fun i => (i.zero, i.size, i.bytes)) = some (some (.slice none 0 0), 1, 24) := by kernel_rfl
theorem colsP_names (l : Bs) : ∀ x ∈ colsP l, x.name.length ≤ l.length := fun x hx => by
  obtain ⟨u, hu, rfl⟩ := List.mem_map.1 hx
  exact Nat.le_trans (cutC_len 58 u).1 ((splitC_len 32 l).2.2 u hu)
/-- Rows that this call has made: a row of slices, each of its elements a row of values. -/
def Rws (W : World) (base : Nat) (vr : Value) (rs : List (List Vl)) : Prop :=
  ∃ us : List Value, us.length = rs.length ∧ W.ownsRow base 66 1 vr rs.length us ∧ ∀ i (h : i < us.length) (h' : i < rs.length), W.ownsRow base 41 3 us[i] rs[i].length (vsCells rs[i])
theorem Rws.nil (W : World) (base : Nat) : Rws W base (.slice none 0 0) [] := ⟨[], rfl, World.ownsRow_nil _ _ _ _, fun i h => by simp at h⟩
theorem drop_at (l : List Bs) (m : Nat) (h : m + 1 < l.length) : l.tail.drop m = l[m + 1] :: l.tail.drop (m + 1) := by
  cases l with
  | nil => simp at h
  | cons a t =>
    simp only [List.tail_cons, List.getElem_cons_succ]
    exact List.drop_eq_getElem_cons (by simpa using h)
theorem cols_right {l : Bs} {M : Nat} {w3 W : World} {v : Value} (hM : (splitC 32 l).length = M) (h1 : 1 ≤ M) (h2 : M ≤ 4294967296) (hl : l.length ≤ 1000000) (h : W.ownsRow w3.heap.size 63 2 v M (csCells ((colsP l).take M))) :
    Calls Tryz.prog 18 #[v] W fun e w' => e = .returned (.bool (colsB (colsP l))) ∧ Keeps [] W w' := by
  obtain ⟨g, cap, rfl, hcap⟩ : ∃ g cap, v = .slice (some ⟨g, 0, none⟩) M cap ∧ M ≤ cap := by
    rcases h.2 with ⟨_, h0⟩ | ⟨g, cap, cur, hv, _, _, hc, _⟩
    · omega
    · exact ⟨g, cap, hv, hc⟩
  have hlen : (colsP l).length = M := by rw [colsP_len, hM]
  rw [List.take_of_length_le (by omega)] at h
  subst hlen
  exact rightCols_any (colsP l) _ cap W (Rd.of_own h (fun _ _ => by simp)) hcap (fun x hx => Nat.le_trans (colsP_names l x hx) (by omega)) h2
/-- What owns something, in words of reading. -/
theorem own_rd {w : World} {base : Nat} {e : TypeId} {size n : Nat} {v : Value} {xs : List Value} (h : w.ownsRow base e size v n xs) : ∃ A c, v = .slice A n c ∧ n ≤ c ∧ Rd w [] size A n xs := by
  rcases h.2 with ⟨rfl, rfl⟩ | ⟨g, cap, cur, rfl, hb, hh, hc, r⟩
  · refine ⟨none, 0, rfl, Nat.le_refl _, ?_⟩
    have : xs = [] := List.eq_nil_of_length_eq_zero (by rw [h.1]; simp)
    rw [this]
    exact Rd.nil
  · exact ⟨_, cap, rfl, hc, Rd.of_own h (fun _ _ => by simp)⟩
theorem own_some {w : World} {base : Nat} {e : TypeId} {size n : Nat} {v : Value} {xs : List Value} (h : w.ownsRow base e size v n xs) (h1 : 1 ≤ n) : ∃ g cap, v = .slice (some ⟨g, 0, none⟩) n cap ∧ n ≤ cap ∧ base ≤ g ∧ g < w.heap.size ∧ ∀ j u, xs[j]? = some u → w.cell? ⟨g, j, none⟩ = some u := by
  rcases h.2 with ⟨_, h0⟩ | ⟨g, cap, cur, rfl, hb, hh, hc, r⟩
  · omega
  · refine ⟨g, cap, rfl, hc, hb, (Array.getElem?_eq_some_iff.1 hh).1, fun j u hu => ?_⟩
    have := h.cells (g := g) rfl j u hu
    rwa [add_at, Nat.zero_add] at this
theorem own_base {w : World} {base base' : Nat} {e : TypeId} {size n : Nat} {v : Value} {xs : List Value} (h : w.ownsRow base' e size v n xs) (hb : base ≤ base') : w.ownsRow base e size v n xs := by
  refine ⟨h.1, ?_⟩
  rcases h.2 with h2 | ⟨g, cap, cur, hv, hg, r⟩
  · exact .inl h2
  · exact .inr ⟨g, cap, cur, hv, Nat.le_trans hb hg, r⟩
theorem own_set {w : World} {base b i : Nat} {e t : TypeId} {size n : Nat} {v u : Value} {xs : List Value} {cs : Array Value} (h : w.ownsRow base e size v n xs) (hb : Blk w b t cs) (he : e ≠ t) : (w.setCell ⟨b, i, none⟩ u).ownsRow base e size v n xs :=
  own_keep h (Keeps.setCell (Keeps.refl [b] w) (.inl (by simp)) u) (fun g hg hm => row_ne h hb he (by simp at hm; rw [hg, hm]))
theorem own_keepb {w w' : World} {base b : Nat} {e t : TypeId} {size n : Nat} {v : Value} {xs : List Value} {cs : Array Value} (h : w.ownsRow base e size v n xs) (hk : Keeps [b] w w') (hb : Blk w b t cs) (he : e ≠ t) : w'.ownsRow base e size v n xs :=
  own_keep h hk (fun g hg hm => row_ne h hb he (by simp at hm; rw [hg, hm]))
theorem own_grown {w w' : World} {base e' : Nat} {e : TypeId} {size n : Nat} {v : Value} {xs : List Value} {row : Option Nat} (h : w.ownsRow base e size v n xs) (hg : w.grownBy w' row) (hr : ∀ g, row = some g → ∃ cs fz, w.heap[g]? = some (.cells cs e' fz)) (he : e ≠ e') : w'.ownsRow base e size v n xs := by
  refine own_keep (L := row.toList) h (Keeps.grown (Keeps.refl _ w) hg (fun g hg => .inl (by rw [hg]; simp))) (fun g hv hm => ?_)
  obtain ⟨cs, fz, hh⟩ := hr g (by cases row with
    | none => cases hm
    | some x => simp at hm; rw [hm])
  rcases h.2 with ⟨rfl, _⟩ | ⟨g', cap, cur, rfl, _, hh', _⟩
  · cases hv
  · have : g' = g := by simpa [Value.ownBlock] using hv
    subst this
    rw [hh] at hh'
    injection hh' with hh'
    injection hh' with _ h2
    exact he h2.symm
theorem own_kind {w : World} {base : Nat} {e : TypeId} {size n : Nat} {v : Value} {xs : List Value} (h : w.ownsRow base e size v n xs) : ∀ g, v.ownBlock = some g → ∃ cs fz, w.heap[g]? = some (.cells cs e fz) := fun g hg => by
  rcases h.2 with ⟨rfl, _⟩ | ⟨g', cap, cur, rfl, _, hh', _⟩
  · cases hg
  · have : g' = g := by simpa [Value.ownBlock] using hg
    subst this
    exact ⟨_, _, hh'⟩
section
variable {W W' : World} {base b i : Nat} {vr u vq : Value} {rs : List (List Vl)} {q : List Vl} {cs : Array Value} {t : TypeId}
theorem Rws.keep (h : Rws W base vr rs) (hk : Keeps [] W W') : Rws W' base vr rs := by
  obtain ⟨us, h1, h2, h3⟩ := h
  exact ⟨us, h1, own_keep h2 hk (fun _ _ => by simp), fun i a c => own_keep (h3 i a c) hk (fun _ _ => by simp)⟩
theorem Rws.keepb (h : Rws W base vr rs) (hk : Keeps [b] W W') (hb : Blk W b t cs) (h1 : 66 ≠ t) (h2 : 41 ≠ t) : Rws W' base vr rs := by
  obtain ⟨us, hu, h3, h4⟩ := h
  exact ⟨us, hu, own_keepb h3 hk hb h1, fun i a c => own_keepb (h4 i a c) hk hb h2⟩
theorem Rws.set (h : Rws W base vr rs) (hb : Blk W b t cs) (h1 : 66 ≠ t) (h2 : 41 ≠ t) : Rws (W.setCell ⟨b, i, none⟩ u) base vr rs :=
  h.keepb (Keeps.setCell (Keeps.refl [b] W) (.inl (by simp)) u) hb h1 h2
theorem Rws.rd (h : Rws W base vr rs) : ∃ B d, vr = .slice B rs.length d ∧ rs.length ≤ d ∧ RdRows W [] B rs := by
  obtain ⟨us, h1, h2, h3⟩ := h
  obtain ⟨B, d, hv, hd, hr⟩ := own_rd h2
  refine ⟨B, d, hv, hd, us, h1, hr, fun i a c => ?_⟩
  obtain ⟨A, k, hv, hk, hr⟩ := own_rd (h3 i a c)
  exact ⟨A, k, hv, hk, hr⟩
/-- One row more. -/
theorem rws_snoc {us : List Value} {o : Obj} {gw cap : Nat} (h1 : us.length = rs.length) (h3 : ∀ i (h : i < us.length) (h' : i < rs.length), W.ownsRow base 41 3 us[i] rs[i].length (vsCells rs[i]))
    (hv : W.ownsRow base 66 1 vr rs.length us) (hq : W.ownsRow base 41 3 vq q.length (vsCells q)) (hg : (W.alloc o).grownBy W' vr.ownBlock)
    (hown : W'.ownsRow base 66 1 (.slice (some ⟨gw, 0, none⟩) (rs.length + 1) cap) (rs.length + 1) (us ++ [vq])) : Rws W' base (.slice (some ⟨gw, 0, none⟩) (rs.length + 1) cap) (rs ++ [q]) := by
  refine ⟨us ++ [vq], by simp [h1], by simpa using hown, fun i a c => ?_⟩
  have hkind := fun g hg => own_kind (hv.alloc o) g hg
  by_cases hi : i < us.length
  · rw [List.getElem_append_left hi, List.getElem_append_left (by omega)]
    exact own_grown ((h3 i hi (by omega)).alloc o) hg hkind (by decide)
  · have hi' : i = us.length := by simp at a; omega
    subst hi'
    rw [List.getElem_append_right (Nat.le_refl _), List.getElem_append_right (by omega)]
    simp only [h1, Nat.sub_self, List.getElem_cons_zero]
    exact own_grown (hq.alloc o) hg hkind (by decide)
end
theorem tabIn_of {W : World} {base base' n : Nat} {v vr : Value} {cols : List Cl} {rs : List (List Vl)} (hn : cols.length = n) (hv : W.ownsRow base 63 2 v n (csCells cols)) (hr : Rws W base' vr rs) (h1 : ∀ x ∈ cols, x.name.length ≤ 1000000000) (h2 : cols.length ≤ 4294967296) (h3 : rs.length ≤ 60) (h4 : ∀ r ∈ rs, r.length ≤ 4294967296) :
    ∃ A B c d, v = .slice A cols.length c ∧ vr = .slice B rs.length d ∧ TabIn W ⟨cols, rs⟩ A B c d := by
  subst hn
  obtain ⟨A, c, e1, hc, hA⟩ := own_rd hv
  obtain ⟨B, d, e2, hd, hB⟩ := hr.rd
  exact ⟨A, B, c, d, e1, e2, hA, hc, hB, hd, h1, h2, by simp only; omega, h4⟩
theorem pval_none {p : Bs} (h : pvL p = none) (hs : p.length ≤ 1000000000) (w : World) (hE : TEnv w) :
    Calls Tryz.prog 30 #[.string (bs p)] w fun e w' => e = .returned (.tuple #[.agg #[.int .i64 0, .int .i64 0, .string ⟨#[]⟩], .iface 47 (.int .i64 3)]) ∧ Keeps [] w w' := by
  have := parseValue_any p hs w hE
  rw [h] at this
  exact this
theorem pval_some {p : Bs} {u : Vl} (h : pvL p = some u) (hs : p.length ≤ 1000000000) (w : World) (hE : TEnv w) :
    Calls Tryz.prog 30 #[.string (bs p)] w fun e w' => e = .returned (.tuple #[.agg #[.int .i64 u.kind, .int .i64 u.num, .string (bs u.word)], .nilIface]) ∧ Keeps [] w w' := by
  have := parseValue_any p hs w hE
  rw [h] at this
  exact this
theorem heap_two (w : World) (o o2 : Obj) : ((w.alloc o).alloc o2).heap[w.heap.size + 1]? = some o2 := by
  have h := heap_alloc_new (w.alloc o) o2
  rw [show (w.alloc o).heap.size = w.heap.size + 1 from Array.size_push _] at h
  exact h
theorem blk_num {w : World} {g : Nat} {t : TypeId} {x y z : Int} (h : Blk w g t #[.int .i64 x, .int .i64 y]) (hy : y = z) : Blk w g t #[.int .i64 x, .int .i64 z] := hy ▸ h
theorem vsCells_snoc (q : List Vl) (v : Vl) : vsCells (q ++ [v]) = vsCells q ++ [.int .i64 v.kind, .int .i64 v.num, .string (bs v.word)] := by simp [vsCells, vCells]
theorem valsP_step {ps : List Bs} {n : Nat} (h : n < ps.length) (q : List Vl) : valsP (ps.drop n) q = match pvL ps[n] with
    | none => none
    | some v => valsP (ps.drop (n + 1)) (q ++ [v]) := by
  rw [List.drop_eq_getElem_cons h]
  rfl
theorem fits_false {cols : List Cl} {q : List Vl} (h : q.length ≠ cols.length) : fits cols q = false := by
  unfold fits
  rw [decide_eq_false h]
  rfl
theorem fits_bad {cols : List Cl} {q : List Vl} {j : Nat} (h : j < q.length) (h' : j < cols.length) (hne : q[j].kind ≠ cols[j].kind) : fits cols q = false := by
  unfold fits
  rw [Bool.and_eq_false_iff]
  right
  rw [List.all_eq_false]
  refine ⟨(q[j], cols[j]), ?_, by simpa using hne⟩
  rw [List.mem_iff_getElem]
  exact ⟨j, by rw [List.length_zip]; omega, by simp⟩
theorem fits_true {cols : List Cl} {q : List Vl} (h : q.length = cols.length) (hj : ∀ j (h : j < q.length) (h' : j < cols.length), q[j].kind = cols[j].kind) : fits cols q = true := by
  unfold fits
  rw [decide_eq_true h, Bool.true_and, List.all_eq_true]
  intro p hp
  obtain ⟨i, hi, rfl⟩ := List.getElem_of_mem hp
  have := hj i (by rw [List.length_zip] at hi; omega) (by rw [List.length_zip] at hi; omega)
  simpa using this
end Go.Proofs.YtodjaomghmcoiaaGreatDoor
