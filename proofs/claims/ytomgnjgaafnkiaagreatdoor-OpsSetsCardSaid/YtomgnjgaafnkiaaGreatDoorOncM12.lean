/- table.Parse: words for what it makes. ops.made: what it hands back. ops.Do: words for what it takes, and hands back. -/
import Derived.Test.YtomgnjgaafnkiaaGreatDoorOncM10
import Derived.Test.YtomgnjgaafnkiaaGreatDoorOncM11
import Derived.Deep.AppendLies
import Derived.Test.YtomgnjgaafnkiaaGreatDoorOncM9
namespace Go.Proofs.YtomgnjgaafnkiaaGreatDoor
open Go.RowKit
attribute [local go_sem] bs_size bs_extract bs_append bs_toList
/-- What Parse hands back. -/
def ParseOut (R : PR) (e : Ending) (w' : World) : Prop := match R with
  | .ok t => ∃ A B c d, e = .returned (.tuple #[tAgg A t.cols.length c B t.rows.length d, .nilIface]) ∧ TabIn w' t A B c d
  | .bad x p => ∃ g, e = .returned (.tuple #[tAgg none 0 0 none 0 0, .iface 89 (.pointer (some ⟨g, 0, none⟩))]) ∧ Blk w' g 91 #[.int .i64 x, .int .i64 p]
theorem row_alloc_of {w w' : World} {base : Nat} {e : TypeId} {size n : Nat} {v : Value} {xs : List Value} {o : Obj} (h : w.ownsRow base e size v n xs) (hk : Keeps [] w.drew w') : (w'.alloc o).ownsRow base e size v n xs :=
  (own_keep h (L := []) ⟨hk.os, hk.output, hk.size, hk.block⟩ (fun _ _ => by simp)).alloc o
theorem le_base {w w' : World} {b : Nat} {o : Obj} (h : b ≤ w.heap.size) (hk : Keeps [] w.drew w') : b ≤ (w'.alloc o).heap.size := by
  have h1 := hk.size
  have h2 : w.drew.heap.size = w.heap.size := rfl
  simp
  omega
theorem row_ne {w : World} {base : Nat} {e t : TypeId} {size n : Nat} {v : Value} {xs : List Value} {g : Nat} {cs : Array Value} (h : w.ownsRow base e size v n xs) (hg : Blk w g t cs) (hne : e ≠ t) : v.ownBlock ≠ some g := fun hv => by
  rcases h.2 with ⟨rfl, _⟩ | ⟨g', cap, cur, rfl, _, hh, _⟩
  · cases hv
  · have : g' = g := by simpa [Value.ownBlock] using hv
    subst this
    unfold Blk at hg
    rw [hg] at hh
    injection hh with hh
    injection hh with _ h2
    exact hne h2.symm
theorem Keeps.of_drew {w w' : World} {L : List Nat} (h : Keeps L w.drew w') : Keeps L w w' := ⟨h.os, h.output, h.size, h.block⟩
/-- A row that a box's first field holds, one longer. -/
theorem cols_step {w3 wr w5 w6 w7 : World} {bt gw cap n m size : Nat} {v r : Value} {xs ys : List Value} {o : Obj} {e : TypeId} (he : e ≠ 25) (hk3r : Keeps [bt] w3 wr) (hk5 : Keeps [] wr w5)
    (hown : w5.ownsRow w3.heap.size e size v n xs) (hbt : Blk w5 bt 25 #[v, r]) (hk6 : Keeps [] w5.drew w6) (hown7 : w7.ownsRow w3.heap.size e size (.slice (some ⟨gw, 0, none⟩) m cap) m ys) (hgrow : (w6.alloc o).grownBy w7 v.ownBlock) :
    (w7.setCell ⟨bt, 0, none⟩ (.slice (some ⟨gw, 0, none⟩) m cap)).ownsRow w3.heap.size e size (.slice (some ⟨gw, 0, none⟩) m cap) m ys ∧ Blk (w7.setCell ⟨bt, 0, none⟩ (.slice (some ⟨gw, 0, none⟩) m cap)) bt 25 #[.slice (some ⟨gw, 0, none⟩) m cap, r] ∧ Keeps [bt] w3 (w7.setCell ⟨bt, 0, none⟩ (.slice (some ⟨gw, 0, none⟩) m cap)) := by
  have hbt6 := (hbt.keep hk6.of_drew (by simp)).alloc o
  have hne := row_ne hown hbt he
  have hbt7 : Blk w7 bt 25 #[v, r] := (hgrow.block bt hbt6.lt (fun e => hne e.symm)).trans hbt6
  have hne7 := row_ne hown7 hbt7 he
  have hk7 : Keeps [bt] w3 w7 := Keeps.grown (((hk3r.trans (hk5.weaken (by simp))).trans (hk6.of_drew.weaken (by simp))).alloc o) hgrow (fun g hg => .inr (hown.lt g hg).1)
  refine ⟨own_keep hown7 (Keeps.setCell (Keeps.refl [bt] w7) (.inl (by simp)) _) (fun g hg hm => ?_), ?_, hk7.setCell (.inl (by simp)) _⟩
  · have : g = bt := by simpa using hm
    subst this
    exact hne7 hg
  · exact (hbt7.set 0 _).congr rfl
set_option maxHeartbeats 1000000 in
theorem fail_any (x p : Int) (w : World) :
    Calls Tryz.prog 55 #[.int .i64 x, .int .i64 p] w fun e w' => ∃ g, e = .returned (.tuple #[.agg #[.slice none 0 0, .slice none 0 0], .iface 89 (.pointer (some ⟨g, 0, none⟩))]) ∧ Blk w' g 91 #[.int .i64 x, .int .i64 p] ∧ Keeps [] w w' := by
  go_enter Tryz.func55, Tryz.ntmps55
  go_wp2
  refine bodyPost_ret (v := .tuple #[.agg #[.slice none 0 0, .slice none 0 0], .iface 89 (.pointer (some ⟨w.heap.size + 1, 0, none⟩))]) (by simp [results, Tryz.results55, go_sem]) rfl ⟨_, rfl, ?_, ?_⟩
  · have h := Blk.new (w.alloc (.cells #[.slice none 0 0, .slice none 0 0] 25)) 91 #[.int .i64 x, .int .i64 p]
    rw [show (w.alloc (.cells #[.slice none 0 0, .slice none 0 0] 25)).heap.size = w.heap.size + 1 from Array.size_push _] at h
    exact h
  · repeat first | exact Keeps.refl _ _ | refine Keeps.alloc ?_ _ | refine Keeps.setCell ?_ (.inr (by simp)) _
theorem get0_headD {l : List Bs} (h : 0 < l.length) : l[0] = l.headD [] := by
  cases l with
  | nil => simp at h
  | cons => rfl
theorem colsP_len (l : Bs) : (colsP l).length = (splitC 32 l).length := by simp [colsP]
theorem csCells_take (l : List Cl) (n : Nat) (h : n < l.length) : csCells (l.take (n + 1)) = csCells (l.take n) ++ cCells l[n] := by
  rw [List.take_succ_eq_append_getElem h, csCells_append]
  simp [csCells]
theorem cinfo : (Tryz.prog.info? 39).map (fun i => (i.zero, i.size, i.bytes)) = some (some (.agg #[.string ⟨#[]⟩, .int .i64 0]), 2, 24) := by kernel_rfl
theorem vinfo : (Tryz.prog.info? 32).map (fun i => (i.zero, i.size, i.bytes)) = some (some (.agg #[.int .i64 0, .int .i64 0, .string ⟨#[]⟩]), 3, 32) := by kernel_rfl
theorem rinfo : (Tryz.prog.info? 41).map (fun i => (i.zero, i.size, i.bytes)) = some (some (.slice none 0 0), 1, 24) := by kernel_rfl
theorem colsP_names (l : Bs) : ∀ x ∈ colsP l, x.name.length ≤ l.length := fun x hx => by
  obtain ⟨u, hu, rfl⟩ := List.mem_map.1 hx
  exact Nat.le_trans (cutC_len 58 u).1 ((splitC_len 32 l).2.2 u hu)
/-- Rows that this call has made: a row of slices, each of its elements a row of values. -/
def Rws (W : World) (base : Nat) (vr : Value) (rs : List (List Vl)) : Prop :=
  ∃ us : List Value, us.length = rs.length ∧ W.ownsRow base 41 1 vr rs.length us ∧ ∀ i (h : i < us.length) (h' : i < rs.length), W.ownsRow base 32 3 us[i] rs[i].length (vsCells rs[i])
theorem Rws.nil (W : World) (base : Nat) : Rws W base (.slice none 0 0) [] := ⟨[], rfl, World.ownsRow_nil _ _ _ _, fun i h => by simp at h⟩
theorem drop_at (l : List Bs) (m : Nat) (h : m + 1 < l.length) : l.tail.drop m = l[m + 1] :: l.tail.drop (m + 1) := by
  cases l with
  | nil => simp at h
  | cons a t =>
    simp only [List.tail_cons, List.getElem_cons_succ]
    exact List.drop_eq_getElem_cons (by simpa using h)
theorem cols_right {l : Bs} {M : Nat} {w3 W : World} {v : Value} (hM : (splitC 32 l).length = M) (h1 : 1 ≤ M) (h2 : M ≤ 4294967296) (hl : l.length ≤ 1000000) (h : W.ownsRow w3.heap.size 39 2 v M (csCells ((colsP l).take M))) :
    Calls Tryz.prog 49 #[v] W fun e w' => e = .returned (.bool (colsB (colsP l))) ∧ Keeps [] W w' := by
  obtain ⟨g, cap, rfl, hcap⟩ : ∃ g cap, v = .slice (some ⟨g, 0, none⟩) M cap ∧ M ≤ cap := by
    rcases h.2 with ⟨_, h0⟩ | ⟨g, cap, cur, hv, _, _, hc, _⟩
    · omega
    · exact ⟨g, cap, hv, hc⟩
  have hlen : (colsP l).length = M := by rw [colsP_len, hM]
  rw [List.take_of_length_le (by omega)] at h
  subst hlen
  exact rightCols_any (colsP l) _ cap W (Rd.of_own h (fun _ _ => by simp)) hcap (fun x hx => Nat.le_trans (colsP_names l x hx) (by omega)) h2
/-- What owns something, in words of reading. -/
theorem own_rd {w : World} {base : Nat} {e : TypeId} {size n : Nat} {v : Value} {xs : List Value} (h : w.ownsRow base e size v n xs) : ∃ A c, v = .slice A n c ∧ n ≤ c ∧ Rd w [] size A n xs := by
  rcases h.2 with ⟨rfl, rfl⟩ | ⟨g, cap, cur, rfl, hb, hh, hc, r⟩
  · refine ⟨none, 0, rfl, Nat.le_refl _, ?_⟩
    have : xs = [] := List.eq_nil_of_length_eq_zero (by rw [h.1]; simp)
    rw [this]
    exact Rd.nil
  · exact ⟨_, cap, rfl, hc, Rd.of_own h (fun _ _ => by simp)⟩
theorem own_some {w : World} {base : Nat} {e : TypeId} {size n : Nat} {v : Value} {xs : List Value} (h : w.ownsRow base e size v n xs) (h1 : 1 ≤ n) : ∃ g cap, v = .slice (some ⟨g, 0, none⟩) n cap ∧ n ≤ cap ∧ base ≤ g ∧ g < w.heap.size ∧ ∀ j u, xs[j]? = some u → w.cell? ⟨g, j, none⟩ = some u := by
  rcases h.2 with ⟨_, h0⟩ | ⟨g, cap, cur, rfl, hb, hh, hc, r⟩
  · omega
  · refine ⟨g, cap, rfl, hc, hb, (Array.getElem?_eq_some_iff.1 hh).1, fun j u hu => ?_⟩
    have := h.cells (g := g) rfl j u hu
    rwa [add_at, Nat.zero_add] at this
theorem own_base {w : World} {base base' : Nat} {e : TypeId} {size n : Nat} {v : Value} {xs : List Value} (h : w.ownsRow base' e size v n xs) (hb : base ≤ base') : w.ownsRow base e size v n xs := by
  refine ⟨h.1, ?_⟩
  rcases h.2 with h2 | ⟨g, cap, cur, hv, hg, r⟩
  · exact .inl h2
  · exact .inr ⟨g, cap, cur, hv, Nat.le_trans hb hg, r⟩
theorem own_set {w : World} {base b i : Nat} {e t : TypeId} {size n : Nat} {v u : Value} {xs : List Value} {cs : Array Value} (h : w.ownsRow base e size v n xs) (hb : Blk w b t cs) (he : e ≠ t) : (w.setCell ⟨b, i, none⟩ u).ownsRow base e size v n xs :=
  own_keep h (Keeps.setCell (Keeps.refl [b] w) (.inl (by simp)) u) (fun g hg hm => row_ne h hb he (by simp at hm; rw [hg, hm]))
theorem own_keepb {w w' : World} {base b : Nat} {e t : TypeId} {size n : Nat} {v : Value} {xs : List Value} {cs : Array Value} (h : w.ownsRow base e size v n xs) (hk : Keeps [b] w w') (hb : Blk w b t cs) (he : e ≠ t) : w'.ownsRow base e size v n xs :=
  own_keep h hk (fun g hg hm => row_ne h hb he (by simp at hm; rw [hg, hm]))
theorem own_grown {w w' : World} {base e' : Nat} {e : TypeId} {size n : Nat} {v : Value} {xs : List Value} {row : Option Nat} (h : w.ownsRow base e size v n xs) (hg : w.grownBy w' row) (hr : ∀ g, row = some g → ∃ cs fz, w.heap[g]? = some (.cells cs e' fz)) (he : e ≠ e') : w'.ownsRow base e size v n xs := by
  refine own_keep (L := row.toList) h (Keeps.grown (Keeps.refl _ w) hg (fun g hg => .inl (by rw [hg]; simp))) (fun g hv hm => ?_)
  obtain ⟨cs, fz, hh⟩ := hr g (by cases row with
    | none => cases hm
    | some x => simp at hm; rw [hm])
  rcases h.2 with ⟨rfl, _⟩ | ⟨g', cap, cur, rfl, _, hh', _⟩
  · cases hv
  · have : g' = g := by simpa [Value.ownBlock] using hv
    subst this
    rw [hh] at hh'
    injection hh' with hh'
    injection hh' with _ h2
    exact he h2.symm
theorem own_kind {w : World} {base : Nat} {e : TypeId} {size n : Nat} {v : Value} {xs : List Value} (h : w.ownsRow base e size v n xs) : ∀ g, v.ownBlock = some g → ∃ cs fz, w.heap[g]? = some (.cells cs e fz) := fun g hg => by
  rcases h.2 with ⟨rfl, _⟩ | ⟨g', cap, cur, rfl, _, hh', _⟩
  · cases hg
  · have : g' = g := by simpa [Value.ownBlock] using hg
    subst this
    exact ⟨_, _, hh'⟩
section
variable {W W' : World} {base b i : Nat} {vr u vq : Value} {rs : List (List Vl)} {q : List Vl} {cs : Array Value} {t : TypeId}
theorem Rws.keep (h : Rws W base vr rs) (hk : Keeps [] W W') : Rws W' base vr rs := by
  obtain ⟨us, h1, h2, h3⟩ := h
  exact ⟨us, h1, own_keep h2 hk (fun _ _ => by simp), fun i a c => own_keep (h3 i a c) hk (fun _ _ => by simp)⟩
theorem Rws.keepb (h : Rws W base vr rs) (hk : Keeps [b] W W') (hb : Blk W b t cs) (h1 : 41 ≠ t) (h2 : 32 ≠ t) : Rws W' base vr rs := by
  obtain ⟨us, hu, h3, h4⟩ := h
  exact ⟨us, hu, own_keepb h3 hk hb h1, fun i a c => own_keepb (h4 i a c) hk hb h2⟩
theorem Rws.set (h : Rws W base vr rs) (hb : Blk W b t cs) (h1 : 41 ≠ t) (h2 : 32 ≠ t) : Rws (W.setCell ⟨b, i, none⟩ u) base vr rs :=
  h.keepb (Keeps.setCell (Keeps.refl [b] W) (.inl (by simp)) u) hb h1 h2
theorem Rws.rd (h : Rws W base vr rs) : ∃ B d, vr = .slice B rs.length d ∧ rs.length ≤ d ∧ RdRows W [] B rs := by
  obtain ⟨us, h1, h2, h3⟩ := h
  obtain ⟨B, d, hv, hd, hr⟩ := own_rd h2
  refine ⟨B, d, hv, hd, us, h1, hr, fun i a c => ?_⟩
  obtain ⟨A, k, hv, hk, hr⟩ := own_rd (h3 i a c)
  exact ⟨A, k, hv, hk, hr⟩
/-- One row more. -/
theorem rws_snoc {us : List Value} {o : Obj} {gw cap : Nat} (h1 : us.length = rs.length) (h3 : ∀ i (h : i < us.length) (h' : i < rs.length), W.ownsRow base 32 3 us[i] rs[i].length (vsCells rs[i]))
    (hv : W.ownsRow base 41 1 vr rs.length us) (hq : W.ownsRow base 32 3 vq q.length (vsCells q)) (hg : (W.alloc o).grownBy W' vr.ownBlock)
    (hown : W'.ownsRow base 41 1 (.slice (some ⟨gw, 0, none⟩) (rs.length + 1) cap) (rs.length + 1) (us ++ [vq])) : Rws W' base (.slice (some ⟨gw, 0, none⟩) (rs.length + 1) cap) (rs ++ [q]) := by
  refine ⟨us ++ [vq], by simp [h1], by simpa using hown, fun i a c => ?_⟩
  have hkind := fun g hg => own_kind (hv.alloc o) g hg
  by_cases hi : i < us.length
  · rw [List.getElem_append_left hi, List.getElem_append_left (by omega)]
    exact own_grown ((h3 i hi (by omega)).alloc o) hg hkind (by decide)
  · have hi' : i = us.length := by simp at a; omega
    subst hi'
    rw [List.getElem_append_right (Nat.le_refl _), List.getElem_append_right (by omega)]
    simp only [h1, Nat.sub_self, List.getElem_cons_zero]
    exact own_grown (hq.alloc o) hg hkind (by decide)
end
theorem tabIn_of {W : World} {base base' n : Nat} {v vr : Value} {cols : List Cl} {rs : List (List Vl)} (hn : cols.length = n) (hv : W.ownsRow base 39 2 v n (csCells cols)) (hr : Rws W base' vr rs) (h1 : ∀ x ∈ cols, x.name.length ≤ 1000000000) (h2 : cols.length ≤ 4294967296) (h3 : rs.length ≤ 60) (h4 : ∀ r ∈ rs, r.length ≤ 4294967296) :
    ∃ A B c d, v = .slice A cols.length c ∧ vr = .slice B rs.length d ∧ TabIn W ⟨cols, rs⟩ A B c d := by
  subst hn
  obtain ⟨A, c, e1, hc, hA⟩ := own_rd hv
  obtain ⟨B, d, e2, hd, hB⟩ := hr.rd
  exact ⟨A, B, c, d, e1, e2, hA, hc, hB, hd, h1, h2, by simp only; omega, h4⟩
theorem pval_none {p : Bs} (h : pvL p = none) (hs : p.length ≤ 1000000000) (w : World) (hE : TEnv w) :
    Calls Tryz.prog 58 #[.string (bs p)] w fun e w' => e = .returned (.tuple #[.agg #[.int .i64 0, .int .i64 0, .string ⟨#[]⟩], .iface 74 (.int .i64 3)]) ∧ Keeps [] w w' := by
  have := parseValue_any p hs w hE
  rw [h] at this
  exact this
theorem pval_some {p : Bs} {u : Vl} (h : pvL p = some u) (hs : p.length ≤ 1000000000) (w : World) (hE : TEnv w) :
    Calls Tryz.prog 58 #[.string (bs p)] w fun e w' => e = .returned (.tuple #[.agg #[.int .i64 u.kind, .int .i64 u.num, .string (bs u.word)], .nilIface]) ∧ Keeps [] w w' := by
  have := parseValue_any p hs w hE
  rw [h] at this
  exact this
theorem heap_two (w : World) (o o2 : Obj) : ((w.alloc o).alloc o2).heap[w.heap.size + 1]? = some o2 := by
  have h := heap_alloc_new (w.alloc o) o2
  rw [show (w.alloc o).heap.size = w.heap.size + 1 from Array.size_push _] at h
  exact h
theorem blk_num {w : World} {g : Nat} {t : TypeId} {x y z : Int} (h : Blk w g t #[.int .i64 x, .int .i64 y]) (hy : y = z) : Blk w g t #[.int .i64 x, .int .i64 z] := hy ▸ h
theorem vsCells_snoc (q : List Vl) (v : Vl) : vsCells (q ++ [v]) = vsCells q ++ [.int .i64 v.kind, .int .i64 v.num, .string (bs v.word)] := by simp [vsCells, vCells]
theorem valsP_step {ps : List Bs} {n : Nat} (h : n < ps.length) (q : List Vl) : valsP (ps.drop n) q = match pvL ps[n] with
    | none => none
    | some v => valsP (ps.drop (n + 1)) (q ++ [v]) := by
  rw [List.drop_eq_getElem_cons h]
  rfl
theorem fits_false {cols : List Cl} {q : List Vl} (h : q.length ≠ cols.length) : fits cols q = false := by
  unfold fits
  rw [decide_eq_false h]
  rfl
theorem fits_bad {cols : List Cl} {q : List Vl} {j : Nat} (h : j < q.length) (h' : j < cols.length) (hne : q[j].kind ≠ cols[j].kind) : fits cols q = false := by
  unfold fits
  rw [Bool.and_eq_false_iff]
  right
  rw [List.all_eq_false]
  refine ⟨(q[j], cols[j]), ?_, by simpa using hne⟩
  rw [List.mem_iff_getElem]
  exact ⟨j, by rw [List.length_zip]; omega, by simp⟩
theorem fits_true {cols : List Cl} {q : List Vl} (h : q.length = cols.length) (hj : ∀ j (h : j < q.length) (h' : j < cols.length), q[j].kind = cols[j].kind) : fits cols q = true := by
  unfold fits
  rw [decide_eq_true h, Bool.true_and, List.all_eq_true]
  intro p hp
  obtain ⟨i, hi, rfl⟩ := List.getElem_of_mem hp
  have := hj i (by rw [List.length_zip] at hi; omega) (by rw [List.length_zip] at hi; omega)
  simpa using this
end Go.Proofs.YtomgnjgaafnkiaaGreatDoor
namespace Go.Proofs.YtomgnjgaafnkiaaGreatDoor
open Go.RowKit Go.BigFrame
/-- A slice of rows; a slice of such slices. -/
def RowsIs (w : World) (u : Value) (rs : List (List Vl)) : Prop := ∃ A c, u = .slice A rs.length c ∧ rs.length ≤ c ∧ RdRows w [] A rs
def RdTabs (w : World) (A : Option Addr) (l : List (List (List Vl))) : Prop :=
  ∃ us : List Value, us.length = l.length ∧ Rd w [] 1 A l.length us ∧ ∀ i (h : i < us.length) (h' : i < l.length), RowsIs w us[i] l[i]
def MadeOut (R : Except Int (List (List (List Vl)))) (e : Ending) (w' : World) : Prop := match R with
  | .error x => e = .returned (.tuple #[.slice none 0 0, .iface 74 (.int .i64 x)])
  | .ok out => ∃ B d, e = .returned (.tuple #[.slice B out.length d, .nilIface]) ∧ out.length ≤ d ∧ RdTabs w' B out
theorem RowsIs.keep {w w' : World} {u : Value} {l : List (List Vl)} (h : RowsIs w u l) (hk : Keeps [] w w') : RowsIs w' u l := by
  obtain ⟨A, c, e, hc, h⟩ := h
  exact ⟨A, c, e, hc, h.keep hk⟩
theorem RdTabs.keep {w w' : World} {A : Option Addr} {ls : List (List (List Vl))} (h : RdTabs w A ls) (hk : Keeps [] w w') : RdTabs w' A ls := by
  obtain ⟨us, h1, h2, h3⟩ := h
  exact ⟨us, h1, h2.keep hk, fun i a b => (h3 i a b).keep hk⟩
theorem MadeOut.split {R : Except Int (List (List (List Vl)))} {e : Ending} {w : World} (h : MadeOut R e w) : ∃ u v, e = .returned (.tuple #[u, v]) ∧ MadeOut R (.returned (.tuple #[u, v])) w := by
  cases R with
  | error x => exact ⟨_, _, h, rfl⟩
  | ok out =>
    obtain ⟨B, d, rfl, h1, h2⟩ := h
    exact ⟨_, _, rfl, B, d, rfl, h1, h2⟩
/-- Slices of rows in a block of their own. -/
theorem tabs_at {w : World} {g : Nat} {us : List Value} {l : List (List (List Vl))} (h1 : us.length = l.length) (hg : g < w.heap.size) (hc : ∀ j u, us[j]? = some u → w.cell? ⟨g, j, none⟩ = some u) (h : ∀ i (h : i < us.length) (h' : i < l.length), RowsIs w us[i] l[i]) : RdTabs w (some ⟨g, 0, none⟩) l := by
  refine ⟨us, h1, ⟨by omega, fun _ => ⟨_, rfl, by simp, hg, fun j u hu => ?_⟩⟩, h⟩
  rw [add_at, Nat.zero_add]
  exact hc j u hu
theorem tabs_one {w : World} {u : Value} {l : List (List Vl)} (h : RowsIs w u l) (t : TypeId) : RdTabs (w.alloc (.cells #[u] t)) (some ⟨w.heap.size, 0, none⟩) [l] := by
  have hk : Keeps [] w (w.alloc (.cells #[u] t)) := (Keeps.refl _ _).alloc _
  refine tabs_at (us := [u]) rfl (Blk.new _ _ _).lt (fun j x hx => ?_) (fun i h1 h2 => ?_)
  · rw [(Blk.new w t #[u]).cell j]
    simpa using hx
  · have hi : i = 0 := by simp at h1; omega
    subst hi
    exact h.keep hk
/-- A list of rows being gathered: the rows themselves lay there at the outset. -/
def Gath (w W : World) (base : Nat) (v : Value) (rs : List (List Vl)) : Prop :=
  ∃ us : List Value, us.length = rs.length ∧ W.ownsRow base 41 1 v rs.length us ∧ ∀ i (h : i < us.length) (h' : i < rs.length), RowIs w [] us[i] rs[i]
theorem Gath.nil (w _W : World) (base : Nat) : Gath w _W base (.slice none 0 0) [] := ⟨[], rfl, World.ownsRow_nil _ _ _ _, fun i h => by simp at h⟩
theorem Gath.keep {w W W' : World} {base : Nat} {v : Value} {rs : List (List Vl)} (h : Gath w W base v rs) (hk : Keeps [] W W') : Gath w W' base v rs := by
  obtain ⟨us, h1, h2, h3⟩ := h
  exact ⟨us, h1, own_keep h2 hk (fun _ _ => by simp), h3⟩
theorem Gath.kept {w W W' : World} {base : Nat} {v : Value} {rs : List (List Vl)} {row : Option Nat} (h : Gath w W base v rs) (hg : W.grownBy W' row) (hne : v.ownBlock = none ∨ v.ownBlock ≠ row) : Gath w W' base v rs := by
  obtain ⟨us, h1, h2, h3⟩ := h
  exact ⟨us, h1, h2.kept hg hne, h3⟩
theorem Gath.is {w W : World} {base : Nat} {v : Value} {rs : List (List Vl)} (h : Gath w W base v rs) (hk : Keeps [] w W) : RowsIs W v rs := by
  obtain ⟨us, h1, h2, h3⟩ := h
  obtain ⟨A, c, e, hc, hr⟩ := own_rd h2
  exact ⟨A, c, e, hc, us, h1, hr, fun i a b => (h3 i a b).keep hk⟩
theorem gath_snoc {w W' : World} {base gw cap : Nat} {us : List Value} {rs : List (List Vl)} {r : List Vl} {u : Value} (h1 : us.length = rs.length) (h3 : ∀ i (h : i < us.length) (h' : i < rs.length), RowIs w [] us[i] rs[i]) (hu : RowIs w [] u r)
    (hown : W'.ownsRow base 41 1 (.slice (some ⟨gw, 0, none⟩) (rs.length + 1) cap) (rs.length + 1) (us ++ [u])) : Gath w W' base (.slice (some ⟨gw, 0, none⟩) (rs.length + 1) cap) (rs ++ [r]) := by
  refine ⟨us ++ [u], by simp [h1], by simpa using hown, fun i a b => ?_⟩
  by_cases hi : i < us.length
  · rw [List.getElem_append_left hi, List.getElem_append_left (by omega)]
    exact h3 i hi (by omega)
  · have hi' : i = us.length := by simp at a; omega
    subst hi'
    rw [List.getElem_append_right (Nat.le_refl _), List.getElem_append_right (by omega)]
    simpa [h1] using hu
end Go.Proofs.YtomgnjgaafnkiaaGreatDoor
namespace Go.Proofs.YtomgnjgaafnkiaaGreatDoor
open Go.RowKit Go.BigFrame
def flat2 (us : List (Value × Value)) : List Value := us.flatMap fun p => [p.1, p.2]
theorem flat2_length (us : List (Value × Value)) : (flat2 us).length = us.length * 2 := by
  induction us with
  | nil => rfl
  | cons p l ih =>
    unfold flat2 at ih ⊢
    simp only [List.flatMap_cons, List.length_append, List.length_cons, List.length_nil, ih]
    omega
theorem flat2_at (l : List (Value × Value)) (k : Nat) (h : k < l.length) : (flat2 l)[k * 2]? = some l[k].1 ∧ (flat2 l)[k * 2 + 1]? = some l[k].2 := by
  induction l generalizing k with
  | nil => simp at h
  | cons p l ih =>
    rcases k with _ | k
    · simp [flat2]
    · have := ih k (by simpa using h)
      simpa [flat2, Nat.succ_mul] using this
theorem flat2_snoc (us : List (Value × Value)) (p : Value × Value) : flat2 (us ++ [p]) = flat2 us ++ [p.1, p.2] := by simp [flat2]
/-- A table in two cells; tables in a row. -/
def TbIs (w : World) (u : Value × Value) (t : Tb) : Prop := HeadIs w u.1 t.cols ∧ RowsIs w u.2 t.rows
def RdTbs (w : World) (A : Option Addr) (ts : List Tb) : Prop :=
  ∃ us : List (Value × Value), us.length = ts.length ∧ Rd w [] 2 A ts.length (flat2 us) ∧ ∀ i (h : i < us.length) (h' : i < ts.length), TbIs w us[i] ts[i]
/-- Bounds of a table. -/
structure TbB (t : Tb) : Prop where
  names : ∀ x ∈ t.cols, x.name.length ≤ 1000000000
  ln : t.cols.length ≤ 4294967296
  lm : t.rows.length ≤ 4294967296
  lr : ∀ r ∈ t.rows, r.length ≤ 4294967296
theorem TbIs.keep {w w' : World} {u : Value × Value} {t : Tb} (h : TbIs w u t) (hk : Keeps [] w w') : TbIs w' u t := ⟨h.1.keep hk, h.2.keep hk⟩
theorem RdTbs.keep {w w' : World} {A : Option Addr} {ts : List Tb} (h : RdTbs w A ts) (hk : Keeps [] w w') : RdTbs w' A ts := by
  obtain ⟨us, h1, h2, h3⟩ := h
  exact ⟨us, h1, h2.keep hk, fun i a b => (h3 i a b).keep hk⟩
/-- What Do hands back. -/
def DoOut (R : Except Int (List Tb)) (e : Ending) (w' : World) : Prop := match R with
  | .error x => e = .returned (.tuple #[.slice none 0 0, .iface 74 (.int .i64 x)])
  | .ok l => ∃ B d, e = .returned (.tuple #[.slice B l.length d, .nilIface]) ∧ l.length ≤ d ∧ RdTbs w' B l
theorem tabs_bad {out : List (List Cl)} {rows : List (List (List Vl))} {i : Nat} (h1 : i < out.length) (h2 : i < rows.length) (h : 60 < rows[i].length) : tabsJ out rows = .error 12 := by
  induction rows generalizing out i with
  | nil => simp at h2
  | cons r rs ih =>
    cases out with
    | nil => simp at h1
    | cons c cs =>
      unfold tabsJ
      split
      · rfl
      · rename_i hr
        rcases i with _ | i
        · exact absurd h hr
        · rw [ih (out := cs) (i := i) (by simpa using h1) (by simpa using h2) (by simpa using h)]
theorem tabs_good {out : List (List Cl)} {rows : List (List (List Vl))} (h : out.length = rows.length) (hr : ∀ i (h : i < rows.length), rows[i].length ≤ 60) : tabsJ out rows = .ok (List.zipWith Tb.mk out rows) := by
  induction rows generalizing out with
  | nil =>
    have : out = [] := List.eq_nil_of_length_eq_zero (by simpa using h)
    rw [this]; rfl
  | cons r rs ih =>
    cases out with
    | nil => simp at h
    | cons c cs =>
      unfold tabsJ
      rw [if_neg (by have := hr 0 (by simp); simp at this; omega), ih (by simpa using h) (fun i hi => by have := hr (i + 1) (by simpa using hi); simpa using this)]
      rfl
theorem cols_len {j : Jb} {ins : List (List Cl)} {out : List (List Cl)} (h : colsJ j ins = .ok out) : out.length = if j.code = 9 then 2 else 1 := by
  unfold colsJ at h
  split at h
  · cases h
  · split at h
    · unfold comparedJ at h
      split at h
      · cases h
      · split at h
        · cases h
        · split at h
          · cases h
          · injection h with h
            rw [← h, List.length_replicate]
    · rename_i h19
      rw [if_neg (fun e => h19 (.inr e))]
      have key : ∀ {c : List Cl}, out = [c] → out.length = 1 := fun e => by rw [e]; rfl
      split at h
      · unfold setJ at h
        split at h
        · cases h
        · split at h
          · cases h
          · split at h
            · cases h
            · injection h with h; exact key h.symm
      · split at h
        · unfold pickedJ at h
          split at h
          · cases h
          · split at h
            · cases h
            · injection h with h; exact key h.symm
        · split at h
          · split at h
            · cases h
            · injection h with h; exact key h.symm
          · split at h
            · unfold joinedJ at h
              split at h
              · cases h
              · split at h
                · split at h
                  · cases h
                  · split at h
                    · cases h
                    · split at h
                      · cases h
                      · injection h with h; exact key h.symm
                · cases h
            · split at h
              · unfold groupedJ at h
                split at h
                · cases h
                · split at h
                  · split at h
                    · cases h
                    · split at h
                      · cases h
                      · injection h with h; exact key h.symm
                  · cases h
              · injection h with h; exact key h.symm
theorem made_len {j : Jb} {ins : List Tb} {out : List (List Cl)} {rows : List (List (List Vl))} (ho : out.length = if j.code = 9 then 2 else 1) (h : madeJ j ins out = .ok rows) : out.length = rows.length := by
  unfold madeJ at h
  simp only at h
  split at h
  · injection h with h
    rw [← h, List.length_take]
    show out.length = min out.length 2
    rw [ho]
    split <;> rfl
  · rename_i h19
    rw [ho, if_neg (fun e => h19 (.inr e))]
    have key : ∀ {c : List (List Vl)}, rows = [c] → 1 = rows.length := fun e => by rw [e]; rfl
    split at h
    · split at h
      · cases h
      · injection h with h; exact key h.symm
    · split at h
      · injection h with h; exact key h.symm
      · split at h
        · injection h with h; exact key h.symm
        · injection h with h; exact key h.symm
/-- Heads being gathered; tables being gathered. -/
def HGath (w W : World) (base : Nat) (v : Value) (ls : List (List Cl)) : Prop :=
  ∃ us : List Value, us.length = ls.length ∧ W.ownsRow base 22 1 v ls.length us ∧ ∀ i (h : i < us.length) (h' : i < ls.length), HeadIs w us[i] ls[i]
theorem HGath.nil (w W : World) (base : Nat) : HGath w W base (.slice none 0 0) [] := ⟨[], rfl, World.ownsRow_nil _ _ _ _, fun i h => by simp at h⟩
theorem HGath.is {w W : World} {base : Nat} {v : Value} {ls : List (List Cl)} (h : HGath w W base v ls) (hk : Keeps [] w W) : ∃ A c, v = .slice A ls.length c ∧ ls.length ≤ c ∧ RdHeads W A ls := by
  obtain ⟨us, h1, h2, h3⟩ := h
  obtain ⟨A, c, e, hc, hr⟩ := own_rd h2
  exact ⟨A, c, e, hc, us, h1, hr, fun i a b => (h3 i a b).keep hk⟩
theorem hgath_snoc {w W' : World} {base gw cap : Nat} {us : List Value} {ls : List (List Cl)} {l : List Cl} {u : Value} (h1 : us.length = ls.length) (h3 : ∀ i (h : i < us.length) (h' : i < ls.length), HeadIs w us[i] ls[i]) (hu : HeadIs w u l)
    (hown : W'.ownsRow base 22 1 (.slice (some ⟨gw, 0, none⟩) (ls.length + 1) cap) (ls.length + 1) (us ++ [u])) : HGath w W' base (.slice (some ⟨gw, 0, none⟩) (ls.length + 1) cap) (ls ++ [l]) := by
  refine ⟨us ++ [u], by simp [h1], by simpa using hown, fun i a b => ?_⟩
  by_cases hi : i < us.length
  · rw [List.getElem_append_left hi, List.getElem_append_left (by omega)]
    exact h3 i hi (by omega)
  · have hi' : i = us.length := by simp at a; omega
    subst hi'
    rw [List.getElem_append_right (Nat.le_refl _), List.getElem_append_right (by omega)]
    simpa [h1] using hu
def TGath (w W : World) (base : Nat) (v : Value) (ts : List Tb) : Prop :=
  ∃ us : List (Value × Value), us.length = ts.length ∧ W.ownsRow base 25 2 v ts.length (flat2 us) ∧ ∀ i (h : i < us.length) (h' : i < ts.length), TbIs w us[i] ts[i]
theorem TGath.nil (w W : World) (base : Nat) : TGath w W base (.slice none 0 0) [] := ⟨[], rfl, World.ownsRow_nil _ _ _ _, fun i h => by simp at h⟩
theorem TGath.is {w W : World} {base : Nat} {v : Value} {ts : List Tb} (h : TGath w W base v ts) (hk : Keeps [] w W) : ∃ A c, v = .slice A ts.length c ∧ ts.length ≤ c ∧ RdTbs W A ts := by
  obtain ⟨us, h1, h2, h3⟩ := h
  obtain ⟨A, c, e, hc, hr⟩ := own_rd h2
  exact ⟨A, c, e, hc, us, h1, hr, fun i a b => (h3 i a b).keep hk⟩
theorem tgath_snoc {w W' : World} {base gw cap : Nat} {us : List (Value × Value)} {ts : List Tb} {t : Tb} {u x : Value} (h1 : us.length = ts.length) (h3 : ∀ i (h : i < us.length) (h' : i < ts.length), TbIs w us[i] ts[i]) (hu : HeadIs w u t.cols) (hx : RowsIs w x t.rows)
    (hown : W'.ownsRow base 25 2 (.slice (some ⟨gw, 0, none⟩) (ts.length + 1) cap) (ts.length + 1) (flat2 us ++ [u, x])) : TGath w W' base (.slice (some ⟨gw, 0, none⟩) (ts.length + 1) cap) (ts ++ [t]) := by
  refine ⟨us ++ [(u, x)], by simp [h1], by rw [flat2_snoc]; simpa using hown, fun i a b => ?_⟩
  by_cases hi : i < us.length
  · rw [List.getElem_append_left hi, List.getElem_append_left (by omega)]
    exact h3 i hi (by omega)
  · have hi' : i = us.length := by simp at a; omega
    subst hi'
    rw [List.getElem_append_right (Nat.le_refl _), List.getElem_append_right (by omega)]
    have : ts.length = us.length := h1.symm
    simp only [Nat.sub_self, this, List.getElem_cons_zero]
    exact ⟨hu, hx⟩
/-- The cells of a box of fifteen. -/
theorem box15 {W : World} {b : Nat} {t : TypeId} {v0 v1 v2 v3 v4 v5 v6 v7 v8 v9 v10 v11 v12 v13 v14 : Value} (h : Blk W b t #[v0, v1, v2, v3, v4, v5, v6, v7, v8, v9, v10, v11, v12, v13, v14]) :
    W.cell? ⟨b, 0, none⟩ = some v0 ∧ W.cell? ⟨b, 1, none⟩ = some v1 ∧ W.cell? ⟨b, 2, none⟩ = some v2 ∧ W.cell? ⟨b, 3, none⟩ = some v3 ∧ W.cell? ⟨b, 4, none⟩ = some v4 ∧ W.cell? ⟨b, 5, none⟩ = some v5 ∧ W.cell? ⟨b, 6, none⟩ = some v6 ∧ W.cell? ⟨b, 7, none⟩ = some v7 ∧ W.cell? ⟨b, 8, none⟩ = some v8 ∧ W.cell? ⟨b, 9, none⟩ = some v9 ∧ W.cell? ⟨b, 10, none⟩ = some v10 ∧ W.cell? ⟨b, 11, none⟩ = some v11 ∧ W.cell? ⟨b, 12, none⟩ = some v12 ∧ W.cell? ⟨b, 13, none⟩ = some v13 ∧ W.cell? ⟨b, 14, none⟩ = some v14 :=
  ⟨h.cell 0, h.cell 1, h.cell 2, h.cell 3, h.cell 4, h.cell 5, h.cell 6, h.cell 7, h.cell 8, h.cell 9, h.cell 10, h.cell 11, h.cell 12, h.cell 13, h.cell 14⟩
end Go.Proofs.YtomgnjgaafnkiaaGreatDoor
