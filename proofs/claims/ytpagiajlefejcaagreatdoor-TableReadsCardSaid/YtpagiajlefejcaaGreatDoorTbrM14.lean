/- table.Parse: words for what it makes. The reference's pieces: a line cut at blanks, but not within '. -/
import Derived.Test.YtpagiajlefejcaaGreatDoorTbrM13
import Derived.Test.YtpagiajlefejcaaGreatDoorTbrM12
import Derived.Test.YtpagiajlefejcaaGreatDoorTbrM9
import Derived.Deep.AppendLies
import Derived.Test.YtpagiajlefejcaaGreatDoorTbrM10
import Derived.Deep.CutBlock
import Derived.Deep.DeepCutAuto
set_option linter.unusedSimpArgs false
set_option linter.unusedVariables false
namespace Go.Proofs.YtpagiajlefejcaaGreatDoor
open Go.RowKit
attribute [local go_sem] bs_size bs_extract bs_append bs_toList
def ParseOut (R : PR) (e : Ending) (w' : World) : Prop := match R with
 | .ok t => ∃ A B c d, e = .returned (.tuple #[tAgg A t.cols.length c B t.rows.length d, .nilIface]) ∧ TabIn w' t A B c d
 | .bad x p => ∃ g, e = .returned (.tuple #[tAgg none 0 0 none 0 0, .iface 136 (.pointer (some ⟨g, 0, none⟩))]) ∧ Blk w' g 137 #[.int .i64 x, .int .i64 p]
theorem row_alloc_of {w w' : World} {base : Nat} {e : TypeId} {size n : Nat} {v : Value} {xs : List Value} {o : Obj} (h : w.ownsRow base e size v n xs) (hk : Keeps [] w.drew w') : (w'.alloc o).ownsRow base e size v n xs :=
 (own_keep h (L := []) ⟨hk.os, hk.output, hk.size, hk.block⟩ (fun _ _ => by simp)).alloc o
theorem le_base {w w' : World} {b : Nat} {o : Obj} (h : b ≤ w.heap.size) (hk : Keeps [] w.drew w') : b ≤ (w'.alloc o).heap.size := by
 have h1 := hk.size
 have h2 : w.drew.heap.size = w.heap.size := rfl
 simp
 omega
theorem row_ne {w : World} {base : Nat} {e t : TypeId} {size n : Nat} {v : Value} {xs : List Value} {g : Nat} {cs : Array Value} (h : w.ownsRow base e size v n xs) (hg : Blk w g t cs) (hne : e ≠ t) : v.ownBlock ≠ some g := fun hv => by
 rcases h.2 with ⟨rfl, _⟩ | ⟨g', cap, cur, rfl, _, hh, _⟩
 ·cases hv
 ·have : g' = g := by simpa [Value.ownBlock] using hv
  subst this
  unfold Blk at hg
  rw [hg] at hh
  injection hh with hh
  injection hh with _ h2
  exact hne h2.symm
theorem Keeps.of_drew {w w' : World} {L : List Nat} (h : Keeps L w.drew w') : Keeps L w w' := ⟨h.os, h.output, h.size, h.block⟩
theorem cols_step {w3 wr w5 w6 w7 : World} {bt gw cap n m size : Nat} {v r : Value} {xs ys : List Value} {o : Obj} {e : TypeId} (he : e ≠ 25) (hk3r : Keeps [bt] w3 wr) (hk5 : Keeps [] wr w5)
  (hown : w5.ownsRow w3.heap.size e size v n xs) (hbt : Blk w5 bt 25 #[v, r]) (hk6 : Keeps [] w5.drew w6) (hown7 : w7.ownsRow w3.heap.size e size (.slice (some ⟨gw, 0, none⟩) m cap) m ys) (hgrow : (w6.alloc o).grownBy w7 v.ownBlock) :
  (w7.setCell ⟨bt, 0, none⟩ (.slice (some ⟨gw, 0, none⟩) m cap)).ownsRow w3.heap.size e size (.slice (some ⟨gw, 0, none⟩) m cap) m ys ∧ Blk (w7.setCell ⟨bt, 0, none⟩ (.slice (some ⟨gw, 0, none⟩) m cap)) bt 25 #[.slice (some ⟨gw, 0, none⟩) m cap, r] ∧ Keeps [bt] w3 (w7.setCell ⟨bt, 0, none⟩ (.slice (some ⟨gw, 0, none⟩) m cap)) := by
 have hbt6 := (hbt.keep hk6.of_drew (by simp)).alloc o
 have hne := row_ne hown hbt he
 have hbt7 : Blk w7 bt 25 #[v, r] := (hgrow.block bt hbt6.lt (fun e => hne e.symm)).trans hbt6
 have hne7 := row_ne hown7 hbt7 he
 have hk7 : Keeps [bt] w3 w7 := Keeps.grown (((hk3r.trans (hk5.weaken (by simp))).trans (hk6.of_drew.weaken (by simp))).alloc o) hgrow (fun g hg => .inr (hown.lt g hg).1)
 refine ⟨own_keep hown7 (Keeps.setCell (Keeps.refl [bt] w7) (.inl (by simp)) _) (fun g hg hm => ?_), ?_, hk7.setCell (.inl (by simp)) _⟩
 ·have : g = bt := by simpa using hm
  subst this
  exact hne7 hg
 ·exact (hbt7.set 0 _).congr rfl
set_option maxHeartbeats 1000000 in
theorem fail_any (x p : Int) (w : World) :
  Calls Tryz.prog 68 #[.int .i64 x, .int .i64 p] w fun e w' => ∃ g, e = .returned (.tuple #[.agg #[.slice none 0 0, .slice none 0 0], .iface 136 (.pointer (some ⟨g, 0, none⟩))]) ∧ Blk w' g 137 #[.int .i64 x, .int .i64 p] ∧ Keeps [] w w' := by
 go_enter Tryz.func68, Tryz.ntmps68
 go_wp2
 refine bodyPost_ret (v := .tuple #[.agg #[.slice none 0 0, .slice none 0 0], .iface 136 (.pointer (some ⟨w.heap.size + 1, 0, none⟩))]) (by simp [results, Tryz.results68, go_sem]) rfl ⟨_, rfl, ?_, ?_⟩
 ·have h := Blk.new (w.alloc (.cells #[.slice none 0 0, .slice none 0 0] 25)) 137 #[.int .i64 x, .int .i64 p]
  rw [show (w.alloc (.cells #[.slice none 0 0, .slice none 0 0] 25)).heap.size = w.heap.size + 1 from Array.size_push _] at h
  exact h
 ·repeat first | exact Keeps.refl _ _ | refine Keeps.alloc ?_ _ | refine Keeps.setCell ?_ (.inr (by simp)) _
theorem get0_headD {l : List Bs} (h : 0 < l.length) : l[0] = l.headD [] := by
 cases l with
 | nil => simp at h
 | cons => rfl
theorem colsP_len (l : Bs) : (colsP l).length = (splitC 32 l).length := by simp [colsP]
theorem csCells_take (l : List Cl) (n : Nat) (h : n < l.length) : csCells (l.take (n + 1)) = csCells (l.take n) ++ cCells l[n] := by
 rw [List.take_succ_eq_append_getElem h, csCells_append]
 simp [csCells]
theorem cinfo : (Tryz.prog.info? 109).map (fun i => (i.zero, i.size, i.bytes)) = some (some (.agg #[.string ⟨#[]⟩, .int .i64 0]), 2, 24) := by kernel_rfl
theorem vinfo : (Tryz.prog.info? 27).map (fun i => (i.zero, i.size, i.bytes)) = some (some (.agg #[.int .i64 0, .int .i64 0, .string ⟨#[]⟩]), 3, 32) := by kernel_rfl
theorem rinfo : (Tryz.prog.info? 110).map (fun i => (i.zero, i.size, i.bytes)) = some (some (.slice none 0 0), 1, 24) := by kernel_rfl
theorem colsP_names (l : Bs) : ∀ x ∈ colsP l, x.name.length ≤ l.length := fun x hx => by
 obtain ⟨u, hu, rfl⟩ := List.mem_map.1 hx
 exact Nat.le_trans (cutC_len 58 u).1 ((splitC_len 32 l).2.2 u hu)
def Rws (W : World) (base : Nat) (vr : Value) (rs : List (List Vl)) : Prop :=
 ∃ us : List Value, us.length = rs.length ∧ W.ownsRow base 110 1 vr rs.length us ∧ ∀ i (h : i < us.length) (h' : i < rs.length), W.ownsRow base 27 3 us[i] rs[i].length (vsCells rs[i])
theorem Rws.nil (W : World) (base : Nat) : Rws W base (.slice none 0 0) [] := ⟨[], rfl, World.ownsRow_nil _ _ _ _, fun i h => by simp at h⟩
theorem drop_at (l : List Bs) (m : Nat) (h : m + 1 < l.length) : l.tail.drop m = l[m + 1] :: l.tail.drop (m + 1) := by
 cases l with
 | nil => simp at h
 | cons a t =>
  simp only [List.tail_cons, List.getElem_cons_succ]
  exact List.drop_eq_getElem_cons (by simpa using h)
theorem cols_right {l : Bs} {M : Nat} {w3 W : World} {v : Value} (hM : (splitC 32 l).length = M) (h1 : 1 ≤ M) (h2 : M ≤ 4294967296) (hl : l.length ≤ 1000000) (h : W.ownsRow w3.heap.size 109 2 v M (csCells ((colsP l).take M))) :
  Calls Tryz.prog 10 #[v] W fun e w' => e = .returned (.bool (colsB (colsP l))) ∧ Keeps [] W w' := by
 obtain ⟨g, cap, rfl, hcap⟩ : ∃ g cap, v = .slice (some ⟨g, 0, none⟩) M cap ∧ M ≤ cap := by
  rcases h.2 with ⟨_, h0⟩ | ⟨g, cap, cur, hv, _, _, hc, _⟩
  ·omega
  ·exact ⟨g, cap, hv, hc⟩
 have hlen : (colsP l).length = M := by rw [colsP_len, hM]
 rw [List.take_of_length_le (by omega)] at h
 subst hlen
 exact rightCols_any (colsP l) _ cap W (Rd.of_own h (fun _ _ => by simp)) hcap (fun x hx => Nat.le_trans (colsP_names l x hx) (by omega)) h2
theorem own_rd {w : World} {base : Nat} {e : TypeId} {size n : Nat} {v : Value} {xs : List Value} (h : w.ownsRow base e size v n xs) : ∃ A c, v = .slice A n c ∧ n ≤ c ∧ Rd w [] size A n xs := by
 rcases h.2 with ⟨rfl, rfl⟩ | ⟨g, cap, cur, rfl, hb, hh, hc, r⟩
 ·refine ⟨none, 0, rfl, Nat.le_refl _, ?_⟩
  have : xs = [] := List.eq_nil_of_length_eq_zero (by rw [h.1]; simp)
  rw [this]
  exact Rd.nil
 ·exact ⟨_, cap, rfl, hc, Rd.of_own h (fun _ _ => by simp)⟩
theorem own_some {w : World} {base : Nat} {e : TypeId} {size n : Nat} {v : Value} {xs : List Value} (h : w.ownsRow base e size v n xs) (h1 : 1 ≤ n) : ∃ g cap, v = .slice (some ⟨g, 0, none⟩) n cap ∧ n ≤ cap ∧ base ≤ g ∧ g < w.heap.size ∧ ∀ j u, xs[j]? = some u → w.cell? ⟨g, j, none⟩ = some u := by
 rcases h.2 with ⟨_, h0⟩ | ⟨g, cap, cur, rfl, hb, hh, hc, r⟩
 ·omega
 ·refine ⟨g, cap, rfl, hc, hb, (Array.getElem?_eq_some_iff.1 hh).1, fun j u hu => ?_⟩
  have := h.cells (g := g) rfl j u hu
  rwa [add_at, Nat.zero_add] at this
theorem own_base {w : World} {base base' : Nat} {e : TypeId} {size n : Nat} {v : Value} {xs : List Value} (h : w.ownsRow base' e size v n xs) (hb : base ≤ base') : w.ownsRow base e size v n xs := by
 refine ⟨h.1, ?_⟩
 rcases h.2 with h2 | ⟨g, cap, cur, hv, hg, r⟩
 ·exact .inl h2
 ·exact .inr ⟨g, cap, cur, hv, Nat.le_trans hb hg, r⟩
theorem own_set {w : World} {base b i : Nat} {e t : TypeId} {size n : Nat} {v u : Value} {xs : List Value} {cs : Array Value} (h : w.ownsRow base e size v n xs) (hb : Blk w b t cs) (he : e ≠ t) : (w.setCell ⟨b, i, none⟩ u).ownsRow base e size v n xs :=
 own_keep h (Keeps.setCell (Keeps.refl [b] w) (.inl (by simp)) u) (fun g hg hm => row_ne h hb he (by simp at hm; rw [hg, hm]))
theorem own_keepb {w w' : World} {base b : Nat} {e t : TypeId} {size n : Nat} {v : Value} {xs : List Value} {cs : Array Value} (h : w.ownsRow base e size v n xs) (hk : Keeps [b] w w') (hb : Blk w b t cs) (he : e ≠ t) : w'.ownsRow base e size v n xs :=
 own_keep h hk (fun g hg hm => row_ne h hb he (by simp at hm; rw [hg, hm]))
theorem own_grown {w w' : World} {base e' : Nat} {e : TypeId} {size n : Nat} {v : Value} {xs : List Value} {row : Option Nat} (h : w.ownsRow base e size v n xs) (hg : w.grownBy w' row) (hr : ∀ g, row = some g → ∃ cs fz, w.heap[g]? = some (.cells cs e' fz)) (he : e ≠ e') : w'.ownsRow base e size v n xs := by
 refine own_keep (L := row.toList) h (Keeps.grown (Keeps.refl _ w) hg (fun g hg => .inl (by rw [hg]; simp))) (fun g hv hm => ?_)
 obtain ⟨cs, fz, hh⟩ := hr g (by cases row with
  | none => cases hm
  | some x => simp at hm; rw [hm])
 rcases h.2 with ⟨rfl, _⟩ | ⟨g', cap, cur, rfl, _, hh', _⟩
 ·cases hv
 ·have : g' = g := by simpa [Value.ownBlock] using hv
  subst this
  rw [hh] at hh'
  injection hh' with hh'
  injection hh' with _ h2
  exact he h2.symm
theorem own_kind {w : World} {base : Nat} {e : TypeId} {size n : Nat} {v : Value} {xs : List Value} (h : w.ownsRow base e size v n xs) : ∀ g, v.ownBlock = some g → ∃ cs fz, w.heap[g]? = some (.cells cs e fz) := fun g hg => by
 rcases h.2 with ⟨rfl, _⟩ | ⟨g', cap, cur, rfl, _, hh', _⟩
 ·cases hg
 ·have : g' = g := by simpa [Value.ownBlock] using hg
  subst this
  exact ⟨_, _, hh'⟩
section
variable {W W' : World} {base b i : Nat} {vr u vq : Value} {rs : List (List Vl)} {q : List Vl} {cs : Array Value} {t : TypeId}
theorem Rws.keep (h : Rws W base vr rs) (hk : Keeps [] W W') : Rws W' base vr rs := by
 obtain ⟨us, h1, h2, h3⟩ := h
 exact ⟨us, h1, own_keep h2 hk (fun _ _ => by simp), fun i a c => own_keep (h3 i a c) hk (fun _ _ => by simp)⟩
theorem Rws.keepb (h : Rws W base vr rs) (hk : Keeps [b] W W') (hb : Blk W b t cs) (h1 : 110 ≠ t) (h2 : 27 ≠ t) : Rws W' base vr rs := by
 obtain ⟨us, hu, h3, h4⟩ := h
 exact ⟨us, hu, own_keepb h3 hk hb h1, fun i a c => own_keepb (h4 i a c) hk hb h2⟩
theorem Rws.set (h : Rws W base vr rs) (hb : Blk W b t cs) (h1 : 110 ≠ t) (h2 : 27 ≠ t) : Rws (W.setCell ⟨b, i, none⟩ u) base vr rs :=
 h.keepb (Keeps.setCell (Keeps.refl [b] W) (.inl (by simp)) u) hb h1 h2
theorem Rws.rd (h : Rws W base vr rs) : ∃ B d, vr = .slice B rs.length d ∧ rs.length ≤ d ∧ RdRows W [] B rs := by
 obtain ⟨us, h1, h2, h3⟩ := h
 obtain ⟨B, d, hv, hd, hr⟩ := own_rd h2
 refine ⟨B, d, hv, hd, us, h1, hr, fun i a c => ?_⟩
 obtain ⟨A, k, hv, hk, hr⟩ := own_rd (h3 i a c)
 exact ⟨A, k, hv, hk, hr⟩
theorem rws_snoc {us : List Value} {o : Obj} {gw cap : Nat} (h1 : us.length = rs.length) (h3 : ∀ i (h : i < us.length) (h' : i < rs.length), W.ownsRow base 27 3 us[i] rs[i].length (vsCells rs[i]))
  (hv : W.ownsRow base 110 1 vr rs.length us) (hq : W.ownsRow base 27 3 vq q.length (vsCells q)) (hg : (W.alloc o).grownBy W' vr.ownBlock)
  (hown : W'.ownsRow base 110 1 (.slice (some ⟨gw, 0, none⟩) (rs.length + 1) cap) (rs.length + 1) (us ++ [vq])) : Rws W' base (.slice (some ⟨gw, 0, none⟩) (rs.length + 1) cap) (rs ++ [q]) := by
 refine ⟨us ++ [vq], by simp [h1], by simpa using hown, fun i a c => ?_⟩
 have hkind := fun g hg => own_kind (hv.alloc o) g hg
 by_cases hi : i < us.length
 ·rw [List.getElem_append_left hi, List.getElem_append_left (by omega)]
  exact own_grown ((h3 i hi (by omega)).alloc o) hg hkind (by decide)
 ·have hi' : i = us.length := by simp at a; omega
  subst hi'
  rw [List.getElem_append_right (Nat.le_refl _), List.getElem_append_right (by omega)]
  simp only [h1, Nat.sub_self, List.getElem_cons_zero]
  exact own_grown (hq.alloc o) hg hkind (by decide)
end
theorem tabIn_of {W : World} {base base' n : Nat} {v vr : Value} {cols : List Cl} {rs : List (List Vl)} (hn : cols.length = n) (hv : W.ownsRow base 109 2 v n (csCells cols)) (hr : Rws W base' vr rs) (h1 : ∀ x ∈ cols, x.name.length ≤ 1000000000) (h2 : cols.length ≤ 4294967296) (h3 : rs.length ≤ 60) (h4 : ∀ r ∈ rs, r.length ≤ 4294967296) :
  ∃ A B c d, v = .slice A cols.length c ∧ vr = .slice B rs.length d ∧ TabIn W ⟨cols, rs⟩ A B c d := by
 subst hn
 obtain ⟨A, c, e1, hc, hA⟩ := own_rd hv
 obtain ⟨B, d, e2, hd, hB⟩ := hr.rd
 exact ⟨A, B, c, d, e1, e2, hA, hc, hB, hd, h1, h2, by simp only; omega, h4⟩
theorem pval_none {p : Bs} (h : pvL p = none) (hs : p.length ≤ 1000000000) (w : World) (hE : TEnv w) :
  Calls Tryz.prog 24 #[.string (bs p)] w fun e w' => e = .returned (.tuple #[.agg #[.int .i64 0, .int .i64 0, .string ⟨#[]⟩], .iface 34 (.int .i64 3)]) ∧ Keeps [] w w' := by
 have := parseValue_any p hs w hE
 rw [h] at this
 exact this
theorem pval_some {p : Bs} {u : Vl} (h : pvL p = some u) (hs : p.length ≤ 1000000000) (w : World) (hE : TEnv w) :
  Calls Tryz.prog 24 #[.string (bs p)] w fun e w' => e = .returned (.tuple #[.agg #[.int .i64 u.kind, .int .i64 u.num, .string (bs u.word)], .nilIface]) ∧ Keeps [] w w' := by
 have := parseValue_any p hs w hE
 rw [h] at this
 exact this
theorem heap_two (w : World) (o o2 : Obj) : ((w.alloc o).alloc o2).heap[w.heap.size + 1]? = some o2 := by
 have h := heap_alloc_new (w.alloc o) o2
 rw [show (w.alloc o).heap.size = w.heap.size + 1 from Array.size_push _] at h
 exact h
theorem blk_num {w : World} {g : Nat} {t : TypeId} {x y z : Int} (h : Blk w g t #[.int .i64 x, .int .i64 y]) (hy : y = z) : Blk w g t #[.int .i64 x, .int .i64 z] := hy ▸ h
theorem vsCells_snoc (q : List Vl) (v : Vl) : vsCells (q ++ [v]) = vsCells q ++ [.int .i64 v.kind, .int .i64 v.num, .string (bs v.word)] := by simp [vsCells, vCells]
theorem valsP_step {ps : List Bs} {n : Nat} (h : n < ps.length) (q : List Vl) : valsP (ps.drop n) q = match pvL ps[n] with
  | none => none
  | some v => valsP (ps.drop (n + 1)) (q ++ [v]) := by
 rw [List.drop_eq_getElem_cons h]
 rfl
theorem fits_false {cols : List Cl} {q : List Vl} (h : q.length ≠ cols.length) : fits cols q = false := by
 unfold fits
 rw [decide_eq_false h]
 rfl
theorem fits_bad {cols : List Cl} {q : List Vl} {j : Nat} (h : j < q.length) (h' : j < cols.length) (hne : q[j].kind ≠ cols[j].kind) : fits cols q = false := by
 unfold fits
 rw [Bool.and_eq_false_iff]
 right
 rw [List.all_eq_false]
 refine ⟨(q[j], cols[j]), ?_, by simpa using hne⟩
 rw [List.mem_iff_getElem]
 exact ⟨j, by rw [List.length_zip]; omega, by simp⟩
theorem fits_true {cols : List Cl} {q : List Vl} (h : q.length = cols.length) (hj : ∀ j (h : j < q.length) (h' : j < cols.length), q[j].kind = cols[j].kind) : fits cols q = true := by
 unfold fits
 rw [decide_eq_true h, Bool.true_and, List.all_eq_true]
 intro p hp
 obtain ⟨i, hi, rfl⟩ := List.getElem_of_mem hp
 have := hj i (by rw [List.length_zip] at hi; omega) (by rw [List.length_zip] at hi; omega)
 simpa using this
end Go.Proofs.YtpagiajlefejcaaGreatDoor
namespace Go.Proofs.YtpagiajlefejcaaGreatDoor
open Go.RowKit Go.BigFrame
attribute [local go_sem] bs_size bs_extract bs_append bs_toList
theorem rcut_len (s : Bs) (k : Nat) : (rcut s k).length ≤ k := (cutS_from s k).2
theorem rlast_len (s : Bs) (k : Nat) : (rlast s k).length ≤ s.length := by
 unfold rlast
 rw [List.length_drop, List.length_take]
 omega
theorem strs_set (l : List Bs) (x y : Bs) : (strs (l ++ [x])).set l.length (.string (bs y)) = strs (l ++ [y]) := by
 rw [strs_snoc, strs_snoc, List.set_append_right _ _ (by simp [strs])]
 simp [strs]
set_option maxRecDepth 100000 in
set_option maxHeartbeats 8000000 in
theorem pieces_any (s : Bs) (hs : s.length ≤ 1000000) (w : World) :
  Calls Tryz.prog 67 #[.string (bs s)] w fun e w' => ∃ A c, e = .returned (.slice A (cutL s).length c) ∧ w'.ownsRow w.heap.size 9 1 (.slice A (cutL s).length c) (cutL s).length (strs (cutL s)) ∧ Keeps [] w w' := by
 obtain ⟨i0, hi, hz0, hz1, hz2⟩ := info_parts sinfo
 have HO0 : Hid ((w.alloc (.cells #[.string ⟨#[]⟩] 9)).ownsRow w.heap.size 9 1 (.slice (some ⟨w.heap.size, 0, none⟩) 1 1) 1 (strs (rcut s 0 ++ [rlast s 0]))) := Lib.hid (own_lit (Blk.new w 9 #[.string ⟨#[]⟩]) (Nat.le_refl _) rfl (by decide))
 have HK0 := Lib.hid ((Keeps.refl [] w).alloc (.cells #[.string ⟨#[]⟩] 9))
 go_enter Tryz.func67, Tryz.ntmps67
 go_wp2
 go_loopw [3, 4, 5, 9] (fun sv q c i wr => ∃ (n g cap : Nat), n ≤ s.length ∧ i = .int .i64 n ∧ q = .bool (ropen s n) ∧ sv = .slice (some ⟨g, 0, none⟩) ((rcut s n).length + 1) cap ∧ Hid (wr.ownsRow w.heap.size 9 1 (.slice (some ⟨g, 0, none⟩) ((rcut s n).length + 1) cap) ((rcut s n).length + 1) (strs (rcut s n ++ [rlast s n]))) ∧ Hid (Keeps [] w wr)) (fun _ _ _ i _ => s.length - (intOf i).toNat)
 case atStart => exact ⟨0, w.heap.size, 1, Nat.zero_le _, rfl, rfl, rfl, HO0, HK0⟩
 case round =>
  obtain ⟨n, g, cap, hn, rfl, rfl, rfl, HO, HK⟩ := hrel
  obtain ⟨z, rfl⟩ : ∃ z : World, z = wr := ⟨_, rfl⟩
  clear HO0 HK0
  have hcl := rcut_len s n
  have hll := rlast_len s n
  by_cases hlt : n < s.length
  ·have hg : s.getD n 0 = s[n] := by rw [List.getD_eq_getElem?_getD, List.getElem?_eq_getElem hlt]; rfl
   have H39 := Lib.hid (rcut_quote (s := s) hlt)
   have H32 := Lib.hid (rcut_blank (s := s) (k := n))
   have HOT := Lib.hid (rcut_other (s := s) hlt)
   rw [hg] at H39 H32 HOT
   have hbyte : ((bs s)[n]'(by rw [bs_size]; exact hlt)) = s[n] := bs_get s n _
   have hsl : ∀ W, (Instr.slice 9 (.string (bs s)) (some (.int .i64 (n : Int))) (some (.int .i64 ((n : Int) + 1))) none).run Tryz.prog W = .ok (.string (bs [s[n]])) W := fun W => by
    have h := slice_str (P := Tryz.prog) Tryz.underlying9 s n (n + 1) (by omega) (by omega) W
    rw [List.take_succ_eq_append_getElem hlt, List.drop_append_of_le_length (by simp; omega), List.drop_take_self] at h
    exact h
   generalize s[n] = b at *
   have h39 : b = 39 ↔ (b.toNat : Int) = 39 := ⟨fun h => by rw [h]; rfl, fun h => UInt8.toNat_inj.1 (by have : (39 : UInt8).toNat = 39 := rfl; omega)⟩
   have h32 : b = 32 ↔ (b.toNat : Int) = 32 := ⟨fun h => by rw [h]; rfl, fun h => UInt8.toNat_inj.1 (by have : (32 : UInt8).toNat = 32 := rfl; omega)⟩
   obtain ⟨L, hL⟩ : ∃ L, rcut s n = L := ⟨_, rfl⟩
   obtain ⟨x, hx⟩ : ∃ x, rlast s n = x := ⟨_, rfl⟩
   obtain ⟨q, hq⟩ : ∃ q, ropen s n = q := ⟨_, rfl⟩
   rw [hL, hx] at HO
   rw [hL] at hcl
   rw [hx] at hll
   rw [hL, hx, hq] at H39 HOT
   rw [hL, hx, hq] at H32
   rw [hL, hq]
   obtain ⟨_, _, he, hcap, hgw, hgz, hcel⟩ := own_some HO.out (by omega)
   injection he with he1 _ he3
   injection he1 with he1
   injection he1 with he1
   subst he1 he3
   have c0 : z.cell? ⟨g, L.length, none⟩ = some (.string (bs x)) := hcel L.length _ (by rw [strs_snoc, List.getElem?_append_right (by simp [strs])]; simp [strs])
   have f0 : z.frozen? ⟨g, L.length, none⟩ = false := own_cellF HO.out _
   have HGW := Lib.hid hgw
   have hbd := Lib.hid (show L.length + 1 + 1 ≤ maxLen ∧ (L.length + 1 + 1) * 16 ≤ 140737488355328 by simp only [maxLen]; omega)
   have HWZ := Lib.hid (show w.heap.size ≤ z.heap.size + 1 from Nat.le_succ_of_le HK.out.size)
   have HADD : Hid (∀ W, W = z ∨ W = z.drew → (W.setCell ⟨g, L.length, none⟩ (.string (bs (x ++ [b])))).ownsRow w.heap.size 9 1 (.slice (some ⟨g, 0, none⟩) (L.length + 1) cap) (L.length + 1) (strs (L ++ [x ++ [b]])) ∧ Keeps [] w (W.setCell ⟨g, L.length, none⟩ (.string (bs (x ++ [b]))))) := Lib.hid (fun W hW => by
    have h1 : W.ownsRow w.heap.size 9 1 (.slice (some ⟨g, 0, none⟩) (L.length + 1) cap) (L.length + 1) (strs (L ++ [x])) := by
     rcases hW with rfl | rfl
     ·exact HO.out
     ·exact HO.out
    have h2 : Keeps [] w W := by
     rcases hW with rfl | rfl
     ·exact HK.out
     ·exact HK.out.drew
    have h3 := own_store (j := L.length) (u := .string (bs (x ++ [b]))) h1
    rw [strs_set] at h3
    exact ⟨h3, h2.setCell (.inr HGW.out) _⟩)
   clear hg hL hx hq hcel hgw
   have hni : ((L.length + 1 : Nat) : Int) - 1 = (L.length : Int) := by omega
   have hnj : (n : Int) < (s.length : Int) := by omega
   have hni2 : (L.length : Int) < ((L.length + 1 : Nat) : Int) := by omega
   by_cases e39 : b = 39
   ·have t1 : ((b.toNat : Int) == 39) = true := by rw [beq_iff_eq]; exact h39.1 e39
    have t2 : ((b.toNat : Int) == 32) = false := by rw [beq_eq_false_iff_ne, h39.1 e39]; decide
    obtain ⟨e1, e2, e3⟩ := H39.out e39
    have HE : Hid (rcut s (n + 1) = L ∧ rlast s (n + 1) = x ++ [b] ∧ ropen s (n + 1) = !q) := Lib.hid ⟨e1, e2, e3⟩
    clear h39 h32 e39 e1 e2 e3
    go_wp2_with fail
    go_region
    all_goals
     go_wp2
     go_roundw
     case rel => exact ⟨n + 1, g, cap, by omega, by go_num, by rw [HE.out.2.2], by rw [HE.out.1], Lib.hid (by rw [HE.out.1, HE.out.2.1]; exact (HADD.out _ (.inr rfl)).1), Lib.hid (HADD.out _ (.inr rfl)).2⟩
     case measure => simp [intOf]; omega
   ·have t1 : ((b.toNat : Int) == 39) = false := by rw [beq_eq_false_iff_ne]; exact fun h => e39 (h39.2 h)
    by_cases e32 : b = 32 ∧ q = false
    ·obtain ⟨e32, rfl⟩ := e32
     have t2 : ((b.toNat : Int) == 32) = true := by rw [beq_iff_eq]; exact h32.1 e32
     obtain ⟨e1, e2, e3⟩ := H32.out e32 rfl
     have HE : Hid (rcut s (n + 1) = L ++ [x] ∧ rlast s (n + 1) = [] ∧ ropen s (n + 1) = false) := Lib.hid ⟨e1, e2, e3⟩
     have hll1 : (strs (L ++ [x])).length = L.length + 1 := by simp [strs]
     clear h39 h32 e39 e32 e1 e2 e3
     go_wp2_with (at_builtin; refine wpList_append_lies _ rfl _ _ 55 rfl _ 9 i0 _ 1 16 Tryz.underlying55 hi hz0 hz1 hz2 rfl (by decide) _ (L.length + 1) (strs (L ++ [x])) rfl (HO.out.alloc _) ⟨z.heap.size, 0, none⟩ 1 1 [.string ⟨#[]⟩] rfl rfl (World.news_of_block (heap_alloc_new _ _)) (by simp [Value.oneCell']) (by decide) hbd.out.1 hbd.out.2 (by simp; exact HWZ.out) _ rfl ?_; intro gw cap2 w8 hown8 hgrow8 hat8 hlt8)
     have HK8 := Lib.hid ((HK.out.alloc _).grown hgrow8 (fun g hg => .inr (HO.out.lt g hg).1))
     have hown9 : w8.ownsRow w.heap.size 9 1 (.slice (some ⟨gw, 0, none⟩) (L.length + 1 + 1) cap2) (L.length + 1 + 1) (strs ((L ++ [x]) ++ [[]])) := by rw [strs_snoc]; exact hown8
     have HO8 := Lib.hid hown9
     have HLN : Hid ((L ++ [x]).length = L.length + 1) := Lib.hid (by simp)
     clear hown8 hown9 hgrow8 hat8 hlt8
     go_wp2
     go_roundw
     case rel => exact ⟨n + 1, gw, cap2, by omega, by go_num, by rw [HE.out.2.2], by rw [HE.out.1, HLN.out], Lib.hid (by rw [HE.out.1, HE.out.2.1, HLN.out]; exact HO8.out), HK8⟩
     case measure => simp [intOf]; omega
    ·obtain ⟨e1, e2, e3⟩ := HOT.out e39 e32
     have HE : Hid (rcut s (n + 1) = L ∧ rlast s (n + 1) = x ++ [b] ∧ ropen s (n + 1) = q) := Lib.hid ⟨e1, e2, e3⟩
     clear e1 e2 e3
     by_cases e : b = 32
     ·obtain rfl : q = true := by
       cases q with
       | true => rfl
       | false => exact absurd ⟨e, rfl⟩ e32
      have t2 : ((b.toNat : Int) == 32) = true := by rw [beq_iff_eq]; exact h32.1 e
      clear h39 h32 e39 e32 e
      go_wp2_with fail
      go_region
      all_goals
       go_wp2
       go_roundw
       case rel => exact ⟨n + 1, g, cap, by omega, by go_num, by rw [HE.out.2.2], by rw [HE.out.1], Lib.hid (by rw [HE.out.1, HE.out.2.1]; exact (HADD.out _ (.inr rfl)).1), Lib.hid (HADD.out _ (.inr rfl)).2⟩
       case measure => simp [intOf]; omega
     ·have t2 : ((b.toNat : Int) == 32) = false := by rw [beq_eq_false_iff_ne]; exact fun h => e (h32.2 h)
      clear h39 h32 e39 e32 e
      go_wp2_with fail
      go_region
      all_goals
       go_wp2
       go_roundw
       case rel => exact ⟨n + 1, g, cap, by omega, by go_num, by rw [HE.out.2.2], by rw [HE.out.1], Lib.hid (by rw [HE.out.1, HE.out.2.1]; exact (HADD.out _ (.inr rfl)).1), Lib.hid (HADD.out _ (.inr rfl)).2⟩
       case measure => simp [intOf]; omega
  ·obtain rfl : n = s.length := by omega
   have hli : ¬ ((s.length : Int) < (s.length : Int)) := by omega
   have hcc : (cutL s).length = (rcut s s.length).length + 1 := by rw [rcut_all]; simp
   have HOF : Hid (z.ownsRow w.heap.size 9 1 (.slice (some ⟨g, 0, none⟩) (cutL s).length cap) (cutL s).length (strs (cutL s))) := Lib.hid (by
    rw [hcc, rcut_all]
    exact HO.out)
   have HCC := Lib.hid hcc
   clear hcc
   go_wp2
   go_ret
   exact ⟨_, cap, by rw [HCC.out]; rfl, HOF.out, HK.out⟩
end Go.Proofs.YtpagiajlefejcaaGreatDoor
