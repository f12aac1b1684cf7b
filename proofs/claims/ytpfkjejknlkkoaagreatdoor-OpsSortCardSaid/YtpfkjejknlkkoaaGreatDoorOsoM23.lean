/- ops.sorted. ops: holds. ops: arg. -/
import Derived.Test.YtpfkjejknlkkoaaGreatDoorOsoM22
import Derived.Test.YtpfkjejknlkkoaaGreatDoorOsoM15
import Derived.Test.YtpfkjejknlkkoaaGreatDoorOsoM5
import Derived.Test.YtpfkjejknlkkoaaGreatDoorOsoM6
set_option linter.unusedSimpArgs false
set_option linter.unusedVariables false
namespace Go.Proofs.YtpfkjejknlkkoaaGreatDoor
open Go.RowKit Go.BigFrame
attribute [local go_sem] bs_size bs_extract bs_append bs_toList
theorem mg_map {α β : Type} (f : α → β) (le : β → β → Bool) : ∀ (A B : List α), (mg (fun a b => le (f a) (f b)) A B).map f = mg le (A.map f) (B.map f)
 | [], B => by rw [nil_mg, List.map_nil, nil_mg]
 | a :: A, [] => by rw [mg_nil, List.map_nil, mg_nil]
 | a :: A, b :: B => by
  rw [mg_cons, List.map_cons, List.map_cons, mg_cons]
  split
  ·rw [List.map_cons, mg_map f le A (b :: B), List.map_cons]
  ·rw [List.map_cons, mg_map f le (a :: A) B, List.map_cons]
termination_by A B => A.length + B.length
theorem stS_map {α β : Type} (f : α → β) (le : β → β → Bool) (l : List α) : (stS (fun a b => le (f a) (f b)) l).map f = stS le (l.map f) := by
 refine snoc_ind (p := fun l => (stS (fun a b => le (f a) (f b)) l).map f = stS le (l.map f)) rfl (fun l y ih => ?_) l
 rw [stS_snoc, mg_map, ih, List.map_append, List.map_cons, List.map_nil, stS_snoc]
theorem sr_of {w : World} : ∀ (us : List Value) (rs : List (List Vl)), us.length = rs.length → (∀ i (h : i < us.length) (h' : i < rs.length), RowIs w [] us[i] rs[i]) → ∃ l : List SR, l.map SR.v = us ∧ l.map SR.row = rs ∧ ∀ x ∈ l, x.n = x.row.length ∧ x.row.length ≤ x.c ∧ Rd w [] 3 x.A x.row.length (vsCells x.row)
 | [], [], _, _ => ⟨[], rfl, rfl, fun x hx => by cases hx⟩
 | [], _ :: _, h, _ => by cases h
 | _ :: _, [], h, _ => by cases h
 | u :: us, r :: rs, h, hi => by
  obtain ⟨l, h1, h2, h3⟩ := sr_of us rs (by simpa using h) fun i a b => hi (i + 1) (by simpa using a) (by simpa using b)
  obtain ⟨A, c, e, hc, hr⟩ := hi 0 (by simp) (by simp)
  refine ⟨⟨A, r.length, c, r⟩ :: l, by rw [List.map_cons, h1]; congr 1; exact e.symm, by rw [List.map_cons, h2], fun x hx => ?_⟩
  rcases List.mem_cons.1 hx with rfl | hx
  ·exact ⟨rfl, hc, hr⟩
  ·exact h3 x hx
theorem srv_one (l : List SR) : ∀ u ∈ l.map SR.v, u.oneCell' = true := fun u hu => by
 obtain ⟨x, _, rfl⟩ := List.mem_map.1 hu
 rfl
set_option maxHeartbeats 2000000 in
set_option maxRecDepth 40000 in
theorem cloneR_any (n : Nat) (h2 : n ≤ 4294967296) (ys : List Value) (h1c : ∀ u ∈ ys, u.oneCell' = true) (A : Option Addr) (c : Nat) (w : World) (hA : Rd w [] 1 A n ys) :
  Calls Tryz.prog 90 #[.slice A n c] w fun e w' => (∃ v, e = .returned v ∧ w'.ownsRow w.heap.size 41 1 v n ys) ∧ Keeps [] w w' := by
 cases A with
 | none =>
  have h0 : n = 0 := Nat.eq_zero_of_not_pos fun h => by obtain ⟨_, e, _⟩ := hA.2 h; cases e
  subst h0
  have hys : ys = [] := List.eq_nil_of_length_eq_zero (by rw [hA.1])
  subst hys
  have heq := fun W => Lib.run_eql_slice_nil (P := Tryz.prog) W 23 41 none 0 c 0 0 Tryz.underlying23
  clear hA
  go_enter Tryz.func90, Tryz.ntmps90
  go_wp2
  go_ret
  exact ⟨⟨_, rfl, World.ownsRow_nil _ _ _ _⟩, Keeps.refl _ _⟩
 | some ad =>
  obtain ⟨b, o, sp⟩ := ad
  obtain ⟨iv, hiv, hvz0, hvz1, hvz2⟩ := info_parts rinfo
  have hk0 : Keeps [] w (w.alloc (.cells #[] 41)) := (Keeps.refl _ _).alloc _
  have hz := zeros_own (w := w) (e := 41) (cur := #[]) (size := 1) (G := 0) rfl (by decide)
  obtain ⟨v', w', hrun, ho', hg'⟩ := run_append_rd (P := Tryz.prog) (w.alloc (.cells #[] 41)) w.heap.size 23 23 41 iv _ 1 24 Tryz.underlying23 hiv hvz0 hvz1 hvz2 rfl (by decide) hz (hA.keep hk0) c h1c (by unfold maxLen; omega) (by omega) hk0.size
  rw [Nat.zero_add, List.nil_append] at ho'
  have HRUN := Lib.hid hrun
  have HO := Lib.hid ho'
  have HK := Lib.hid (hk0.grown hg' (fun g hg => .inr (by injection hg with hg; rw [← hg]; exact Nat.le_refl _)))
  have heq := fun W => Lib.run_eql_slice_nil (P := Tryz.prog) W 23 41 (some ⟨b, o, sp⟩) n c 0 0 Tryz.underlying23
  clear hk0 hz hrun ho' hg' hA hiv hvz0 hvz1 hvz2
  go_enter Tryz.func90, Tryz.ntmps90
  go_wp2_with (at_builtin; refine Lib.wpList_append_run _ rfl _ _ _ _ rfl _ _ rfl rfl _ _ HRUN.out ?_)
  go_ret
  exact ⟨⟨_, rfl, HO.out⟩, HK.out⟩
theorem insertion_nil (v : Value) (f : Value) (w : World) : Calls Tryz.prog 139 #[v, .int .i64 0, .int .i64 0, f] w fun e w' => e = .returned (.tuple #[]) ∧ Keeps [] w w' := by
 go_enter Tryz.func139, Tryz.ntmps139
 go_wp2_with fail
 refine wp_loop_rounds 1 ?_
 rw [rounds_succ]
 go_wp2
 go_end0
 exact ⟨rfl, Keeps.refl _ _⟩
theorem sortStable_nil (A : Option Addr) (c : Nat) (f : Value) (w : World) : Calls Tryz.prog 91 #[.slice A 0 c, f] w fun e w' => e = .returned (.tuple #[]) ∧ Keeps [] w w' := by
 have HS : Hid (Calls Tryz.prog 120 #[.slice A 0 c, .int .i64 0, f] w fun e w' => e = .returned (.tuple #[]) ∧ Keeps [] w w') := Lib.hid (by
  have HI := Lib.hid (insertion_nil (.slice A 0 c) f w)
  go_enter Tryz.func120, Tryz.ntmps120
  go_wp2_with fail
  refine wp_loop_rounds 1 ?_
  rw [rounds_succ]
  go_wp2_with ((with_reducible refine HI.out.mono ?_); rintro e w5 ⟨rfl, h5⟩)
  refine wp_loop_rounds 1 ?_
  rw [rounds_succ]
  go_wp2
  go_end0
  exact ⟨rfl, h5⟩)
 go_enter Tryz.func91, Tryz.ntmps91
 go_wp2_with ((with_reducible refine HS.out.mono ?_); rintro e w5 ⟨rfl, h5⟩)
 go_end0
 exact ⟨rfl, h5⟩
theorem sorted_rows {y w : World} {G : Nat} {rest : List Value} {l : List SR} {m cap : Nat} (h : SrSt y G rest l w) (hl : ∀ x ∈ l, SrOk y G m x) (hc : l.length ≤ cap) : RowsIs w (.slice (some ⟨G, 0, none⟩) l.length cap) (l.map SR.row) := by
 refine ⟨_, cap, by rw [List.length_map], by rw [List.length_map]; exact hc, l.map SR.v, by rw [List.length_map, List.length_map], ⟨by simp, fun _ => ⟨_, rfl, by simp, h.b.lt, fun j u hu => ?_⟩⟩, fun i h1 h2 => ?_⟩
 ·rw [add_at, Nat.zero_add, h.b.cell j]
  unfold srCells
  rw [List.getElem?_toArray, List.getElem?_append_left (List.getElem?_eq_some_iff.1 hu).1]
  exact hu
 ·rw [List.getElem_map, List.getElem_map]
  have hi : i < l.length := by simpa using h1
  obtain ⟨a1, a2, _, a4⟩ := hl l[i] (List.getElem_mem hi)
  refine ⟨_, _, by unfold SR.v; rw [a1], a2, (a4.keep h.k).move fun x hx => by cases hx⟩
set_option maxHeartbeats 4000000 in
set_option maxRecDepth 40000 in
theorem sorted_any (j : Jb) (t : Tb) (Ao : Option Addr) (co : Nat) (Ai : Option Addr) (ni ci : Nat) (Ac : Option Addr) (cc : Nat) (A B : Option Addr) (c d : Nat) (w : World) (hT : TabIn w t A B c d) (hAc : Rd w [] 1 Ac j.cols.length (strs j.cols)) (hlc : j.cols.length ≤ 4294967296)
  (hix : ∀ n ∈ j.cols, ∃ k, colIx t.cols n = some k) (hrl : ∀ r ∈ t.rows, r.length = t.cols.length) (hn : t.rows.length ≤ 1000000) (no : Nat) :
  Calls Tryz.prog 67 #[.agg #[.int .i64 j.at_, .int .i64 j.code, .slice Ao no co, .slice Ai ni ci, .slice Ac j.cols.length cc, .string (bs j.op), .string (bs j.left.col), .int .i64 j.left.val.kind, .int .i64 j.left.val.num, .string (bs j.left.val.word), .string (bs j.right.col), .int .i64 j.right.val.kind, .int .i64 j.right.val.num, .string (bs j.right.val.word), .int .i64 j.retry], tAgg A t.cols.length c B t.rows.length d] w fun e w' => (∃ v, e = .returned v ∧ RowsIs w' v (sortK t j.cols)) ∧ Keeps [] w w' := by
 obtain ⟨us, hul, hur, hui⟩ := hT.rows
 obtain ⟨l, hlv, hlr, hlo⟩ := sr_of us t.rows hul hui
 have hll : l.length = t.rows.length := by rw [← hlr, List.length_map]
 rw [← hlv] at hur
 have hsm : sortK t j.cols = (stS (fun a b => leK (j.cols.map (ixOf t.cols)) (SR.row a) (SR.row b)) l).map SR.row := by
  rw [stS_map, hlr]
  rfl
 rw [hsm]
 have HCL := Lib.hid (fun W (q : Keeps [] w W) => cloneR_any t.rows.length (by omega) (l.map SR.v) (srv_one l) B d W (hur.keep q))
 have HA := Lib.hid hT.cols
 have HAC := Lib.hid hAc
 have HLO := Lib.hid (fun x (hx : x ∈ l) => (⟨(hlo x hx).1, (hlo x hx).2.1, hrl _ (by rw [← hlr]; exact List.mem_map_of_mem hx), (hlo x hx).2.2⟩ : x.n = x.row.length ∧ x.row.length ≤ x.c ∧ x.row.length = t.cols.length ∧ Rd w [] 3 x.A x.row.length (vsCells x.row)))
 have HIX := Lib.hid hix
 have HLN := Lib.hid hT.ln
 have HLL := Lib.hid hll
 obtain ⟨at_, code, outs, js, cols, op, ⟨lc, lk, ln, lw⟩, ⟨rc, rk, rn, rw'⟩, retry⟩ := j
 have HK0 : Hid (Keeps [] w ((w.alloc (.cells #[.int .i64 at_, .int .i64 code, .slice Ao no co, .slice Ai ni ci, .slice Ac cols.length cc, .string (bs op), .string (bs lc), .int .i64 lk, .int .i64 ln, .string (bs lw), .string (bs rc), .int .i64 rk, .int .i64 rn, .string (bs rw'), .int .i64 retry] 36)).alloc (.cells #[.slice A t.cols.length c, .slice B t.rows.length d] 25))) := Lib.hid (((Keeps.refl _ _).alloc _).alloc _)
 have HBX := Lib.hid (Blk.alloc (Blk.new w 36 #[.int .i64 at_, .int .i64 code, .slice Ao no co, .slice Ai ni ci, .slice Ac cols.length cc, .string (bs op), .string (bs lc), .int .i64 lk, .int .i64 ln, .string (bs lw), .string (bs rc), .int .i64 rk, .int .i64 rn, .string (bs rw'), .int .i64 retry]) (.cells #[.slice A t.cols.length c, .slice B t.rows.length d] 25))
 have HBT := Lib.hid (Blk.new (w.alloc (.cells #[.int .i64 at_, .int .i64 code, .slice Ao no co, .slice Ai ni ci, .slice Ac cols.length cc, .string (bs op), .string (bs lc), .int .i64 lk, .int .i64 ln, .string (bs lw), .string (bs rc), .int .i64 rk, .int .i64 rn, .string (bs rw'), .int .i64 retry] 36)) 25 #[.slice A t.cols.length c, .slice B t.rows.length d])
 rw [size_alloc] at HBT
 clear hT hAc hix hrl hul hur hui hlv hlr hlo hll hsm
 show Calls _ _ #[.agg #[.int .i64 at_, .int .i64 code, .slice Ao no co, .slice Ai ni ci, .slice Ac cols.length cc, .string (bs op), .string (bs lc), .int .i64 lk, .int .i64 ln, .string (bs lw), .string (bs rc), .int .i64 rk, .int .i64 rn, .string (bs rw'), .int .i64 retry], .agg #[.slice A t.cols.length c, .slice B t.rows.length d]] w _
 go_enter Tryz.func67, Tryz.ntmps67
 go_wp2_with fail
 obtain ⟨w2, hw2⟩ : ∃ w2, ((w.alloc (.cells #[.int .i64 at_, .int .i64 code, .slice Ao no co, .slice Ai ni ci, .slice Ac cols.length cc, .string (bs op), .string (bs lc), .int .i64 lk, .int .i64 ln, .string (bs lw), .string (bs rc), .int .i64 rk, .int .i64 rn, .string (bs rw'), .int .i64 retry] 36)).alloc (.cells #[.slice A t.cols.length c, .slice B t.rows.length d] 25)) = w2 := ⟨_, rfl⟩
 rw [hw2] at HK0 HBX HBT ⊢
 obtain ⟨bx, hbx⟩ : ∃ bx, w.heap.size = bx := ⟨_, rfl⟩
 have HSZ : Hid (bx + 1 < w2.heap.size) := Lib.hid (hbx ▸ HBT.out.lt)
 rw [hbx] at HBX HBT ⊢
 clear hw2 hbx
 refine (HCL.out w2 HK0.out).mono ?_
 rintro e w3 ⟨⟨v, rfl, hown⟩, hk3⟩
 have HK3 := Lib.hid (HK0.out.trans hk3)
 have HBX3 := Lib.hid (HBX.out.keep hk3 (by simp))
 have HBT3 := Lib.hid (HBT.out.keep hk3 (by simp))
 rcases hown.2 with ⟨rfl, h0⟩ | ⟨G, cap, cur, rfl, hG, hh, hcap, hmax, hsz, htk⟩
 ·have hl0 : l = [] := List.eq_nil_of_length_eq_zero (by rw [HLL.out]; exact h0)
  have HSN := Lib.hid (sortStable_nil none 0 (.func (.func 92) #[] #[.pointer (some ⟨bx, 0, none⟩), .pointer (some ⟨bx + 1, 0, none⟩)]) w3)
  clear hk3 hown HCL h0
  subst hl0
  go_wp2_with ((with_reducible refine HSN.out.mono ?_); rintro e w5 ⟨rfl, h5⟩)
  go_ret
  exact ⟨⟨_, rfl, none, 0, rfl, Nat.zero_le _, [], rfl, Rd.nil, fun i h => by cases h⟩, HK3.out.trans h5⟩
 ·have hgb : w3.heap.size > G := (Array.getElem?_eq_some_iff.1 hh).1
  have hbl : Blk w3 G 41 (srCells l (cur.toList.drop t.rows.length)) := by
   have e : cur = srCells l (cur.toList.drop t.rows.length) := by
    unfold srCells
    rw [Nat.mul_one] at htk
    rw [← htk, List.take_append_drop, Array.toArray_toList]
   rw [← e]
   exact hh
  have hlt0 := HSZ.out
  have hST : SrSt w3 G (cur.toList.drop t.rows.length) l w3 := ⟨Keeps.refl _ _, hbl⟩
  have hwG : w.heap.size ≤ G := Nat.le_trans HK0.out.size hG
  have hap : ∀ {size n : Nat} {A : Option Addr} {xs : List Value}, Rd w [] size A n xs → Rd w3 [G] size A n xs := fun h => h.apart HK3.out fun x hx => by rw [List.mem_singleton.1 hx]; exact hwG
  have hOK : ∀ x ∈ l, SrOk w3 G t.cols.length x := fun x hx => by
   obtain ⟨a1, a2, a3, a4⟩ := HLO.out x hx
   exact ⟨a1, a2, a3, hap a4⟩
  have hO : Ord' (sle fun x z : SR => cmpK (cols.map (ixOf t.cols)) x.row z.row) := ⟨fun a b => (leK_ord _).total a.row b.row, fun a b c => (leK_ord _).trans a.row b.row c.row⟩
  have hC : CmpC w3 G 92 #[.pointer (some ⟨bx, 0, none⟩), .pointer (some ⟨bx + 1, 0, none⟩)] (fun x z => cmpK (cols.map (ixOf t.cols)) x.row z.row) (SrOk w3 G t.cols.length) :=
   ⟨enters_of Tryz.func92 (by kernel_rfl) rfl, hO, fun x z hx hz W hW =>
    sortCmp_any w3 G (⟨at_, code, outs, js, cols, op, ⟨lc, lk, ln, lw⟩, ⟨rc, rk, rn, rw'⟩, retry⟩ : Jb) t bx (bx + 1) A c (.slice B t.rows.length d) Ac cc _ HBX3.out rfl (by omega) HBT3.out (by omega) (hap HAC.out) (hap HA.out) HLN.out hlc HIX.out x z hx hz W hW⟩
  have HSS := Lib.hid (sortStable_any w3 G (cur.toList.drop t.rows.length) t.rows.length cap hn 92 _ _ _ hC l hOK HLL.out w3 hST)
  have HF : Hid (∀ w5, SrSt w3 G (cur.toList.drop t.rows.length) (stS (sle fun x z : SR => cmpK (cols.map (ixOf t.cols)) x.row z.row) l) w5 → RowsIs w5 (.slice (some ⟨G, 0, none⟩) t.rows.length cap) ((stS (fun a b => leK (cols.map (ixOf t.cols)) (SR.row a) (SR.row b)) l).map SR.row) ∧ Keeps [] w w5) := Lib.hid (fun w5 h5 => by
   have h6 := sorted_rows (cap := cap) h5 (fun x hx => hOK x ((stS_perm _).mem_iff.1 hx)) (by rw [stS_len, HLL.out]; exact hcap)
   rw [stS_len, HLL.out] at h6
   refine ⟨h6, (HK3.out.of_nil (L := [G])).trans h5.k |>.weaken fun x hx hlt => ?_⟩
   rw [List.mem_singleton] at hx
   omega)
  clear hk3 hown HCL hh hcap hmax hsz htk hgb hbl hlt0 hST hwG hap hOK hO hC HLO HIX HA HAC HBX3 HBT3 HBX HBT
  go_wp2_with ((with_reducible refine HSS.out.mono ?_); rintro e w5 ⟨rfl, h5⟩; have H5 := Lib.hid h5; clear h5)
  go_ret
  exact ⟨⟨_, rfl, (HF.out _ H5.out).1⟩, (HF.out _ H5.out).2⟩
end Go.Proofs.YtpfkjejknlkkoaaGreatDoor
namespace Go.Proofs.YtpfkjejknlkkoaaGreatDoor
open Go.RowKit Go.BigFrame
attribute [local go_sem] bs_size bs_extract bs_append bs_toList
attribute [local go_sem] KW.cell
set_option maxHeartbeats 4000000 in
theorem holds_any (a : Vl) (op : Bs) (b : Vl) (w : World) :
  Calls Tryz.prog 63 #[vAgg a, .string (bs op), vAgg b] w fun e w' => e = .returned (.bool (holdsB a op b)) ∧ Keeps [] w w' := by
 obtain ⟨R, hR⟩ : ∃ R, holdsB a op b = R := ⟨_, rfl⟩
 rw [hR]
 have HR : Hid (R = if op = [61] then !lessB a b && !lessB b a else if op = [60, 62] then lessB a b || lessB b a else if op = [60] then lessB a b else if op = [60, 61] then !lessB b a else if op = [62] then lessB b a else !lessB a b) := Lib.hid hR.symm
 clear hR
 obtain ⟨w2, hw2⟩ : ∃ w2, (w.alloc (.cells #[.int .i64 a.kind, .int .i64 a.num, .string (bs a.word)] 32)).alloc (.cells #[.int .i64 b.kind, .int .i64 b.num, .string (bs b.word)] 32) = w2 := ⟨_, rfl⟩
 have HK : Hid (Keeps [] w w2) := Lib.hid (by rw [← hw2]; exact ((Keeps.refl _ _).alloc _).alloc _)
 have ha := (Blk.new w 32 #[.int .i64 a.kind, .int .i64 a.num, .string (bs a.word)]).alloc (.cells #[.int .i64 b.kind, .int .i64 b.num, .string (bs b.word)] 32)
 have hb := Blk.new (w.alloc (.cells #[.int .i64 a.kind, .int .i64 a.num, .string (bs a.word)] 32)) 32 #[.int .i64 b.kind, .int .i64 b.num, .string (bs b.word)]
 rw [show (w.alloc (.cells #[.int .i64 a.kind, .int .i64 a.num, .string (bs a.word)] 32)).heap.size = w.heap.size + 1 from Array.size_push _] at hb
 rw [hw2] at ha hb
 have C0 : Hid (w2.cell? ⟨w.heap.size, 0, none⟩ = some (.int .i64 a.kind)) := Lib.hid (ha.cell 0)
 have C1 : Hid (w2.cell? ⟨w.heap.size, 1, none⟩ = some (.int .i64 a.num)) := Lib.hid (ha.cell 1)
 have C2 : Hid (w2.cell? ⟨w.heap.size, 2, none⟩ = some (.string (bs a.word))) := Lib.hid (ha.cell 2)
 have D0 : Hid (w2.cell? ⟨w.heap.size + 1, 0, none⟩ = some (.int .i64 b.kind)) := Lib.hid (hb.cell 0)
 have D1 : Hid (w2.cell? ⟨w.heap.size + 1, 1, none⟩ = some (.int .i64 b.num)) := Lib.hid (hb.cell 1)
 have D2 : Hid (w2.cell? ⟨w.heap.size + 1, 2, none⟩ = some (.string (bs b.word))) := Lib.hid (hb.cell 2)
 have L0 : Hid (w.heap.size < w2.heap.size) := Lib.hid ha.lt
 have L1 : Hid (w.heap.size + 1 < w2.heap.size) := Lib.hid hb.lt
 have HW := Lib.hid hw2
 have HLA0 := Lib.hid (fun W => less_any a b W)
 have HLB0 := Lib.hid (fun W => less_any b a W)
 generalize lessB a b = m at *
 generalize lessB b a = n at *
 clear ha hb hw2
 obtain ⟨k1, n1, s1⟩ := a
 obtain ⟨k2, n2, s2⟩ := b
 have HLA : Hid (∀ W, Keeps [] w2 W → Calls Tryz.prog 12 #[.agg #[.int .i64 k1, .int .i64 n1, .string (bs s1)], .agg #[.int .i64 k2, .int .i64 n2, .string (bs s2)]] W fun e W' => e = .returned (.bool m) ∧ Keeps [] W W') := Lib.hid fun W _ => HLA0.out W
 have HLB : Hid (∀ W, Keeps [] w2 W → Calls Tryz.prog 12 #[.agg #[.int .i64 k2, .int .i64 n2, .string (bs s2)], .agg #[.int .i64 k1, .int .i64 n1, .string (bs s1)]] W fun e W' => e = .returned (.bool n) ∧ Keeps [] W W') := Lib.hid fun W _ => HLB0.out W
 clear HLA0 HLB0
 simp only at HW C0 C1 C2 D0 D1 D2 HK L0 L1
 by_cases h0 : op = [61]
 ·subst h0
  have HF : Hid (R = (!m && !n)) := Lib.hid (HR.out.trans (if_pos rfl))
  clear HR
  cases m <;> cases n
  all_goals
   show Calls _ _ #[.agg #[.int .i64 k1, .int .i64 n1, .string (bs s1)], .string ⟨#[61]⟩, .agg #[.int .i64 k2, .int .i64 n2, .string (bs s2)]] w _
   go_enter Tryz.func63, Tryz.ntmps63
   go_wp2_with fail
   have c0 := C0.out
   have c1 := C1.out
   have c2 := C2.out
   have d0 := D0.out
   have d1 := D1.out
   have d2 := D2.out
   have l0 := L0.out
   have l1 := L1.out
   rw [HW.out]
   refine wp_region_keeps (by kernel_rfl) (by kernel_rfl) ?_
   repeat (go_big_quiet_step (first | with_reducible exact KW.of HLA.out _ | with_reducible exact KW.of HLB.out _))
   refine wpQuiet_nil ?_
   intro wx kx
   clear c0 c1 c2 d0 d1 d2
   go_wp2
   go_ret
   exact ⟨by rw [HF.out]; rfl, HK.out.trans kx⟩
 ·have t0 : (op == [61]) = false := by rw [beq_eq_false_iff_ne]; exact h0
  by_cases h1 : op = [60, 62]
  ·subst h1
   have HF : Hid (R = (m || n)) := Lib.hid (HR.out.trans ((if_neg (show ¬ (([60, 62] : Bs) = [61]) by decide)).trans (if_pos rfl)))
   clear HR
   cases m <;> cases n
   all_goals
    show Calls _ _ #[.agg #[.int .i64 k1, .int .i64 n1, .string (bs s1)], .string ⟨#[60, 62]⟩, .agg #[.int .i64 k2, .int .i64 n2, .string (bs s2)]] w _
    go_enter Tryz.func63, Tryz.ntmps63
    go_wp2_with fail
    have c0 := C0.out
    have c1 := C1.out
    have c2 := C2.out
    have d0 := D0.out
    have d1 := D1.out
    have d2 := D2.out
    have l0 := L0.out
    have l1 := L1.out
    rw [HW.out]
    refine wp_region_keeps (by kernel_rfl) (by kernel_rfl) ?_
    repeat (go_big_quiet_step (first | with_reducible exact KW.of HLA.out _ | with_reducible exact KW.of HLB.out _))
    refine wpQuiet_nil ?_
    intro wx kx
    clear c0 c1 c2 d0 d1 d2
    go_wp2
    go_ret
    exact ⟨by rw [HF.out]; rfl, HK.out.trans kx⟩
  ·have t1 : (op == [60, 62]) = false := by rw [beq_eq_false_iff_ne]; exact h1
   by_cases h2 : op = [60]
   ·subst h2
    have HF : Hid (R = (m)) := Lib.hid (HR.out.trans ((if_neg (show ¬ (([60] : Bs) = [61]) by decide)).trans ((if_neg (show ¬ (([60] : Bs) = [60, 62]) by decide)).trans (if_pos rfl))))
    clear HR
    show Calls _ _ #[.agg #[.int .i64 k1, .int .i64 n1, .string (bs s1)], .string ⟨#[60]⟩, .agg #[.int .i64 k2, .int .i64 n2, .string (bs s2)]] w _
    go_enter Tryz.func63, Tryz.ntmps63
    go_wp2_with fail
    have c0 := C0.out
    have c1 := C1.out
    have c2 := C2.out
    have d0 := D0.out
    have d1 := D1.out
    have d2 := D2.out
    have l0 := L0.out
    have l1 := L1.out
    rw [HW.out]
    refine wp_region_keeps (by kernel_rfl) (by kernel_rfl) ?_
    repeat (go_big_quiet_step (first | with_reducible exact KW.of HLA.out _ | with_reducible exact KW.of HLB.out _))
    refine wpQuiet_nil ?_
    intro wx kx
    clear c0 c1 c2 d0 d1 d2
    go_wp2
    go_ret
    exact ⟨by rw [HF.out]; rfl, HK.out.trans kx⟩
   ·have t2 : (op == [60]) = false := by rw [beq_eq_false_iff_ne]; exact h2
    by_cases h3 : op = [60, 61]
    ·subst h3
     have HF : Hid (R = (!n)) := Lib.hid (HR.out.trans ((if_neg (show ¬ (([60, 61] : Bs) = [61]) by decide)).trans ((if_neg (show ¬ (([60, 61] : Bs) = [60, 62]) by decide)).trans ((if_neg (show ¬ (([60, 61] : Bs) = [60]) by decide)).trans (if_pos rfl)))))
     clear HR
     show Calls _ _ #[.agg #[.int .i64 k1, .int .i64 n1, .string (bs s1)], .string ⟨#[60, 61]⟩, .agg #[.int .i64 k2, .int .i64 n2, .string (bs s2)]] w _
     go_enter Tryz.func63, Tryz.ntmps63
     go_wp2_with fail
     have c0 := C0.out
     have c1 := C1.out
     have c2 := C2.out
     have d0 := D0.out
     have d1 := D1.out
     have d2 := D2.out
     have l0 := L0.out
     have l1 := L1.out
     rw [HW.out]
     refine wp_region_keeps (by kernel_rfl) (by kernel_rfl) ?_
     repeat (go_big_quiet_step (first | with_reducible exact KW.of HLA.out _ | with_reducible exact KW.of HLB.out _))
     refine wpQuiet_nil ?_
     intro wx kx
     clear c0 c1 c2 d0 d1 d2
     go_wp2
     go_ret
     exact ⟨by rw [HF.out]; rfl, HK.out.trans kx⟩
    ·have t3 : (op == [60, 61]) = false := by rw [beq_eq_false_iff_ne]; exact h3
     by_cases h4 : op = [62]
     ·subst h4
      have HF : Hid (R = (n)) := Lib.hid (HR.out.trans ((if_neg (show ¬ (([62] : Bs) = [61]) by decide)).trans ((if_neg (show ¬ (([62] : Bs) = [60, 62]) by decide)).trans ((if_neg (show ¬ (([62] : Bs) = [60]) by decide)).trans ((if_neg (show ¬ (([62] : Bs) = [60, 61]) by decide)).trans (if_pos rfl))))))
      clear HR
      show Calls _ _ #[.agg #[.int .i64 k1, .int .i64 n1, .string (bs s1)], .string ⟨#[62]⟩, .agg #[.int .i64 k2, .int .i64 n2, .string (bs s2)]] w _
      go_enter Tryz.func63, Tryz.ntmps63
      go_wp2_with fail
      have c0 := C0.out
      have c1 := C1.out
      have c2 := C2.out
      have d0 := D0.out
      have d1 := D1.out
      have d2 := D2.out
      have l0 := L0.out
      have l1 := L1.out
      rw [HW.out]
      refine wp_region_keeps (by kernel_rfl) (by kernel_rfl) ?_
      repeat (go_big_quiet_step (first | with_reducible exact KW.of HLA.out _ | with_reducible exact KW.of HLB.out _))
      refine wpQuiet_nil ?_
      intro wx kx
      clear c0 c1 c2 d0 d1 d2
      go_wp2
      go_ret
      exact ⟨by rw [HF.out]; rfl, HK.out.trans kx⟩
     ·have t4 : (op == [62]) = false := by rw [beq_eq_false_iff_ne]; exact h4
      have HF : Hid (R = !m) := Lib.hid (by rw [HR.out, if_neg h0, if_neg h1, if_neg h2, if_neg h3, if_neg h4])
      clear h0 h1 h2 h3 h4
      show Calls _ _ #[.agg #[.int .i64 k1, .int .i64 n1, .string (bs s1)], .string (bs op), .agg #[.int .i64 k2, .int .i64 n2, .string (bs s2)]] w _
      go_enter Tryz.func63, Tryz.ntmps63
      go_wp2_with fail
      have c0 := C0.out
      have c1 := C1.out
      have c2 := C2.out
      have d0 := D0.out
      have d1 := D1.out
      have d2 := D2.out
      have l0 := L0.out
      have l1 := L1.out
      rw [HW.out]
      refine wp_region_keeps (by kernel_rfl) (by kernel_rfl) ?_
      repeat (go_big_quiet_step (first | with_reducible exact KW.of HLA.out _ | with_reducible exact KW.of HLB.out _))
      refine wpQuiet_nil ?_
      intro wx kx
      clear c0 c1 c2 d0 d1 d2
      go_wp2
      go_ret
      exact ⟨by rw [HF.out]; rfl, HK.out.trans kx⟩
end Go.Proofs.YtpfkjejknlkkoaaGreatDoor
namespace Go.Proofs.YtpfkjejknlkkoaaGreatDoor
open Go.RowKit Go.BigFrame
attribute [local go_sem] bs_size bs_extract bs_append bs_toList
attribute [local go_sem] KW.cell
def argOk (a : Ar) (l : List Cl) (r : List Vl) : Prop := a.col = [] ∨ ∃ k, colIx l a.col = some k ∧ k < r.length
set_option maxHeartbeats 4000000 in
theorem arg_any (a : Ar) (l : List Cl) (r : List Vl) (A B : Option Addr) (c d : Nat) (w : World) (hA : Rd w [] 2 A l.length (csCells l)) (hl : l.length ≤ 4294967296) (hB : Rd w [] 3 B r.length (vsCells r)) (hok : argOk a l r) :
  Calls Tryz.prog 64 #[aAgg a, .slice A l.length c, .slice B r.length d] w fun e w' => e = .returned (vAgg (argV a l r)) ∧ Keeps [] w w' := by
 obtain ⟨nm, v⟩ := a
 show Calls _ _ #[.agg #[.string (bs nm), .int .i64 v.kind, .int .i64 v.num, .string (bs v.word)], .slice A l.length c, .slice B r.length d] w _
 have hk0 : Keeps [] w ((w.alloc (.cells #[.string (bs nm), .int .i64 v.kind, .int .i64 v.num, .string (bs v.word)] 34)).alloc (.cells #[.int .i64 0, .int .i64 0, .string ⟨#[]⟩] 32)) := ((Keeps.refl [] w).alloc _).alloc _
 have HK0 := Lib.hid hk0
 obtain ⟨R, hR⟩ : ∃ R, argV ⟨nm, v⟩ l r = R := ⟨_, rfl⟩
 rw [hR]
 have HR := Lib.hid hR
 cases nm with
 | nil =>
  have HR2 : Hid (R = v) := Lib.hid (by rw [← HR.out]; unfold argV; rw [if_pos rfl])
  clear HR hR hA hB hok hk0
  go_enter Tryz.func64, Tryz.ntmps64
  go_wp2
  refine bodyPost_ret (v := .agg #[.int .i64 v.kind, .int .i64 v.num, .string (bs v.word)]) (by simp [results, Tryz.results64, go_sem]) rfl ⟨by rw [HR2.out]; rfl, ?_⟩
  repeat first | exact Keeps.refl _ _ | refine Keeps.alloc ?_ _ | refine Keeps.setCell ?_ (.inr (by simp)) _
 | cons x tl =>
  obtain ⟨k, hk, hkr⟩ : ∃ k, colIx l (x :: tl) = some k ∧ k < r.length := by
   rcases hok with h | h
   ·cases h
   ·exact h
  have hgd : r.getD k zV = r[k] := by rw [List.getD_eq_getElem?_getD, List.getElem?_eq_getElem hkr]; rfl
  have HR2 : Hid (R = r[k]) := Lib.hid (by rw [← HR.out, ← hgd]; unfold argV; rw [if_neg (by simp)]; simp only [hk])
  have HF := Lib.hid (fun W (q : Keeps [] w W) => find_any l (x :: tl) A c W (hA.keep q) hl)
  rw [hk] at HF
  obtain ⟨b, o, hBe, _, hb, hcs⟩ := hB.open' (by omega) (by omega)
  subst hBe
  have d0 := hcs (k * 3) _ (vsCells_at r k hkr).1
  have d1 := hcs (k * 3 + 1) _ (vsCells_at r k hkr).2.1
  have d2 := hcs (k * 3 + 2) _ (vsCells_at r k hkr).2.2
  rw [← Nat.add_assoc] at d1 d2
  have hi1 : (0 : Int) ≤ (k : Int) := by omega
  have hi2 : (k : Int) < (r.length : Int) := by omega
  generalize r[k] = u at *
  have HD0 := Lib.hid d0
  have HD1 := Lib.hid d1
  have HD2 := Lib.hid d2
  clear HR hR hA hB hok hk0 hgd hcs hk d0 d1 d2
  go_enter Tryz.func64, Tryz.ntmps64
  go_wp2_with fail
  refine (HF.out _ HK0.out).mono ?_
  rintro e w2 ⟨rfl, hk2⟩
  simp only [optI]
  have e0 := (HK0.out.trans hk2).cell_of HD0.out (by simp)
  have e1 := (HK0.out.trans hk2).cell_of HD1.out (by simp)
  have e2 := (HK0.out.trans hk2).cell_of HD2.out (by simp)
  have hbx := (Blk.new (w.alloc (.cells #[.string (bs (x :: tl)), .int .i64 v.kind, .int .i64 v.num, .string (bs v.word)] 34)) 32 #[.int .i64 0, .int .i64 0, .string ⟨#[]⟩]).keep hk2 (by simp)
  rw [show (w.alloc (.cells #[.string (bs (x :: tl)), .int .i64 v.kind, .int .i64 v.num, .string (bs v.word)] 34)).heap.size = w.heap.size + 1 from Array.size_push _] at hbx
  have c0 : w2.cell? ⟨w.heap.size + 1, 0, none⟩ = some (.int .i64 0) := hbx.cell 0
  have c1 : w2.cell? ⟨w.heap.size + 1, 1, none⟩ = some (.int .i64 0) := hbx.cell 1
  have c2 : w2.cell? ⟨w.heap.size + 1, 2, none⟩ = some (.string ⟨#[]⟩) := hbx.cell 2
  have f0 := hbx.frozen 0
  have f1 := hbx.frozen 1
  have f2 := hbx.frozen 2
  have HK2 := Lib.hid (HK0.out.trans hk2)
  clear hk2 hbx
  go_wp2
  refine bodyPost_ret (v := .agg #[.int .i64 u.kind, .int .i64 u.num, .string (bs u.word)]) (by simp [results, Tryz.results64, go_sem, c0, c1, c2]) rfl ⟨by rw [HR2.out]; rfl, ?_⟩
  exact ((HK2.out.setCell (.inr (by simp)) _).setCell (.inr (by simp)) _).setCell (.inr (by simp)) _
end Go.Proofs.YtpfkjejknlkkoaaGreatDoor
