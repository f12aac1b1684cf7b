/- A flow that was read may be looked at by plan. Slices put behind one another: append of whatever slice, and a new row of zeros; no program in sight. Jobs in memory, row by row: read whole, put behind one another; slices.Clone of them. -/
import Derived.Test.YtnjjajanfedjiaaGreatDoorPtuM15
import Derived.Test.YtnjjajanfedjiaaGreatDoorPtuM22
import Derived.Test.YtnjjajanfedjiaaGreatDoorPtuM1
import Derived.Maps.AppendAt
import Derived.Lib.SlFresh
import Derived.Lib.AppendZeros
import Derived.Lib.AppendZerosOnto
import Derived.OwnWalk
import Derived.WalkSpells
set_option linter.unusedSimpArgs false
set_option linter.unusedVariables false
namespace Go.Proofs.YtnjjajanfedjiaaGreatDoor
open Go.RowKit Go.BigFrame
theorem JobW.nins {j : Jb} (h : JobW j) : j.ins.length ≤ 2 := by
 rcases h.body with ⟨_, a, b, c, d, _, _, _, _, e, _⟩ | ⟨_, a, b, _, _, e, _⟩ | ⟨_, a, _, e, _⟩ | ⟨_, a, s, _, _, e, _⟩ | ⟨_, a, c, _, _, e, _⟩ | ⟨_, a, _, e, _⟩ | ⟨_, a, c, d, _, _, _, e, _⟩ <;> rw [e] <;> simp
theorem JobW.ncols {j : Jb} (h : JobW j) : j.cols.length ≤ 1000 := by
 rcases h.body with ⟨_, a, b, c, d, _, _, _, _, _, e⟩ | ⟨_, a, b, _, _, _, e⟩ | ⟨_, a, _, _, e⟩ | ⟨_, a, s, _, _, _, e, _⟩ | ⟨_, a, c, _, _, _, e, _⟩ | ⟨_, a, _, _, e⟩ | ⟨_, a, c, d, _, _, _, _, e, _⟩
 ·rw [e]; simp
 ·rw [e]; simp
 ·rw [e]; simp
 ·rw [e]; simp
 ·rw [e]; simp
 ·exact e.2.1
 ·rw [e]; simp
theorem JobW.insW {j : Jb} (h : JobW j) : ∀ n ∈ j.ins, n.length ≤ 1000 := by
 have key : ∀ n ∈ j.ins, NameW n := by
  rcases h.body with ⟨_, a, b, c, d, ha, hb, _, _, e, _⟩ | ⟨_, a, b, ha, hb, e, _⟩ | ⟨_, a, ha, e, _⟩ | ⟨_, a, s, ha, _, e, _⟩ | ⟨_, a, c, ha, _, e, _⟩ | ⟨_, a, ha, e, _⟩ | ⟨_, a, c, d, ha, _, _, e, _⟩ <;> rw [e] <;> intro n hn
  ·simp only [List.mem_cons, List.not_mem_nil, or_false] at hn
   rcases hn with rfl | rfl
   ·exact ha
   ·exact hb
  ·simp only [List.mem_cons, List.not_mem_nil, or_false] at hn
   rcases hn with rfl | rfl
   ·exact ha
   ·exact hb
  all_goals
   simp only [List.mem_cons, List.not_mem_nil, or_false] at hn
   rw [hn]
   exact ha
 exact fun n hn => Nat.le_trans (key n hn).len (by decide)
theorem outs_flat_len : ∀ (l : List Jb), (∀ x ∈ l, x.outs.length ≤ 1000) → (l.flatMap (·.outs)).length ≤ l.length * 1000
 | [], _ => by simp
 | x :: l, h => by
  have h1 := h x (by simp)
  have h2 := outs_flat_len l fun y hy => h y (by simp [hy])
  rw [List.flatMap_cons, List.length_append, List.length_cons]
  omega
theorem FlW.names {f : Fl} (h : FlW f) : ∀ n ∈ allN f, NameW n := by
 intro n hn
 rcases List.mem_append.1 hn with hn | hn
 ·obtain ⟨x, hx, rfl⟩ := List.mem_map.1 hn
  exact (h.ins x hx).name
 ·obtain ⟨x, hx, hn⟩ := List.mem_flatMap.1 hn
  exact (h.jobs x hx).outs.2.2 n hn
theorem FlW.short {f : Fl} (h : FlW f) : ShortF f where
 outs := Nat.le_trans h.nouts (by decide)
 all := by
  have h1 := outs_flat_len f.jobs fun x hx => (h.jobs x hx).outs.2.1
  have h2 := h.nins
  have h3 := h.njobs
  unfold allN
  rw [List.length_append, List.length_map]
  omega
 names := fun n hn => Nat.le_trans (h.names n hn).len (by decide)
 ins := fun j hj n hn => (h.jobs j hj).insW n hn
 told := fun x hx => ⟨Nat.le_trans (h.outs x hx).name.len (by decide), Nat.le_trans (h.outs x hx).src.len (by decide)⟩
theorem FlW.colNames {f : Fl} (h : FlW f) : ∀ x ∈ f.ins, ∀ c ∈ x.cols, c.name.length ≤ 1000000000 := fun x hx c hc => Nat.le_trans ((h.ins x hx).cols c hc).1.len (by decide)
theorem flIn_of {W : World} {base : Nat} {v0 v1 v2 : Value} {f : Fl} (q0 : InsIs W base v0 f.ins) (q1 : JobsIs W base v1 f.jobs) (q2 : OutsIs W base v2 f.outs) (hw : FlW f) : FlIn W v0 v1 v2 f where
 i0 := by
  have hn : f.ins.length ≤ 4294967296 := Nat.le_trans hw.nins (by decide)
  refine LsIn.of q0 InEl.len hn fun cs x hx => ?_
  rintro ⟨v, e, ho⟩
  obtain ⟨A, c, h1, h2, h3⟩ := own_rdm ho
  exact ⟨v, e, Nat.le_trans (hw.ins x hx).len (by decide), A, c, h1, h2, h3⟩
 i1 := by
  have hn : f.jobs.length ≤ 4294967296 := Nat.le_trans hw.njobs (by decide)
  refine LsIn.of q1 JbEl.len hn fun cs x hx => ?_
  rintro ⟨v2, v3, v4, e, hr⟩
  have hj := hw.jobs x hx
  obtain ⟨A2, c2, a1, a2, a3⟩ := own_rdm hr.o2
  obtain ⟨A3, c3, b1, b2, b3⟩ := own_rdm hr.o3
  obtain ⟨A4, c4, d1, d2, d3⟩ := own_rdm hr.o4
  exact ⟨v2, v3, v4, e, ⟨Nat.le_trans hj.outs.2.1 (by decide), A2, c2, a1, a2, a3⟩, ⟨Nat.le_trans hj.nins (by decide), A3, c3, b1, b2, b3⟩, ⟨Nat.le_trans hj.ncols (by decide), A4, c4, d1, d2, d3⟩⟩
 i2 := by
  have hn : f.outs.length ≤ 4294967296 := Nat.le_trans hw.nouts (by decide)
  exact LsIn.of q2 PbEl.len hn fun cs x _ hx => hx
theorem FlAt.flIn {W : World} {base : Nat} {v0 v1 v2 : Value} {f : Fl} (h : FlAt W base v0 v1 v2 f) (hw : FlW f) : FlIn W v0 v1 v2 f := flIn_of h.i0 h.i1 h.i2 hw
end Go.Proofs.YtnjjajanfedjiaaGreatDoor
namespace Go.Proofs.YtnjjajanfedjiaaGreatDoor
open Go.RowKit
section
variable {P : Program} (w : World)
theorem run_append_rd (base : Nat) (t ty e : TypeId) (i : TypeInfo) (z : Value) (size bytes : Nat) (ht : P.underlying t = some (.slice e)) (hi : P.info? e = some i) (hz : i.zero = some z)
  (hsize : i.size = size) (hby : i.bytes = bytes) (hzs : z.cells.size = size) (hsz : 0 < size)
  {v : Value} {n : Nat} {xs : List Value} (hown : w.ownsRow base e size v n xs) {A : Option Addr} {m : Nat} {ys : List Value} (hr : Rd w [] size A m ys) (c : Nat) (h1 : ∀ u ∈ ys, u.oneCell' = true)
  (h63 : n + m ≤ maxLen) (hbytes : (n + m) * bytes ≤ 140737488355328) (hbase : base ≤ w.heap.size) :
  ∃ v' w', (Builtin.append_ #[t, t] ty #[v, .slice A m c]).run P w = .ok v' w' ∧ w'.ownsRow base e size v' (n + m) (xs ++ ys) ∧ w.grownBy w' v.ownBlock := by
 cases A with
 | some ad =>
  have hc : ∀ j u, ys[j]? = some u → w.cell? (ad.add j) = some u := fun j u hu => by
   have hm : 0 < m := by
    have := (List.getElem?_eq_some_iff.1 hu).1
    rw [hr.1] at this
    rcases Nat.eq_zero_or_pos m with h | h
    ·rw [h] at this; omega
    ·exact h
   obtain ⟨ad', e1, _, _, h⟩ := hr.2 hm
   injection e1 with e1
   rw [e1]
   exact h j u hu
  obtain ⟨v', w', hrun, h2, h3, _⟩ := run_append_own_at (P := P) w base t ty e i z size bytes ht hi hz hsize hby hzs hsz v n xs hown ad m c ys hr.1 hc h1 h63 hbytes hbase
  exact ⟨v', w', hrun, h2, h3⟩
 | none =>
  have hm : m = 0 := by
   rcases Nat.eq_zero_or_pos m with h | h
   ·exact h
   ·obtain ⟨_, h, _⟩ := hr.2 h; cases h
  subst hm
  have hy : ys = [] := List.eq_nil_of_length_eq_zero (by rw [hr.1, Nat.zero_mul])
  subst hy
  refine ⟨v, w, ?_, by simpa using hown, World.grownBy.refl w _⟩
  have hU := run_underlying ht
  rcases hown.2 with ⟨rfl, rfl⟩ | ⟨g, cap, cur, rfl, _, _, hnc, _⟩
  ·simp [Builtin.append_, hU, sizeOf, typeInfo, hi, Builtin.lenOf, Builtin.firstCells]
  ·simp [Builtin.append_, hU, sizeOf, typeInfo, hi, Builtin.lenOf, Builtin.firstCells, hnc, storeCells]
theorem zeros_own {w : World} {e : TypeId} {cur : Array Value} {size G : Nat} (hc : cur.size = G * size) (hG : G ≤ maxLen) : (w.alloc (.cells cur e)).ownsRow w.heap.size e size (.slice (some ⟨w.heap.size, 0, none⟩) 0 G) 0 [] :=
 ⟨by simp, .inr ⟨w.heap.size, G, cur, rfl, Nat.le_refl _, heap_alloc_new _ _, Nat.zero_le _, hG, hc, by simp⟩⟩
end
def totN (ss : List (Nat × List Value)) (m : Nat) : Nat := ((ss.take m).map (·.1)).sum
def catV (ss : List (Nat × List Value)) (m : Nat) : List Value := (ss.take m).flatMap (·.2)
def SlIn (w : World) (size : Nat) (u : Value) (p : Nat × List Value) : Prop := ∃ A c, u = .slice A p.1 c ∧ Rd w [] size A p.1 p.2
theorem totN_succ (ss : List (Nat × List Value)) (m : Nat) (h : m < ss.length) : totN ss (m + 1) = totN ss m + ss[m].1 := by
 unfold totN
 rw [List.take_succ_eq_append_getElem h, List.map_append, List.sum_append]
 simp
theorem catV_succ (ss : List (Nat × List Value)) (m : Nat) (h : m < ss.length) : catV ss (m + 1) = catV ss m ++ ss[m].2 := by
 unfold catV
 rw [List.take_succ_eq_append_getElem h, List.flatMap_append]
 simp
theorem totN_le (ss : List (Nat × List Value)) {m : Nat} (h : m ≤ ss.length) : totN ss m ≤ totN ss ss.length := by
 have key : ∀ d, m + d ≤ ss.length → totN ss m ≤ totN ss (m + d) := fun d => by
  induction d with
  | zero => intro _; exact Nat.le_refl _
  | succ d ih =>
   intro h
   have := ih (by omega)
   have h2 := totN_succ ss (m + d) (by omega)
   rw [← Nat.add_assoc, h2]
   omega
 have := key (ss.length - m) (by omega)
 rwa [show m + (ss.length - m) = ss.length by omega] at this
end Go.Proofs.YtnjjajanfedjiaaGreatDoor
namespace Go.Proofs.YtnjjajanfedjiaaGreatDoor
open Go.RowKit Go.BigFrame
attribute [local go_sem] bs_size bs_extract bs_append bs_toList
theorem catJinfo : (Tryz.prog.info? 45).map (fun i => (i.zero, i.size, i.bytes)) = some (some (.agg #[.int .i64 0, .int .i64 0, .slice none 0 0, .slice none 0 0, .slice none 0 0, .string ⟨#[]⟩, .string ⟨#[]⟩, .int .i64 0, .int .i64 0, .string ⟨#[]⟩, .string ⟨#[]⟩, .int .i64 0, .int .i64 0, .string ⟨#[]⟩, .int .i64 0]), 15, 208) := by kernel_rfl
def JobsC (W : World) (us : List (List Value)) (l : List Jb) : Prop := us.length = l.length ∧ ∀ j (h : j < us.length) (h' : j < l.length), JbIn W us[j] l[j]
theorem JbIn.len {W : World} {cs : List Value} {x : Jb} (h : JbIn W cs x) : cs.length = 15 := by obtain ⟨_, _, _, e, _⟩ := h; rw [e]; rfl
theorem JobsC.keep {W W' : World} {us : List (List Value)} {l : List Jb} (h : JobsC W us l) (hk : Keeps [] W W') : JobsC W' us l := ⟨h.1, fun j h1 h2 => (h.2 j h1 h2).keep hk⟩
theorem JobsC.lens {W : World} {us : List (List Value)} {l : List Jb} (h : JobsC W us l) : ∀ u ∈ us, u.length = 15 := fun u hu => by
 obtain ⟨j, hj, rfl⟩ := List.getElem_of_mem hu
 exact (h.2 j hj (by have := h.1; omega)).len
theorem flat_len15 {us : List (List Value)} (h : ∀ u ∈ us, u.length = 15) : us.flatten.length = us.length * 15 := by
 induction us with
 | nil => rfl
 | cons u us ih =>
  rw [List.flatten_cons, List.length_append, h u (by simp), ih fun v hv => h v (List.mem_cons_of_mem _ hv), List.length_cons]
  omega
theorem JobsC.one {W : World} {us : List (List Value)} {l : List Jb} (h : JobsC W us l) : ∀ u ∈ us.flatten, u.oneCell' = true := fun u hu => by
 obtain ⟨r, hr, hu⟩ := List.mem_flatten.1 hu
 obtain ⟨j, hj, rfl⟩ := List.getElem_of_mem hr
 obtain ⟨v2, v3, v4, e, h2, h3, h4⟩ := h.2 j hj (by have := h.1; omega)
 obtain ⟨_, _, _, rfl, _⟩ := h2
 obtain ⟨_, _, _, rfl, _⟩ := h3
 obtain ⟨_, _, _, rfl, _⟩ := h4
 rw [e] at hu
 simp only [jbCells, List.mem_cons, List.not_mem_nil, or_false] at hu
 rcases hu with rfl | rfl | rfl | rfl | rfl | rfl | rfl | rfl | rfl | rfl | rfl | rfl | rfl | rfl | rfl <;> rfl
theorem JobsC.append {W : World} {us vs : List (List Value)} {l m : List Jb} (h : JobsC W us l) (k : JobsC W vs m) : JobsC W (us ++ vs) (l ++ m) := by
 refine ⟨by rw [List.length_append, List.length_append, h.1, k.1], fun j h1 h2 => ?_⟩
 by_cases hj : j < us.length
 ·have hj' : j < l.length := by rw [← h.1]; exact hj
  rw [List.getElem_append_left hj, List.getElem_append_left hj']
  exact h.2 j hj hj'
 ·rw [List.length_append] at h1 h2
  have hk : j - us.length = j - l.length := by rw [h.1]
  rw [List.getElem_append_right (by omega), List.getElem_append_right (by rw [← h.1]; omega)]
  have := k.2 (j - us.length) (by omega) (by rw [hk]; have := h.1; omega)
  simpa [hk] using this
theorem JobsC.take {W : World} {us : List (List Value)} {l : List Jb} (h : JobsC W us l) (n : Nat) : JobsC W (us.take n) (l.take n) :=
 ⟨by rw [List.length_take, List.length_take, h.1], fun j h1 h2 => by
  rw [List.getElem_take, List.getElem_take]
  exact h.2 j _ _⟩
theorem JobsC.drop {W : World} {us : List (List Value)} {l : List Jb} (h : JobsC W us l) (n : Nat) : JobsC W (us.drop n) (l.drop n) :=
 ⟨by rw [List.length_drop, List.length_drop, h.1], fun j h1 h2 => by
  rw [List.getElem_drop, List.getElem_drop]
  exact h.2 _ _ _⟩
theorem LsIn.rows {W : World} {v : Value} {l : List Jb} (h : LsIn JbIn 15 W v l) : ∃ A c us, v = .slice A l.length c ∧ l.length ≤ c ∧ l.length ≤ 4294967296 ∧ JobsC W us l ∧ Rd W [] 15 A l.length us.flatten := by
 obtain ⟨hn, A, c, rfl, hc, hat⟩ := h
 have hx : ∀ j, ∃ cs : List Value, ∀ (h : j < l.length), cs.length = 15 ∧ JbIn W cs l[j] ∧ ∃ g, A = some ⟨g, 0, none⟩ ∧ g < W.heap.size ∧ ∀ k u, cs[k]? = some u → W.cell? ⟨g, j * 15 + k, none⟩ = some u := fun j => by
  by_cases hj : j < l.length
  ·obtain ⟨g, cs, e, hg, hl, hE, hcell⟩ := hat j hj
   exact ⟨cs, fun _ => ⟨hl, hE, g, e, hg, hcell⟩⟩
  ·exact ⟨[], fun h => absurd h hj⟩
 obtain ⟨F, hF⟩ := Classical.axiomOfChoice hx
 have hus : ∀ j (h : j < ((List.range l.length).map F).length), ((List.range l.length).map F)[j] = F j := fun j h => by simp
 have hlen : ((List.range l.length).map F).length = l.length := by simp
 have hall : ∀ u ∈ (List.range l.length).map F, u.length = 15 := fun u hu => by
  obtain ⟨j, hj, rfl⟩ := List.mem_map.1 hu
  exact (hF j (List.mem_range.1 hj)).1
 refine ⟨A, c, (List.range l.length).map F, rfl, hc, hn, ⟨hlen, fun j h1 h2 => by rw [hus j h1]; exact (hF j h2).2.1⟩, by rw [flat_len15 hall, hlen], fun h0 => ?_⟩
 obtain ⟨g, e, hg, _⟩ := (hF 0 h0).2.2
 refine ⟨_, e, by simp, hg, fun i u hu => ?_⟩
 have hi : i < ((List.range l.length).map F).flatten.length := (List.getElem?_eq_some_iff.1 hu).1
 rw [flat_len15 hall, hlen] at hi
 have hj : i / 15 < l.length := by omega
 have hd : i = i / 15 * 15 + i % 15 := by omega
 obtain ⟨g', e', _, hc'⟩ := (hF (i / 15) hj).2.2
 rw [e] at e'
 cases e'
 rw [add_at, Nat.zero_add, hd]
 refine hc' (i % 15) u ?_
 rw [← hus (i / 15) (by rw [hlen]; exact hj), ← flat_at hall (i / 15) (by rw [hlen]; exact hj) (i % 15) (by omega), ← hd]
 exact hu
theorem JobsC.lsIn {W : World} {base : Nat} {v : Value} {us : List (List Value)} {l : List Jb} (h : JobsC W us l) (ho : W.ownsRow base 45 15 v l.length us.flatten) (hn : l.length ≤ 4294967296) : LsIn JbIn 15 W v l := by
 obtain ⟨A, c, rfl, hc, _⟩ := own_rdm ho
 obtain ⟨A', c', e, hx⟩ := own_form ho
 injection e with e1 e2 e3
 subst e1 e3
 refine ⟨hn, _, _, rfl, hc, fun j hj => ?_⟩
 obtain ⟨g, rfl, hg, hcell⟩ := hx (by omega)
 have hju : j < us.length := by rw [h.1]; exact hj
 have hJ := h.2 j hju hj
 refine ⟨g, us[j], rfl, hg, hJ.len, hJ, fun k u hu => hcell _ _ ?_⟩
 have hk : k < 15 := by
  have := (List.getElem?_eq_some_iff.1 hu).1
  rwa [hJ.len] at this
 rw [flat_at h.lens j hju k hk]
 exact hu
theorem rd15_take {W : World} {A : Option Addr} {us : List (List Value)} {n m : Nat} (hu : ∀ u ∈ us, u.length = 15) (h : Rd W [] 15 A n us.flatten) (hn : us.length = n) (hm : m ≤ n) : Rd W [] 15 A m (us.take m).flatten := by
 have hu' : ∀ u ∈ us.take m, u.length = 15 := fun u h => hu u (List.mem_of_mem_take h)
 refine ⟨by rw [flat_len15 hu', List.length_take]; congr 1; omega, fun h0 => ?_⟩
 obtain ⟨ad, e, hb, hl, hc⟩ := h.2 (by omega)
 refine ⟨ad, e, hb, hl, fun j u hj => hc j u ?_⟩
 have e2 : us.flatten = (us.take m).flatten ++ (us.drop m).flatten := by rw [← List.flatten_append, List.take_append_drop]
 rw [e2, List.getElem?_append_left (List.getElem?_eq_some_iff.1 hj).1]
 exact hj
theorem rd15_drop {W : World} {b o : Nat} {A : Option Addr} {us : List (List Value)} {n m : Nat} (hu : ∀ u ∈ us, u.length = 15) (h : Rd W [] 15 (some ⟨b, o, none⟩) n us.flatten) (hn : us.length = n) (hm : m ≤ n) (hA : m < n → A = some ⟨b, o + m * 15, none⟩) : Rd W [] 15 A (n - m) (us.drop m).flatten := by
 have hu' : ∀ u ∈ us.drop m, u.length = 15 := fun u h => hu u (List.mem_of_mem_drop h)
 have hut : ∀ u ∈ us.take m, u.length = 15 := fun u h => hu u (List.mem_of_mem_take h)
 refine ⟨by rw [flat_len15 hu', List.length_drop]; congr 1; omega, fun h0 => ?_⟩
 obtain ⟨ad, e, hb, hl, hc⟩ := h.2 (by omega)
 cases e
 refine ⟨_, hA (by omega), hb, hl, fun j u hj => ?_⟩
 have e2 : us.flatten = (us.take m).flatten ++ (us.drop m).flatten := by rw [← List.flatten_append, List.take_append_drop]
 have hlt : (us.take m).flatten.length = m * 15 := by rw [flat_len15 hut, List.length_take]; congr 1; omega
 have := hc (m * 15 + j) u (by rw [e2, List.getElem?_append_right (by omega), hlt, Nat.add_sub_cancel_left]; exact hj)
 rw [add_at] at this ⊢
 rw [Nat.add_assoc]
 exact this
set_option maxHeartbeats 2000000 in
set_option maxRecDepth 40000 in
theorem cloneJ_any (n : Nat) (h1 : 1 ≤ n) (h2 : n ≤ 4294967296) (ys : List Value) (h1c : ∀ u ∈ ys, u.oneCell' = true) (A : Option Addr) (c : Nat) (w : World) (hA : Rd w [] 15 A n ys) :
  Calls Tryz.prog 21 #[.slice A n c] w fun e w' => (∃ v, e = .returned v ∧ w'.ownsRow w.heap.size 45 15 v n ys) ∧ Keeps [] w w' := by
 obtain ⟨iv, hiv, hvz0, hvz1, hvz2⟩ := info_parts catJinfo
 obtain ⟨b, o, rfl, _, hb, _⟩ := hA.open' (by omega) (by omega)
 have hk0 : Keeps [] w (w.alloc (.cells #[] 45)) := (Keeps.refl _ _).alloc _
 have hz := zeros_own (w := w) (e := 45) (cur := #[]) (size := 15) (G := 0) rfl (by decide)
 obtain ⟨v', w', hrun, ho', hg'⟩ := run_append_rd (P := Tryz.prog) (w.alloc (.cells #[] 45)) w.heap.size 23 23 45 iv _ 15 208 Tryz.underlying23 hiv hvz0 hvz1 hvz2 rfl (by decide) hz (hA.keep hk0) c h1c (by unfold maxLen; omega) (by omega) hk0.size
 rw [Nat.zero_add, List.nil_append] at ho'
 have HRUN := Lib.hid hrun
 have HO := Lib.hid ho'
 have HK := Lib.hid (hk0.grown hg' (fun g hg => .inr (by injection hg with hg; rw [← hg]; exact Nat.le_refl _)))
 have heq := fun W => Lib.run_eql_slice_nil (P := Tryz.prog) W 23 45 (some ⟨b, o, none⟩) n c 0 0 Tryz.underlying23
 clear hk0 hz hrun ho' hg' hA hiv hvz0 hvz1 hvz2 h1c
 go_enter Tryz.func21, Tryz.ntmps21
 go_wp2_with (at_builtin; refine Lib.wpList_append_run _ rfl _ _ _ _ rfl _ _ rfl rfl _ _ HRUN.out ?_)
 go_ret
 exact ⟨⟨_, rfl, HO.out⟩, HK.out⟩
end Go.Proofs.YtnjjajanfedjiaaGreatDoor
