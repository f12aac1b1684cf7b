/- Slices put behind one another: append of whatever slice, and a new row of zeros; no program in sight. slices.Concat at 32. slices.Clone of a row. -/
import Derived.Test.YtomgnjgaafnkiaaGreatDoorOncM1
import Derived.Maps.AppendAt
import Derived.Lib.SlFresh
import Derived.Lib.AppendZeros
import Derived.Lib.AppendZerosOnto
import Derived.OwnWalk
import Derived.Test.YtomgnjgaafnkiaaGreatDoorOncM12
import Derived.WalkSpells
namespace Go.Proofs.YtomgnjgaafnkiaaGreatDoor
open Go.RowKit
section
variable {P : Program} (w : World)
/-- A slice that reads as a list, put behind a row of the call's own. -/
theorem run_append_rd (base : Nat) (t ty e : TypeId) (i : TypeInfo) (z : Value) (size bytes : Nat) (ht : P.underlying t = some (.slice e)) (hi : P.info? e = some i) (hz : i.zero = some z)
    (hsize : i.size = size) (hby : i.bytes = bytes) (hzs : z.cells.size = size) (hsz : 0 < size)
    {v : Value} {n : Nat} {xs : List Value} (hown : w.ownsRow base e size v n xs) {A : Option Addr} {m : Nat} {ys : List Value} (hr : Rd w [] size A m ys) (c : Nat) (h1 : ∀ u ∈ ys, u.oneCell' = true)
    (h63 : n + m ≤ maxLen) (hbytes : (n + m) * bytes ≤ 140737488355328) (hbase : base ≤ w.heap.size) :
    ∃ v' w', (Builtin.append_ #[t, t] ty #[v, .slice A m c]).run P w = .ok v' w' ∧ w'.ownsRow base e size v' (n + m) (xs ++ ys) ∧ w.grownBy w' v.ownBlock := by
  cases A with
  | some ad =>
    have hc : ∀ j u, ys[j]? = some u → w.cell? (ad.add j) = some u := fun j u hu => by
      have hm : 0 < m := by
        have := (List.getElem?_eq_some_iff.1 hu).1
        rw [hr.1] at this
        rcases Nat.eq_zero_or_pos m with h | h
        · rw [h] at this; omega
        · exact h
      obtain ⟨ad', e1, _, _, h⟩ := hr.2 hm
      injection e1 with e1
      rw [e1]
      exact h j u hu
    obtain ⟨v', w', hrun, h2, h3, _⟩ := run_append_own_at (P := P) w base t ty e i z size bytes ht hi hz hsize hby hzs hsz v n xs hown ad m c ys hr.1 hc h1 h63 hbytes hbase
    exact ⟨v', w', hrun, h2, h3⟩
  | none =>
    have hm : m = 0 := by
      rcases Nat.eq_zero_or_pos m with h | h
      · exact h
      · obtain ⟨_, h, _⟩ := hr.2 h; cases h
    subst hm
    have hy : ys = [] := List.eq_nil_of_length_eq_zero (by rw [hr.1, Nat.zero_mul])
    subst hy
    refine ⟨v, w, ?_, by simpa using hown, World.grownBy.refl w _⟩
    have hU := run_underlying ht
    rcases hown.2 with ⟨rfl, rfl⟩ | ⟨g, cap, cur, rfl, _, _, hnc, _⟩
    · simp [Builtin.append_, hU, sizeOf, typeInfo, hi, Builtin.lenOf, Builtin.firstCells]
    · simp [Builtin.append_, hU, sizeOf, typeInfo, hi, Builtin.lenOf, Builtin.firstCells, hnc, storeCells]
/-- A new row of zeros, cut to nothing. -/
theorem zeros_own {w : World} {e : TypeId} {cur : Array Value} {size G : Nat} (hc : cur.size = G * size) (hG : G ≤ maxLen) : (w.alloc (.cells cur e)).ownsRow w.heap.size e size (.slice (some ⟨w.heap.size, 0, none⟩) 0 G) 0 [] :=
  ⟨by simp, .inr ⟨w.heap.size, G, cur, rfl, Nat.le_refl _, heap_alloc_new _ _, Nat.zero_le _, hG, hc, by simp⟩⟩
end
/-- Slices in a row: how long the first m are together, and what they hold. -/
def totN (ss : List (Nat × List Value)) (m : Nat) : Nat := ((ss.take m).map (·.1)).sum
def catV (ss : List (Nat × List Value)) (m : Nat) : List Value := (ss.take m).flatMap (·.2)
def SlIn (w : World) (size : Nat) (u : Value) (p : Nat × List Value) : Prop := ∃ A c, u = .slice A p.1 c ∧ Rd w [] size A p.1 p.2
theorem totN_succ (ss : List (Nat × List Value)) (m : Nat) (h : m < ss.length) : totN ss (m + 1) = totN ss m + ss[m].1 := by
  unfold totN
  rw [List.take_succ_eq_append_getElem h, List.map_append, List.sum_append]
  simp
theorem catV_succ (ss : List (Nat × List Value)) (m : Nat) (h : m < ss.length) : catV ss (m + 1) = catV ss m ++ ss[m].2 := by
  unfold catV
  rw [List.take_succ_eq_append_getElem h, List.flatMap_append]
  simp
theorem totN_le (ss : List (Nat × List Value)) {m : Nat} (h : m ≤ ss.length) : totN ss m ≤ totN ss ss.length := by
  have key : ∀ d, m + d ≤ ss.length → totN ss m ≤ totN ss (m + d) := fun d => by
    induction d with
    | zero => intro _; exact Nat.le_refl _
    | succ d ih =>
      intro h
      have := ih (by omega)
      have h2 := totN_succ ss (m + d) (by omega)
      rw [← Nat.add_assoc, h2]
      omega
  have := key (ss.length - m) (by omega)
  rwa [show m + (ss.length - m) = ss.length by omega] at this
end Go.Proofs.YtomgnjgaafnkiaaGreatDoor
namespace Go.Proofs.YtomgnjgaafnkiaaGreatDoor
open Go.RowKit
attribute [local go_sem] bs_size bs_extract bs_append bs_toList
theorem catVinfo : (Tryz.prog.info? 32).map (fun i => (i.zero, i.size, i.bytes)) = some (some (.agg #[.int .i64 0, .int .i64 0, .string ⟨#[]⟩]), 3, 32) := by kernel_rfl
set_option maxHeartbeats 2000000 in
set_option maxRecDepth 100000 in
theorem growV_any (n : Nat) (hn : n ≤ 4294967296) (w : World) :
    Calls Tryz.prog 113 #[.slice none 0 0, .int .i64 (n : Int)] w fun e w' => (∃ v, e = .returned v ∧ w'.ownsRow w.heap.size 32 3 v 0 []) ∧ Keeps [] w w' := by
  by_cases h0 : n = 0
  · subst h0
    go_enter Tryz.func113, Tryz.ntmps113
    go_wp2
    go_ret
    exact ⟨⟨_, rfl, World.ownsRow_nil _ _ _ _⟩, Keeps.refl _ _⟩
  · obtain ⟨i0, hi, hz0, hz1, hz2⟩ := info_parts catVinfo
    have hrz := Lib.run_append_grow_zeros w 41 3 41 32 i0 _ .i64 .i64 Tryz.underlying41 Tryz.underlying3 hi hz0 none 0 0 [] (run_firstCells_none w.drew _ 0 0 0) n (by omega) (by rw [hz1]; decide) (by omega) (by omega) (by rw [hz2]; omega) (growslice_fits (by omega) (by rw [hz2]; omega))
    have hG : grownCap w (0 + n) 0 32 ≤ maxLen := grownCap_le_maxLen w (0 + n) 0 32 (by unfold maxLen; omega)
    have hGn : 0 + n ≤ grownCap w (0 + n) 0 32 := grownCap_ge w _ _ _
    rw [Nat.zero_add] at hrz hG hGn
    obtain ⟨G, hGG⟩ : ∃ G, grownCap w n 0 32 = G := ⟨_, rfl⟩
    rw [hGG] at hrz hG hGn
    obtain ⟨cs, hcs⟩ : ∃ cs, (([] : List Value).toArray ++ Builtin.zeroCells (.agg #[.int .i64 0, .int .i64 0, .string ⟨#[]⟩] : Value).cells n ++ Builtin.zeroCells (.agg #[.int .i64 0, .int .i64 0, .string ⟨#[]⟩] : Value).cells (G - n)) = cs := ⟨_, rfl⟩
    rw [hcs] at hrz
    have hsz : cs.size = G * 3 := by
      rw [← hcs]
      simp [Builtin.zeroCells, Value.cells]
      omega
    have HZ := Lib.hid (zeros_own (w := w.drew) (e := 32) (size := 3) hsz hG)
    have HRZ := Lib.hid hrz
    have h1 : ¬ ((n : Int) < 0) := by omega
    have h4 : (0 : Int) < (n : Int) := by omega
    have hm1 : G ≤ 9223372036854775807 := by unfold maxLen at hG; omega
    clear hrz hcs hsz hGG hi hz0 hz1 hz2
    go_enter Tryz.func113, Tryz.ntmps113
    go_wp2_with (at_builtin; refine Lib.wpList_append_run _ rfl _ _ _ _ rfl _ _ rfl rfl _ _ HRZ.out ?_)
    go_ret
    exact ⟨⟨_, rfl, HZ.out⟩, ((Keeps.refl [] w).drew).alloc _⟩
set_option maxHeartbeats 2000000 in
set_option maxRecDepth 40000 in
theorem concatV_any (ss : List (Nat × List Value)) (us : List Value) (A0 : Option Addr) (k0 : Nat) (w : World) (hus : us.length = ss.length) (hB : Rd w [] 1 A0 ss.length us) (hu : ∀ i (h : i < us.length) (h' : i < ss.length), SlIn w 3 us[i] ss[i]) (hl : ss.length ≤ 4294967296) (htot : totN ss ss.length ≤ 4294967296) (hone : ∀ p ∈ ss, ∀ x ∈ p.2, x.oneCell' = true) :
    Calls Tryz.prog 97 #[.slice A0 ss.length k0] w fun e w' => (∃ v, e = .returned v ∧ w'.ownsRow w.heap.size 32 3 v (totN ss ss.length) (catV ss ss.length)) ∧ Keeps [] w w' := by
  obtain ⟨ie, hie, hez0, hez1, hez2⟩ := info_parts catVinfo
  have HB := Lib.hid hB
  have HU := Lib.hid hu
  have HUS := Lib.hid hus
  have HTL := Lib.hid (fun m (h : m ≤ ss.length) => Nat.le_trans (totN_le ss h) htot)
  have HON := Lib.hid hone
  have HGR := Lib.hid (growV_any (totN ss ss.length) htot w)
  clear hB hu hone hus htot
  go_enter Tryz.func97, Tryz.ntmps97
  go_wp2
  go_loop [3, 11] (fun s i => ∃ m : Nat, m ≤ ss.length ∧ i = .int .i64 m ∧ s = .int .i64 (totN ss m : Nat)) (fun _ i => ss.length - (intOf i).toNat)
  case atStart => exact ⟨0, Nat.zero_le _, rfl, rfl⟩
  case round =>
    obtain ⟨m, hm, rfl, rfl⟩ := hrel
    by_cases hlt : m < ss.length
    · obtain ⟨b, o, rfl, _, hb, hc⟩ := HB.out.open' (by omega) (by omega)
      have hux : m < us.length := by rw [HUS.out]; exact hlt
      have d1 := hc m _ (List.getElem?_eq_getElem hux)
      obtain ⟨A, c, he, hr⟩ := HU.out m hux hlt
      rw [he] at d1
      have HS := Lib.hid (totN_succ ss m hlt)
      have hle := HTL.out (m + 1) (by omega)
      rw [HS.out] at hle
      clear hc he hr
      generalize totN ss m = a at *
      generalize ss[m].1 = n at *
      have hneg : ¬ ((a : Int) + (n : Int) < 0) := by omega
      go_wp2
      go_round
      case rel => exact ⟨m + 1, by omega, by go_num, by rw [HS.out]; go_num⟩
      case measure => simp [intOf]; omega
    · obtain rfl : m = ss.length := by omega
      go_wp2_with fail
      refine HGR.out.mono ?_
      rintro e w2 ⟨⟨v0, rfl, ho0⟩, hk0⟩
      have HO0 := Lib.hid ho0
      have HK0 := Lib.hid hk0
      clear ho0 hk0 HGR
      go_wp2
      go_loopw [6, 27] (fun u i wx => ∃ (m : Nat) (v : Value), v = u ∧ m ≤ ss.length ∧ i = .int .i64 m ∧ wx.ownsRow w.heap.size 32 3 v (totN ss m) (catV ss m) ∧ Keeps [] w wx) (fun _ i _ => ss.length - (intOf i).toNat)
      case atStart => exact ⟨0, v0, rfl, Nat.zero_le _, rfl, HO0.out, HK0.out⟩
      case round =>
        obtain ⟨m, v, rfl, hm2, rfl, hown, hk⟩ := hrel
        have HK := Lib.hid hk
        have HO := Lib.hid hown
        clear hk hown
        by_cases hlt : m < ss.length
        · obtain ⟨b, o, rfl, _, hb, hc⟩ := (HB.out.keep HK.out).open' (by omega) (by omega)
          have hux : m < us.length := by rw [HUS.out]; exact hlt
          have d1 := hc m _ (List.getElem?_eq_getElem hux)
          obtain ⟨A, c, he, hr⟩ := HU.out m hux hlt
          rw [he] at d1
          have hle := HTL.out (m + 1) (by omega)
          rw [totN_succ ss m hlt] at hle
          obtain ⟨v', w', hrun, ho', hg'⟩ := run_append_rd (P := Tryz.prog) wr w.heap.size 41 41 32 ie _ 3 32 Tryz.underlying41 hie hez0 hez1 hez2 rfl (by decide) HO.out (hr.keep HK.out) c (HON.out _ (List.getElem_mem hlt)) (by unfold maxLen; omega) (by omega) HK.out.size
          have HRUN := Lib.hid hrun
          have HO' : Hid (w'.ownsRow w.heap.size 32 3 v' (totN ss (m + 1)) (catV ss (m + 1))) := Lib.hid (by rw [totN_succ ss m hlt, catV_succ ss m hlt]; exact ho')
          have HK' := Lib.hid (HK.out.grown hg' (fun g hg => .inr (HO.out.lt g hg).1))
          clear hc he hr hrun ho' hg' hle
          generalize ss[m].1 = n at *
          go_wp2_with (at_builtin; refine Lib.wpList_append_run _ rfl _ _ _ _ rfl _ _ rfl rfl _ _ HRUN.out ?_)
          go_roundw
          case rel => exact ⟨m + 1, v', rfl, by omega, by go_num, HO'.out, HK'.out⟩
          case measure => simp [intOf]; omega
        · obtain rfl : m = ss.length := by omega
          go_wp2
          go_ret
          exact ⟨⟨_, rfl, HO.out⟩, HK.out⟩
end Go.Proofs.YtomgnjgaafnkiaaGreatDoor
namespace Go.Proofs.YtomgnjgaafnkiaaGreatDoor
open Go.RowKit
attribute [local go_sem] bs_size bs_extract bs_append bs_toList
theorem vs_oneCell (l : List Vl) : ∀ u ∈ vsCells l, u.oneCell' = true := fun u hu => by
  unfold vsCells at hu
  obtain ⟨y, _, hy⟩ := List.mem_flatMap.1 hu
  simp only [vCells, List.mem_cons, List.not_mem_nil, or_false] at hy
  rcases hy with rfl | rfl | rfl <;> rfl
set_option maxHeartbeats 2000000 in
set_option maxRecDepth 40000 in
theorem clone_any (r : List Vl) (h1 : 1 ≤ r.length) (h2 : r.length ≤ 4294967296) (A : Option Addr) (c : Nat) (w : World) (hA : Rd w [] 3 A r.length (vsCells r)) :
    Calls Tryz.prog 90 #[.slice A r.length c] w fun e w' => (∃ v, e = .returned v ∧ w'.ownsRow w.heap.size 32 3 v r.length (vsCells r)) ∧ Keeps [] w w' := by
  obtain ⟨iv, hiv, hvz0, hvz1, hvz2⟩ := info_parts catVinfo
  obtain ⟨b, o, rfl, _, hb, _⟩ := hA.open' (by omega) (by omega)
  have hk0 : Keeps [] w (w.alloc (.cells #[] 32)) := (Keeps.refl _ _).alloc _
  have hz := zeros_own (w := w) (e := 32) (cur := #[]) (size := 3) (G := 0) rfl (by decide)
  obtain ⟨v', w', hrun, ho', hg'⟩ := run_append_rd (P := Tryz.prog) (w.alloc (.cells #[] 32)) w.heap.size 41 41 32 iv _ 3 32 Tryz.underlying41 hiv hvz0 hvz1 hvz2 rfl (by decide) hz (hA.keep hk0) c (vs_oneCell r) (by unfold maxLen; omega) (by omega) hk0.size
  rw [Nat.zero_add, List.nil_append] at ho'
  have HRUN := Lib.hid hrun
  have HO := Lib.hid ho'
  have HK := Lib.hid (hk0.grown hg' (fun g hg => .inr (by injection hg with hg; rw [← hg]; exact Nat.le_refl _)))
  have heq := fun W => Lib.run_eql_slice_nil (P := Tryz.prog) W 41 32 (some ⟨b, o, none⟩) r.length c 0 0 Tryz.underlying41
  clear hk0 hz hrun ho' hg' hA hiv hvz0 hvz1 hvz2
  go_enter Tryz.func90, Tryz.ntmps90
  go_wp2_with (at_builtin; refine Lib.wpList_append_run _ rfl _ _ _ _ rfl _ _ rfl rfl _ _ HRUN.out ?_)
  go_ret
  exact ⟨⟨_, rfl, HO.out⟩, HK.out⟩
end Go.Proofs.YtomgnjgaafnkiaaGreatDoor
