/- slices.Concat at 41. ops.made: Distinct, Union. ops.changed. -/
import Derived.Test.YtomgnjgaafnkiaaGreatDoorOncM15
import Derived.Test.YtomgnjgaafnkiaaGreatDoorOncM12
import Derived.Test.YtomgnjgaafnkiaaGreatDoorOncM16
import Derived.Test.YtomgnjgaafnkiaaGreatDoorOncM4
namespace Go.Proofs.YtomgnjgaafnkiaaGreatDoor
open Go.RowKit
attribute [local go_sem] bs_size bs_extract bs_append bs_toList
theorem catRinfo : (Tryz.prog.info? 41).map (fun i => (i.zero, i.size, i.bytes)) = some (some (.slice none 0 0), 1, 24) := by kernel_rfl
set_option maxHeartbeats 2000000 in
set_option maxRecDepth 100000 in
theorem growR_any (n : Nat) (hn : n ≤ 4294967296) (w : World) :
    Calls Tryz.prog 95 #[.slice none 0 0, .int .i64 (n : Int)] w fun e w' => (∃ v, e = .returned v ∧ w'.ownsRow w.heap.size 41 1 v 0 []) ∧ Keeps [] w w' := by
  by_cases h0 : n = 0
  · subst h0
    go_enter Tryz.func95, Tryz.ntmps95
    go_wp2
    go_ret
    exact ⟨⟨_, rfl, World.ownsRow_nil _ _ _ _⟩, Keeps.refl _ _⟩
  · obtain ⟨i0, hi, hz0, hz1, hz2⟩ := info_parts catRinfo
    have hrz := Lib.run_append_grow_zeros w 23 3 23 41 i0 _ .i64 .i64 Tryz.underlying23 Tryz.underlying3 hi hz0 none 0 0 [] (run_firstCells_none w.drew _ 0 0 0) n (by omega) (by rw [hz1]; decide) (by omega) (by omega) (by rw [hz2]; omega) (growslice_fits (by omega) (by rw [hz2]; omega))
    have hG : grownCap w (0 + n) 0 41 ≤ maxLen := grownCap_le_maxLen w (0 + n) 0 41 (by unfold maxLen; omega)
    have hGn : 0 + n ≤ grownCap w (0 + n) 0 41 := grownCap_ge w _ _ _
    rw [Nat.zero_add] at hrz hG hGn
    obtain ⟨G, hGG⟩ : ∃ G, grownCap w n 0 41 = G := ⟨_, rfl⟩
    rw [hGG] at hrz hG hGn
    obtain ⟨cs, hcs⟩ : ∃ cs, (([] : List Value).toArray ++ Builtin.zeroCells (.slice none 0 0 : Value).cells n ++ Builtin.zeroCells (.slice none 0 0 : Value).cells (G - n)) = cs := ⟨_, rfl⟩
    rw [hcs] at hrz
    have hsz : cs.size = G * 1 := by
      rw [← hcs]
      simp [Builtin.zeroCells, Value.cells]
      omega
    have HZ := Lib.hid (zeros_own (w := w.drew) (e := 41) (size := 1) hsz hG)
    have HRZ := Lib.hid hrz
    have h1 : ¬ ((n : Int) < 0) := by omega
    have h4 : (0 : Int) < (n : Int) := by omega
    have hm1 : G ≤ 9223372036854775807 := by unfold maxLen at hG; omega
    clear hrz hcs hsz hGG hi hz0 hz1 hz2
    go_enter Tryz.func95, Tryz.ntmps95
    go_wp2_with (at_builtin; refine Lib.wpList_append_run _ rfl _ _ _ _ rfl _ _ rfl rfl _ _ HRZ.out ?_)
    go_ret
    exact ⟨⟨_, rfl, HZ.out⟩, ((Keeps.refl [] w).drew).alloc _⟩
set_option maxHeartbeats 2000000 in
set_option maxRecDepth 40000 in
theorem concatR_any (ss : List (Nat × List Value)) (us : List Value) (A0 : Option Addr) (k0 : Nat) (w : World) (hus : us.length = ss.length) (hB : Rd w [] 1 A0 ss.length us) (hu : ∀ i (h : i < us.length) (h' : i < ss.length), SlIn w 1 us[i] ss[i]) (hl : ss.length ≤ 4294967296) (htot : totN ss ss.length ≤ 4294967296) (hone : ∀ p ∈ ss, ∀ x ∈ p.2, x.oneCell' = true) :
    Calls Tryz.prog 74 #[.slice A0 ss.length k0] w fun e w' => (∃ v, e = .returned v ∧ w'.ownsRow w.heap.size 41 1 v (totN ss ss.length) (catV ss ss.length)) ∧ Keeps [] w w' := by
  obtain ⟨ie, hie, hez0, hez1, hez2⟩ := info_parts catRinfo
  have HB := Lib.hid hB
  have HU := Lib.hid hu
  have HUS := Lib.hid hus
  have HTL := Lib.hid (fun m (h : m ≤ ss.length) => Nat.le_trans (totN_le ss h) htot)
  have HON := Lib.hid hone
  have HGR := Lib.hid (growR_any (totN ss ss.length) htot w)
  clear hB hu hone hus htot
  go_enter Tryz.func74, Tryz.ntmps74
  go_wp2
  go_loop [3, 11] (fun s i => ∃ m : Nat, m ≤ ss.length ∧ i = .int .i64 m ∧ s = .int .i64 (totN ss m : Nat)) (fun _ i => ss.length - (intOf i).toNat)
  case atStart => exact ⟨0, Nat.zero_le _, rfl, rfl⟩
  case round =>
    obtain ⟨m, hm, rfl, rfl⟩ := hrel
    by_cases hlt : m < ss.length
    · obtain ⟨b, o, rfl, _, hb, hc⟩ := HB.out.open' (by omega) (by omega)
      have hux : m < us.length := by rw [HUS.out]; exact hlt
      have d1 := hc m _ (List.getElem?_eq_getElem hux)
      obtain ⟨A, c, he, hr⟩ := HU.out m hux hlt
      rw [he] at d1
      have HS := Lib.hid (totN_succ ss m hlt)
      have hle := HTL.out (m + 1) (by omega)
      rw [HS.out] at hle
      clear hc he hr
      generalize totN ss m = a at *
      generalize ss[m].1 = n at *
      have hneg : ¬ ((a : Int) + (n : Int) < 0) := by omega
      go_wp2
      go_round
      case rel => exact ⟨m + 1, by omega, by go_num, by rw [HS.out]; go_num⟩
      case measure => simp [intOf]; omega
    · obtain rfl : m = ss.length := by omega
      go_wp2_with fail
      refine HGR.out.mono ?_
      rintro e w2 ⟨⟨v0, rfl, ho0⟩, hk0⟩
      have HO0 := Lib.hid ho0
      have HK0 := Lib.hid hk0
      clear ho0 hk0 HGR
      go_wp2
      go_loopw [6, 27] (fun u i wx => ∃ (m : Nat) (v : Value), v = u ∧ m ≤ ss.length ∧ i = .int .i64 m ∧ wx.ownsRow w.heap.size 41 1 v (totN ss m) (catV ss m) ∧ Keeps [] w wx) (fun _ i _ => ss.length - (intOf i).toNat)
      case atStart => exact ⟨0, v0, rfl, Nat.zero_le _, rfl, HO0.out, HK0.out⟩
      case round =>
        obtain ⟨m, v, rfl, hm2, rfl, hown, hk⟩ := hrel
        have HK := Lib.hid hk
        have HO := Lib.hid hown
        clear hk hown
        by_cases hlt : m < ss.length
        · obtain ⟨b, o, rfl, _, hb, hc⟩ := (HB.out.keep HK.out).open' (by omega) (by omega)
          have hux : m < us.length := by rw [HUS.out]; exact hlt
          have d1 := hc m _ (List.getElem?_eq_getElem hux)
          obtain ⟨A, c, he, hr⟩ := HU.out m hux hlt
          rw [he] at d1
          have hle := HTL.out (m + 1) (by omega)
          rw [totN_succ ss m hlt] at hle
          obtain ⟨v', w', hrun, ho', hg'⟩ := run_append_rd (P := Tryz.prog) wr w.heap.size 23 23 41 ie _ 1 24 Tryz.underlying23 hie hez0 hez1 hez2 rfl (by decide) HO.out (hr.keep HK.out) c (HON.out _ (List.getElem_mem hlt)) (by unfold maxLen; omega) (by omega) HK.out.size
          have HRUN := Lib.hid hrun
          have HO' : Hid (w'.ownsRow w.heap.size 41 1 v' (totN ss (m + 1)) (catV ss (m + 1))) := Lib.hid (by rw [totN_succ ss m hlt, catV_succ ss m hlt]; exact ho')
          have HK' := Lib.hid (HK.out.grown hg' (fun g hg => .inr (HO.out.lt g hg).1))
          clear hc he hr hrun ho' hg' hle
          generalize ss[m].1 = n at *
          go_wp2_with (at_builtin; refine Lib.wpList_append_run _ rfl _ _ _ _ rfl _ _ rfl rfl _ _ HRUN.out ?_)
          go_roundw
          case rel => exact ⟨m + 1, v', rfl, by omega, by go_num, HO'.out, HK'.out⟩
          case measure => simp [intOf]; omega
        · obtain rfl : m = ss.length := by omega
          go_wp2
          go_ret
          exact ⟨⟨_, rfl, HO.out⟩, HK.out⟩
end Go.Proofs.YtomgnjgaafnkiaaGreatDoor
namespace Go.Proofs.YtomgnjgaafnkiaaGreatDoor
open Go.RowKit Go.BigFrame
attribute [local go_sem] bs_size bs_extract bs_append bs_toList
attribute [local go_sem] KW.cell
theorem rv_of_row {cs : List Cl} {r : List Vl} (h : rowB cs r = true) : ∀ v ∈ r, rvB v = true := fun v hv => by
  unfold rowB at h
  simp only [Bool.and_eq_true, decide_eq_true_eq, List.all_eq_true] at h
  obtain ⟨k, hk, rfl⟩ := List.getElem_of_mem hv
  have h2 := h.2 k (List.mem_range.2 hk)
  unfold okAt at h2
  rw [List.getElem?_eq_getElem hk, List.getElem?_eq_getElem (by omega)] at h2
  simp only [Bool.and_eq_true] at h2
  exact h2.2
theorem joinC_len (c : UInt8) (M : Nat) : ∀ l : List Bs, (∀ x ∈ l, x.length ≤ M) → (joinC c l).length ≤ (M + 1) * l.length
  | [], _ => by simp [joinC]
  | [x], h => by have := h x (by simp); simp [joinC]; omega
  | x :: y :: l, h => by
    have ih := joinC_len c M (y :: l) (fun z hz => h z (by simp [hz]))
    have hx := h x (by simp)
    show (x ++ c :: joinC c (y :: l)).length ≤ _
    simp only [List.length_append, List.length_cons] at ih ⊢
    rw [Nat.mul_succ]
    omega
theorem row_small {t : Tb} (h : rightB t = true) : ∀ r ∈ t.rows, 1 ≤ r.length ∧ r.length ≤ 4294967296 ∧ (∀ v ∈ r, numOk v.num ∧ v.word.length ≤ 1000000000) ∧ (rowText r).length ≤ 1000000000 := fun r hr => by
  obtain ⟨h1, h2, h3⟩ := rightB_parts.1 h
  have hrow := h3 r hr
  have hrv := rv_of_row hrow
  have hl : r.length = t.cols.length := by
    unfold rowB at hrow
    simp only [Bool.and_eq_true, decide_eq_true_eq] at hrow
    exact hrow.1
  have hc : 1 ≤ t.cols.length ∧ t.cols.length ≤ 6 := by
    unfold colsB at h1
    simp only [Bool.and_eq_true, decide_eq_true_eq] at h1
    exact h1.1
  refine ⟨by omega, by omega, fun v hv => ⟨(rv_len (hrv v hv)).2.1, by have := (rv_len (hrv v hv)).2.2; omega⟩, ?_⟩
  have := joinC_len 32 21 (r.map valueL) (fun x hx => by
    obtain ⟨v, hv, rfl⟩ := List.mem_map.1 hx
    exact (rv_len (hrv v hv)).1)
  rw [List.length_map] at this
  unfold rowText
  have : (21 + 1) * r.length ≤ 22 * 6 := Nat.mul_le_mul_left 22 (by omega)
  omega
set_option maxHeartbeats 4000000 in
set_option maxRecDepth 40000 in
theorem made_6 (t : Tb) (hr : rightB t = true) (OA : Option Addr) (no od : Nat) (b o : Nat) (nt ct : Nat) (A B : Option Addr) (c d : Nat) (hnt : 1 ≤ nt) (at_ retry lk ln rk rn : Int) (outs cols : List Bs) (op lc lw rc rw' : Bs) (Ao : Option Addr) (co : Nat) (Ai : Option Addr) (ni ci : Nat) (Ac : Option Addr) (cc : Nat) (w : World)
    (hd0 : w.cell? ⟨b, o, none⟩ = some (.slice A t.cols.length c)) (hd1 : w.cell? ⟨b, o + 1, none⟩ = some (.slice B t.rows.length d)) (hT : TabIn w t A B c d) (hE : TEnv w) :
    Calls Tryz.prog 44 #[.agg #[.int .i64 at_, .int .i64 6, .slice Ao outs.length co, .slice Ai ni ci, .slice Ac cols.length cc, .string (bs op), .string (bs lc), .int .i64 lk, .int .i64 ln, .string (bs lw), .string (bs rc), .int .i64 rk, .int .i64 rn, .string (bs rw'), .int .i64 retry], .slice (some ⟨b, o, none⟩) nt ct, .slice OA no od] w fun e w' => MadeOut (.ok [distinctGo t.rows [] []]) e w' ∧ Keeps [] w w' := by
  have hi1 : (0 : Int) < (nt : Int) := by omega
  have HT := Lib.hid hT
  have hz0 : b < w.heap.size := World.block_lt_of_cell? _ _ hd0
  have HK0 : Hid (Keeps [] w ((w.alloc (.cells #[.int .i64 at_, .int .i64 6, .slice Ao outs.length co, .slice Ai ni ci, .slice Ac cols.length cc, .string (bs op), .string (bs lc), .int .i64 lk, .int .i64 ln, .string (bs lw), .string (bs rc), .int .i64 rk, .int .i64 rn, .string (bs rw'), .int .i64 retry] 36)).alloc (.cells #[.slice A t.cols.length c, .slice B t.rows.length d] 25))) := Lib.hid (((Keeps.refl _ _).alloc _).alloc _)
  have HBX := Lib.hid (Blk.alloc (Blk.new w 36 #[.int .i64 at_, .int .i64 6, .slice Ao outs.length co, .slice Ai ni ci, .slice Ac cols.length cc, .string (bs op), .string (bs lc), .int .i64 lk, .int .i64 ln, .string (bs lw), .string (bs rc), .int .i64 rk, .int .i64 rn, .string (bs rw'), .int .i64 retry]) (.cells #[.slice A t.cols.length c, .slice B t.rows.length d] 25))
  have HBT := Lib.hid (Blk.new (w.alloc (.cells #[.int .i64 at_, .int .i64 6, .slice Ao outs.length co, .slice Ai ni ci, .slice Ac cols.length cc, .string (bs op), .string (bs lc), .int .i64 lk, .int .i64 ln, .string (bs lw), .string (bs rc), .int .i64 rk, .int .i64 rn, .string (bs rw'), .int .i64 retry] 36)) 25 #[.slice A t.cols.length c, .slice B t.rows.length d])
  rw [size_alloc] at HBT
  have HDI := Lib.hid (fun W (q : Keeps [] w W) => distinct_any t.rows B d W (hE.quiet q) (hT.rows.keep q) hT.lm (row_small hr))
  generalize distinctGo t.rows [] [] = DG at *
  clear hT
  go_enter Tryz.func44, Tryz.ntmps44
  go_wp2_with fail
  refine (HDI.out _ HK0.out).mono ?_
  rintro e w5 ⟨⟨v, rfl, hv⟩, hk5⟩
  have HV := Lib.hid hv
  have HK5 := Lib.hid (HK0.out.trans hk5)
  obtain ⟨A3, c3, hv3, _, _⟩ := HV.out
  subst hv3
  clear hv hk5 HBX HBT
  go_wp2
  go_ret2
  exact ⟨⟨_, 1, rfl, Nat.le_refl _, tabs_one HV.out _⟩, HK5.out.alloc _⟩
set_option maxHeartbeats 4000000 in
set_option maxRecDepth 40000 in
theorem made_5 (t u : Tb) (OA : Option Addr) (no od : Nat) (b o : Nat) (nt ct : Nat) (A B : Option Addr) (c d : Nat) (hnt : 2 ≤ nt) (at_ retry lk ln rk rn : Int) (outs cols : List Bs) (op lc lw rc rw' : Bs) (Ao : Option Addr) (co : Nat) (Ai : Option Addr) (ni ci : Nat) (Ac : Option Addr) (cc : Nat) (w : World)
    (hd0 : w.cell? ⟨b, o, none⟩ = some (.slice A t.cols.length c)) (hd1 : w.cell? ⟨b, o + 1, none⟩ = some (.slice B t.rows.length d)) (hT : TabIn w t A B c d) (A2 B2 : Option Addr) (c2 d2 : Nat)
    (hd3 : w.cell? ⟨b, o + 1 * 2 + 1, none⟩ = some (.slice B2 u.rows.length d2)) (hU : TabIn w u A2 B2 c2 d2) (hl1 : t.rows.length ≤ 100) (hl2 : u.rows.length ≤ 100) :
    Calls Tryz.prog 44 #[.agg #[.int .i64 at_, .int .i64 5, .slice Ao outs.length co, .slice Ai ni ci, .slice Ac cols.length cc, .string (bs op), .string (bs lc), .int .i64 lk, .int .i64 ln, .string (bs lw), .string (bs rc), .int .i64 rk, .int .i64 rn, .string (bs rw'), .int .i64 retry], .slice (some ⟨b, o, none⟩) nt ct, .slice OA no od] w fun e w' => MadeOut (.ok [t.rows ++ u.rows]) e w' ∧ Keeps [] w w' := by
  have hi1 : (0 : Int) < (nt : Int) := by omega
  have HT := Lib.hid hT
  have hz0 : b < w.heap.size := World.block_lt_of_cell? _ _ hd0
  have HK0 : Hid (Keeps [] w ((w.alloc (.cells #[.int .i64 at_, .int .i64 5, .slice Ao outs.length co, .slice Ai ni ci, .slice Ac cols.length cc, .string (bs op), .string (bs lc), .int .i64 lk, .int .i64 ln, .string (bs lw), .string (bs rc), .int .i64 rk, .int .i64 rn, .string (bs rw'), .int .i64 retry] 36)).alloc (.cells #[.slice A t.cols.length c, .slice B t.rows.length d] 25))) := Lib.hid (((Keeps.refl _ _).alloc _).alloc _)
  have HBX := Lib.hid (Blk.alloc (Blk.new w 36 #[.int .i64 at_, .int .i64 5, .slice Ao outs.length co, .slice Ai ni ci, .slice Ac cols.length cc, .string (bs op), .string (bs lc), .int .i64 lk, .int .i64 ln, .string (bs lw), .string (bs rc), .int .i64 rk, .int .i64 rn, .string (bs rw'), .int .i64 retry]) (.cells #[.slice A t.cols.length c, .slice B t.rows.length d] 25))
  have HBT := Lib.hid (Blk.new (w.alloc (.cells #[.int .i64 at_, .int .i64 5, .slice Ao outs.length co, .slice Ai ni ci, .slice Ac cols.length cc, .string (bs op), .string (bs lc), .int .i64 lk, .int .i64 ln, .string (bs lw), .string (bs rc), .int .i64 rk, .int .i64 rn, .string (bs rw'), .int .i64 retry] 36)) 25 #[.slice A t.cols.length c, .slice B t.rows.length d])
  rw [size_alloc] at HBT
  have hi2 : (1 : Int) < (nt : Int) := by omega
  obtain ⟨us, hul, hur, hui⟩ := hT.rows
  obtain ⟨vs, hvl, hvr, hvi⟩ := hU.rows
  have HCC : Hid (∀ W g, Keeps [] w W → Blk W g 23 #[.slice B t.rows.length d, .slice B2 u.rows.length d2] → Calls Tryz.prog 74 #[.slice (some ⟨g, 0, none⟩) 2 2] W fun e w' => (∃ v, e = .returned v ∧ RowsIs w' v (t.rows ++ u.rows)) ∧ Keeps [] W w') := Lib.hid (fun W g q hb => by
    have h := concatR_any [(t.rows.length, us), (u.rows.length, vs)] [.slice B t.rows.length d, .slice B2 u.rows.length d2] (some ⟨g, 0, none⟩) 2 W rfl ⟨rfl, fun _ => ⟨_, rfl, by simp, hb.lt, fun j x hx => by rw [add_at, Nat.zero_add, hb.cell j]; simpa using hx⟩⟩ (fun i h1 h2 => by
      match i, h1 with
      | 0, _ => exact ⟨B, d, rfl, hur.keep q⟩
      | 1, _ => exact ⟨B2, d2, rfl, hvr.keep q⟩) (by simp) (by simp [totN]; omega) (fun p hp x hx => by
      simp only [List.mem_cons, List.not_mem_nil, or_false] at hp
      rcases hp with rfl | rfl
      · obtain ⟨i, hi, rfl⟩ := List.getElem_of_mem hx
        obtain ⟨_, _, e, _⟩ := hui i hi (by simp only at hi; omega)
        simp only at e ⊢
        rw [e]; rfl
      · obtain ⟨i, hi, rfl⟩ := List.getElem_of_mem hx
        obtain ⟨_, _, e, _⟩ := hvi i hi (by simp only at hi; omega)
        simp only at e ⊢
        rw [e]; rfl)
    refine h.mono ?_
    rintro e w' ⟨⟨v, rfl, hown⟩, hk⟩
    refine ⟨⟨v, rfl, ?_⟩, hk⟩
    have e1 : totN [(t.rows.length, us), (u.rows.length, vs)] 2 = (t.rows ++ u.rows).length := by simp [totN]
    have e2 : catV [(t.rows.length, us), (u.rows.length, vs)] 2 = us ++ vs := by simp [catV]
    have hown2 : w'.ownsRow W.heap.size 41 1 v (t.rows ++ u.rows).length (us ++ vs) := by rw [← e1, ← e2]; exact hown
    obtain ⟨A3, c3, e3, hc3, hr3⟩ := own_rd hown2
    refine ⟨A3, c3, e3, hc3, us ++ vs, by simp [hul, hvl], hr3, fun i h1 h2 => ?_⟩
    by_cases hi : i < us.length
    · rw [List.getElem_append_left hi, List.getElem_append_left (by omega)]
      exact (hui i hi (by omega)).keep (q.trans hk)
    · rw [List.getElem_append_right (by omega), List.getElem_append_right (by omega)]
      have := hvi (i - us.length) (by simp at h1; omega) (by simp at h1; omega)
      simp only [hul] at this ⊢
      exact this.keep (q.trans hk))
  generalize t.rows ++ u.rows = DG at *
  clear hT hU hul hur hui hvl hvr hvi
  go_enter Tryz.func44, Tryz.ntmps44
  go_wp2
  obtain ⟨w2, hw2⟩ : ∃ w2, ((w.alloc (.cells #[.int .i64 at_, .int .i64 5, .slice Ao outs.length co, .slice Ai ni ci, .slice Ac cols.length cc, .string (bs op), .string (bs lc), .int .i64 lk, .int .i64 ln, .string (bs lw), .string (bs rc), .int .i64 rk, .int .i64 rn, .string (bs rw'), .int .i64 retry] 36)).alloc (.cells #[.slice A t.cols.length c, .slice B t.rows.length d] 25)) = w2 := ⟨_, rfl⟩
  rw [hw2] at HK0 HBX HBT ⊢
  obtain ⟨bx, hbx⟩ : ∃ bx, w.heap.size = bx := ⟨_, rfl⟩
  rw [hbx] at HBX HBT ⊢
  have e3 : w2.cell? ⟨b, o + 1 * 2 + 1, none⟩ = some (.slice B2 u.rows.length d2) := HK0.out.cell_of hd3 (by simp)
  have e4 : w2.cell? ⟨bx + 1, 1, none⟩ = some (.slice B t.rows.length d) := HBT.out.cell 1
  have hz2 : b < w2.heap.size := World.block_lt_of_cell? _ _ e3
  have hz3 : bx + 1 < w2.heap.size := HBT.out.lt
  clear hw2 hbx hd0 hd1 hd3
  go_region_held3 (fun w' => w'.cell? ⟨b, o + 1 * 2 + 1, none⟩ = some (.slice B2 u.rows.length d2) ∧ w'.cell? ⟨bx + 1, 1, none⟩ = some (.slice B t.rows.length d)) (first | exact ⟨(((Keeps.refl [] w2).drew.alloc _).trans k5).cell_of e3 (by simp), (((Keeps.refl [] w2).drew.alloc _).trans k5).cell_of e4 (by simp)⟩ | exact ⟨e3, e4⟩ | go_keep) (first | (go_at_call 74; refine (HCC.out _ _ (HK0.out.trans ((Keeps.refl [] w2).drew.alloc _)) (Blk.new _ _ _)).mono ?_; rintro e w5 ⟨⟨v, rfl, hv⟩, k5⟩; obtain ⟨A3, c3, hv3, hvl3, hvr3⟩ := hv; subst hv3))
  go_wp2
  go_ret2
  exact ⟨⟨_, 1, rfl, Nat.le_refl _, tabs_one ⟨A3, c3, rfl, hvl3, hvr3⟩ _⟩, (HK0.out.trans (((Keeps.refl [] w2).drew.alloc _).trans k5)).alloc _⟩
end Go.Proofs.YtomgnjgaafnkiaaGreatDoor
namespace Go.Proofs.YtomgnjgaafnkiaaGreatDoor
open Go.RowKit Go.BigFrame
attribute [local go_sem] bs_size bs_extract bs_append bs_toList
attribute [local go_sem] KW.cell
theorem changeGo_at (j : Jb) (a : Tb) (rs : List (List Vl)) (m : Nat) (h : m < rs.length) (out : List (List Vl)) : changeGo j a (rs.drop m) out = match changeRow j a rs[m] with
    | none => none
    | some x => changeGo j a (rs.drop (m + 1)) (out ++ [x]) := by
  rw [List.drop_eq_getElem_cons h]
  conv => lhs; unfold changeGo
  cases changeRow j a rs[m] <;> rfl
theorem changeRow_at {j : Jb} {a : Tb} {k : Nat} (hk : colIx a.cols (j.cols.headD []) = some k) (r : List Vl) : changeRow j a r = if 1000000000 < setN j.op (argV j.left a.cols r).num (argV j.right a.cols r).num ∨ setN j.op (argV j.left a.cols r).num (argV j.right a.cols r).num < -1000000000 then none else some (r.set k ⟨(r.getD k zV).kind, setN j.op (argV j.left a.cols r).num (argV j.right a.cols r).num, (r.getD k zV).word⟩) := by
  unfold changeRow
  simp only
  split
  · rfl
  · rw [hk]
theorem vs_set (r : List Vl) (k : Nat) (h : k < r.length) (n : Int) : vsCells (r.set k ⟨r[k].kind, n, r[k].word⟩) = (vsCells r).set (k * 3 + 1) (.int .i64 n) := by
  induction r generalizing k with
  | nil => simp at h
  | cons p r ih =>
    rcases k with _ | k
    · simp [vsCells, vCells]
    · have hk' : k < r.length := by simpa using h
      have := ih k hk'
      simp only [List.set_cons_succ, List.getElem_cons_succ]
      show vCells p ++ vsCells (r.set k ⟨r[k].kind, n, r[k].word⟩) = (vCells p ++ vsCells r).set ((k + 1) * 3 + 1) (.int .i64 n)
      rw [this, show (k + 1) * 3 + 1 = (k * 3 + 1) + 1 + 1 + 1 by omega]
      simp [vCells]
/-- One cell of a row of the call's own turns. -/
theorem own_store {w : World} {base g n cap j : Nat} {e : TypeId} {size : Nat} {xs : List Value} {u : Value} (h : w.ownsRow base e size (.slice (some ⟨g, 0, none⟩) n cap) n xs) : (w.setCell ⟨g, j, none⟩ u).ownsRow base e size (.slice (some ⟨g, 0, none⟩) n cap) n (xs.set j u) := by
  refine ⟨by rw [List.length_set]; exact h.1, ?_⟩
  rcases h.2 with ⟨hv, _⟩ | ⟨g', cap', cur, hv, hb, hh, hc, hm, hs, ht⟩
  · cases hv
  · injection hv with e1 e2 e3
    injection e1 with e1
    injection e1 with e1
    subst e1 e3
    have hblk : Blk w g e cur := hh
    refine .inr ⟨g, cap, cur.setIfInBounds j u, rfl, hb, hblk.set j u, hc, hm, by simpa using hs, ?_⟩
    rw [← ht]
    simp only [Array.toList_setIfInBounds]
    rw [List.take_set]
theorem own_cellF {w : World} {base g n cap : Nat} {e : TypeId} {size : Nat} {xs : List Value} (h : w.ownsRow base e size (.slice (some ⟨g, 0, none⟩) n cap) n xs) (i : Nat) : w.frozen? ⟨g, i, none⟩ = false := by
  rcases h.2 with ⟨hv, _⟩ | ⟨g', cap', cur, hv, hb, hh, hc, hm, hs, ht⟩
  · cases hv
  · injection hv with e1 e2 e3
    injection e1 with e1
    injection e1 with e1
    subst e1
    have hblk : Blk w g e cur := hh
    exact hblk.frozen i
def ChgOut (R : Option (List (List Vl))) (e : Ending) (w' : World) : Prop := match R with
  | none => e = .returned (.tuple #[.slice none 0 0, .iface 74 (.int .i64 2)])
  | some l => ∃ g, e = .returned (.tuple #[.slice (some ⟨g, 0, none⟩) 1 1, .nilIface]) ∧ RdTabs w' (some ⟨g, 0, none⟩) [l]
theorem vsCells_len (l : List Vl) : (vsCells l).length = l.length * 3 := by
  induction l with
  | nil => rfl
  | cons p l ih =>
    unfold vsCells at ih ⊢
    rw [List.flatMap_cons, List.length_append, ih]
    simp [vCells]
    omega
theorem mul_bd {x y : Int} (h1 : -1000000000 ≤ x) (h2 : x ≤ 1000000000) (h3 : -1000000000 ≤ y) (h4 : y ≤ 1000000000) : -1000000000000000000 ≤ x * y ∧ x * y ≤ 1000000000000000000 := by
  have h5 : (x * y).natAbs ≤ 1000000000 * 1000000000 := by
    rw [Int.natAbs_mul]
    exact Nat.mul_le_mul (by omega) (by omega)
  omega
theorem size_set0 (w : World) (p : Addr) (v : Value) : (w.setCell p v).heap.size = w.heap.size := by simp [World.setCell]
theorem heap_set_new (w : World) (p : Addr) (v : Value) (o : Obj) : ((w.setCell p v).alloc o).heap[w.heap.size]? = some o := by
  have h := heap_alloc_new (w.setCell p v) o
  rwa [size_set0] at h
set_option maxHeartbeats 8000000 in
set_option maxRecDepth 40000 in
theorem changed_add (j : Jb) (t : Tb) (k : Nat) (nm : Bs) (A B : Option Addr) (c d : Nat) (Ao : Option Addr) (co : Nat) (Ai : Option Addr) (ni ci : Nat) (Ac : Option Addr) (cc : Nat) (w : World) (hT : TabIn w t A B c d) (hcols : j.cols = [nm]) (hk : colIx t.cols nm = some k) (hcR : Rd w [] 1 Ac 1 (strs [nm]))
    (hrl : ∀ r ∈ t.rows, r.length = t.cols.length) (hal : ∀ r ∈ t.rows, argOk j.left t.cols r) (har : ∀ r ∈ t.rows, argOk j.right t.cols r)
    (hxl : ∀ r ∈ t.rows, -1000000000 ≤ (argV j.left t.cols r).num ∧ (argV j.left t.cols r).num ≤ 1000000000) (hxr : ∀ r ∈ t.rows, -1000000000 ≤ (argV j.right t.cols r).num ∧ (argV j.right t.cols r).num ≤ 1000000000) (hp : j.op = [43]) :
    Calls Tryz.prog 71 #[jAgg j Ao co Ai ni ci Ac cc, .agg #[.slice A t.cols.length c, .slice B t.rows.length d]] w fun e w' => ChgOut (changeGo j t t.rows []) e w' ∧ Keeps [] w w' := by
  obtain ⟨ir, hir, hrz0, hrz1, hrz2⟩ := info_parts rinfo
  have hkl : k < t.cols.length := (List.findIdx?_eq_some_iff_getElem.1 hk).1
  have hf := fun W (q : Keeps [] w W) => find_any t.cols nm A c W (hT.cols.keep q) hT.ln
  rw [hk] at hf
  have HF : Hid (∀ W, Keeps [] w W → Calls Tryz.prog 72 #[.slice A t.cols.length c, .string (bs nm)] W fun e w' => e = .returned (.int .i64 (k : Int)) ∧ Keeps [] W w') := Lib.hid hf
  have HAT := Lib.hid (fun m (h : m < t.rows.length) out => changeGo_at j t t.rows m h out)
  have HRW := Lib.hid (fun r => changeRow_at (j := j) (a := t) (k := k) (by rw [hcols]; exact hk) r)
  have HNL : Hid (∀ out, changeGo j t [] out = some out) := Lib.hid fun out => rfl
  generalize changeGo j t = CG at *
  generalize changeRow j t = CR at *
  have HT := Lib.hid hT
  have HAL := Lib.hid hal
  have HAR := Lib.hid har
  have HXL := Lib.hid hxl
  have HXR := Lib.hid hxr
  have HRL := Lib.hid hrl
  have hlm := hT.lm
  have hln := hT.ln
  clear hT hal har hxl hxr hrl hf hk
  obtain ⟨at_, code, outs, js, cols, op, ⟨lc, lk, ln, lw⟩, ⟨rc, rk, rn, rw'⟩, retry⟩ := j
  obtain ⟨no, hno⟩ : ∃ n, outs.length = n := ⟨_, rfl⟩
  simp only at hcols
  show Calls _ _ #[.agg #[.int .i64 at_, .int .i64 code, .slice Ao outs.length co, .slice Ai ni ci, .slice Ac cols.length cc, .string (bs op), .string (bs lc), .int .i64 lk, .int .i64 ln, .string (bs lw), .string (bs rc), .int .i64 rk, .int .i64 rn, .string (bs rw'), .int .i64 retry], .agg #[.slice A t.cols.length c, .slice B t.rows.length d]] w _
  rw [hno, show cols.length = 1 by rw [hcols]; rfl]
  have hOP : op = [43] ∨ True := .inr trivial
  subst hp
  have HSN : Hid (∀ x y, setN [43] x y = x + y) := Lib.hid (fun x y => by unfold setN; rfl)
  skip
  obtain ⟨b4, o4, hAc, _, hb4, hcs4⟩ := hcR.open' (by omega) (by decide)
  have d4 : w.cell? ⟨b4, o4, none⟩ = some (.string (bs nm)) := hcs4 0 _ rfl
  subst hAc
  have HK0 : Hid (Keeps [] w ((w.alloc (.cells #[.int .i64 at_, .int .i64 code, .slice Ao no co, .slice Ai ni ci, .slice (some ⟨b4, o4, none⟩) 1 cc, .string (bs [43]), .string (bs lc), .int .i64 lk, .int .i64 ln, .string (bs lw), .string (bs rc), .int .i64 rk, .int .i64 rn, .string (bs rw'), .int .i64 retry] 36)).alloc (.cells #[.slice A t.cols.length c, .slice B t.rows.length d] 25))) := Lib.hid (((Keeps.refl _ _).alloc _).alloc _)
  have HBX := Lib.hid (Blk.alloc (Blk.new w 36 #[.int .i64 at_, .int .i64 code, .slice Ao no co, .slice Ai ni ci, .slice (some ⟨b4, o4, none⟩) 1 cc, .string (bs [43]), .string (bs lc), .int .i64 lk, .int .i64 ln, .string (bs lw), .string (bs rc), .int .i64 rk, .int .i64 rn, .string (bs rw'), .int .i64 retry]) (.cells #[.slice A t.cols.length c, .slice B t.rows.length d] 25))
  have HBT := Lib.hid (Blk.new (w.alloc (.cells #[.int .i64 at_, .int .i64 code, .slice Ao no co, .slice Ai ni ci, .slice (some ⟨b4, o4, none⟩) 1 cc, .string (bs [43]), .string (bs lc), .int .i64 lk, .int .i64 ln, .string (bs lw), .string (bs rc), .int .i64 rk, .int .i64 rn, .string (bs rw'), .int .i64 retry] 36)) 25 #[.slice A t.cols.length c, .slice B t.rows.length d])
  rw [size_alloc] at HBT
  have HD4 := Lib.hid (HK0.out.cell_of d4 (by simp))
  clear hcR hcs4 d4 hcols hno hOP
  go_enter Tryz.func71, Tryz.ntmps71
  go_wp2
  obtain ⟨w2, hw2⟩ : ∃ w2, ((w.alloc (.cells #[.int .i64 at_, .int .i64 code, .slice Ao no co, .slice Ai ni ci, .slice (some ⟨b4, o4, none⟩) 1 cc, .string (bs [43]), .string (bs lc), .int .i64 lk, .int .i64 ln, .string (bs lw), .string (bs rc), .int .i64 rk, .int .i64 rn, .string (bs rw'), .int .i64 retry] 36)).alloc (.cells #[.slice A t.cols.length c, .slice B t.rows.length d] 25)) = w2 := ⟨_, rfl⟩
  rw [hw2] at HK0 HBX HBT HD4 ⊢
  obtain ⟨bx, hbx⟩ : ∃ bx, w.heap.size = bx := ⟨_, rfl⟩
  rw [hbx] at HBX HBT ⊢
  clear hw2 hbx
  have HF2 : Hid (∀ W, Keeps [] w2 W → Calls Tryz.prog 72 #[.slice A t.cols.length c, .string (bs nm)] W fun e w' => e = .returned (.int .i64 (k : Int)) ∧ Keeps [] W w') := Lib.hid (fun W q => HF.out W (HK0.out.trans q))
  have y4 : w2.cell? ⟨bx, 4, none⟩ = some (.slice (some ⟨b4, o4, none⟩) 1 cc) := HBX.out.cell 4
  have y0 : w2.cell? ⟨bx + 1, 0, none⟩ = some (.slice A t.cols.length c) := HBT.out.cell 0
  have y8 := HD4.out
  have l1 : bx < w2.heap.size := HBX.out.lt
  have l2 : bx + 1 < w2.heap.size := HBT.out.lt
  have l3 : b4 < w2.heap.size := World.block_lt_of_cell? _ _ y8
  refine wp_region_keeps (by kernel_rfl) (by kernel_rfl) ?_
  repeat (go_big_quiet_step (first | with_reducible exact KW.of HF2.out _))
  refine wpQuiet_nil ?_
  intro w3 hk3
  have HK3 := Lib.hid hk3
  have HKB := Lib.hid (HK0.out.trans hk3)
  have HBX3 := Lib.hid (HBX.out.keep hk3 (by simp))
  have HBT3 := Lib.hid (HBT.out.keep hk3 (by simp))
  clear hk3 y4 y0 y8 l1 l2 l3 HF2 HF HBX HBT HD4
  have y1 : w3.cell? ⟨bx + 1, 1, none⟩ = some (.slice B t.rows.length d) := HBT3.out.cell 1
  go_wp2
  clear y1
  go_loopw [7, 23] (fun u i wx => ∃ (m : Nat) (v : Value) (out : List (List Vl)), v = u ∧ m ≤ t.rows.length ∧ i = .int .i64 m ∧ out.length = m ∧ Hid (Rws wx w3.heap.size v out) ∧ Hid (CG (t.rows.drop m) out = CG t.rows []) ∧ Keeps [] w3 wx) (fun _ i _ => t.rows.length - (intOf i).toNat)
  case atStart => exact ⟨0, _, [], rfl, Nat.zero_le _, rfl, rfl, Rws.nil _ _, Lib.hid rfl, Keeps.refl _ _⟩
  case round =>
    obtain ⟨m, v, out, rfl, hm, rfl, hol, HG, HCG, hk⟩ := hrel
    have HOL := Lib.hid hol
    have HK := Lib.hid hk
    have HKW := Lib.hid (HKB.out.trans hk)
    clear hk hol
    by_cases hlt : m < t.rows.length
    · obtain ⟨us, hul, hur, hui⟩ := HT.out.rows
      have hux : m < us.length := by omega
      have hrw := hui m hux hlt
      obtain ⟨b7, o7, hBe, _, hb7, hcs⟩ := hur.open' (by omega) (by omega)
      have d7 := hcs (m * 1) us[m] (by rw [Nat.mul_one]; exact List.getElem?_eq_getElem hux)
      rw [Nat.mul_one] at d7
      have hmem : t.rows[m] ∈ t.rows := List.getElem_mem hlt
      have hst := HAT.out m hlt out
      rw [HCG.out, HRW.out] at hst
      have hrr := HRL.out _ hmem
      obtain ⟨r, hr⟩ : ∃ r, t.rows[m] = r := ⟨_, rfl⟩
      rw [hr] at hrw hmem hrr hst
      obtain ⟨Ar, cr, hu, hcr, hrd⟩ := hrw
      rw [hu] at d7
      have d8 := HKW.out.cell_of d7 (by simp)
      subst hBe
      have HRD := Lib.hid hrd
      have HAA0 : Hid (∀ W, Keeps [] wr W → Calls Tryz.prog 70 #[.agg #[.string (bs lc), .int .i64 lk, .int .i64 ln, .string (bs lw)], .slice A t.cols.length c, .slice Ar r.length cr] W fun e w' => e = .returned (vAgg (argV ⟨lc, ⟨lk, ln, lw⟩⟩ t.cols r)) ∧ Keeps [] W w') := Lib.hid fun W q => arg_any ⟨lc, ⟨lk, ln, lw⟩⟩ t.cols r A Ar c cr W (HT.out.cols.keep (HKW.out.trans q)) HT.out.ln (hrd.keep (HKW.out.trans q)) (HAL.out r hmem)
      have HAB0 : Hid (∀ W, Keeps [] wr W → Calls Tryz.prog 70 #[.agg #[.string (bs rc), .int .i64 rk, .int .i64 rn, .string (bs rw')], .slice A t.cols.length c, .slice Ar r.length cr] W fun e w' => e = .returned (vAgg (argV ⟨rc, ⟨rk, rn, rw'⟩⟩ t.cols r)) ∧ Keeps [] W w') := Lib.hid fun W q => arg_any ⟨rc, ⟨rk, rn, rw'⟩⟩ t.cols r A Ar c cr W (HT.out.cols.keep (HKW.out.trans q)) HT.out.ln (hrd.keep (HKW.out.trans q)) (HAR.out r hmem)
      have hb1 := HXL.out r hmem
      have hb2 := HXR.out r hmem
      try simp only at hb1
      try simp only at hb2
      try simp only at hst
      obtain ⟨X, hX⟩ : ∃ X, argV ⟨lc, ⟨lk, ln, lw⟩⟩ t.cols r = X := ⟨_, rfl⟩
      obtain ⟨Y, hY⟩ : ∃ Y, argV ⟨rc, ⟨rk, rn, rw'⟩⟩ t.cols r = Y := ⟨_, rfl⟩
      rw [hX] at HAA0 hb1 hst
      rw [hY] at HAB0 hb2 hst
      obtain ⟨xk, xn, xw⟩ := X
      obtain ⟨yk, yn, yw⟩ := Y
      have HAA : Hid (∀ W, Keeps [] wr W → Calls Tryz.prog 70 #[.agg #[.string (bs lc), .int .i64 lk, .int .i64 ln, .string (bs lw)], .slice A t.cols.length c, .slice Ar r.length cr] W fun e w' => e = .returned (.agg #[.int .i64 xk, .int .i64 xn, .string (bs xw)]) ∧ Keeps [] W w') := HAA0
      have HAB : Hid (∀ W, Keeps [] wr W → Calls Tryz.prog 70 #[.agg #[.string (bs rc), .int .i64 rk, .int .i64 rn, .string (bs rw')], .slice A t.cols.length c, .slice Ar r.length cr] W fun e w' => e = .returned (.agg #[.int .i64 yk, .int .i64 yn, .string (bs yw)]) ∧ Keeps [] W w') := HAB0
      obtain ⟨hb1a, hb1b⟩ := hb1
      obtain ⟨hb2a, hb2b⟩ := hb2
      try simp only at hb1a hb1b hb2a hb2b
      try simp only at hst
      have HST := Lib.hid hst
      have hrk : k < r.length := by rw [hrr]; exact hkl
      have hr1 : 1 ≤ r.length := by omega
      have hr2 : r.length ≤ 4294967296 := by rw [hrr]; exact hln
      have hpm : -1000000000000000000 ≤ xn * yn ∧ xn * yn ≤ 1000000000000000000 := mul_bd hb1a hb1b hb2a hb2b
      have hp1 := hpm.1
      have hp2 := hpm.2
      have z3 := (HBX3.out.keep HK.out (by simp)).cell 6
      obtain ⟨y0, y1, y2, y3, y4, y5, y6, y7, y8, y9, y10, y11, y12, y13, y14⟩ := box15 (HBX3.out.keep HK.out (by simp))
      have x0 : wr.cell? ⟨bx + 1, 0, none⟩ = some (.slice A t.cols.length c) := (HBT3.out.keep HK.out (by simp)).cell 0
      have l1 : bx < wr.heap.size := (HBX3.out.keep HK.out (by simp)).lt
      have l2 : bx + 1 < wr.heap.size := (HBT3.out.keep HK.out (by simp)).lt
      clear hst hX hY hu hul hur hui hcs d7 hrd hpm hmem HAA0 HAB0 z3 hrr hr hcr
      have hfx : ∀ W, (Instr.field 32 (.agg #[.int .i64 xk, .int .i64 xn, .string (bs xw)]) 1).run Tryz.prog W = .ok (.int .i64 xn) W := fun W => by rfl
      have hfy : ∀ W, (Instr.field 32 (.agg #[.int .i64 yk, .int .i64 yn, .string (bs yw)]) 1).run Tryz.prog W = .ok (.int .i64 yn) W := fun W => by rfl
      go_wp2
      refine wp_region_keeps (by kernel_rfl) (by kernel_rfl) ?_
      repeat (go_big_quiet_step (first | with_reducible exact KW.of HAA.out _ | with_reducible exact KW.of HAB.out _))
      refine wpQuiet_nil ?_
      intro w5 hk5
      have HK5 := Lib.hid hk5
      clear y0 y1 y2 y3 y4 y6 y7 y8 y9 y10 y11 y12 y13 y14 x0 l1 l2 d8
      replace y5 := hk5.cell_of y5 (by simp)
      clear hk5
      obtain ⟨N, hN⟩ : ∃ N, xn + yn = N := ⟨_, rfl⟩
      have HN := Lib.hid hN
      have HSX : Hid (setN [43] xn yn = N) := Lib.hid ((HSN.out xn yn).trans hN)
      rw [HSX.out] at HST
      by_cases hbig : 1000000000 < N
      · have HFF : Hid (CG t.rows [] = none) := Lib.hid (by rw [HST.out, if_pos (.inl hbig)])
        rw [hN.symm] at hbig
        clear hN
        go_wp2
        go_ret2
        exact ⟨by rw [HFF.out]; rfl, HKW.out.trans HK5.out⟩
      · by_cases hsm : N < -1000000000
        · have HFF : Hid (CG t.rows [] = none) := Lib.hid (by rw [HST.out, if_pos (.inr hsm)])
          rw [hN.symm] at hbig hsm
          clear hN
          go_wp2
          go_ret2
          exact ⟨by rw [HFF.out]; rfl, HKW.out.trans HK5.out⟩
        · have hgd : r.getD k zV = r[k] := by rw [List.getD_eq_getElem?_getD, List.getElem?_eq_getElem hrk]; rfl
          have HFF : Hid (CG t.rows [] = CG (t.rows.drop (m + 1)) (out ++ [r.set k ⟨r[k].kind, N, r[k].word⟩])) := Lib.hid (by
            rw [HST.out, if_neg (by rintro (h | h); exact hbig h; exact hsm h), hgd])
          have HCL := Lib.hid (clone_any r hr1 hr2 Ar cr w5 (HRD.out.keep (HKW.out.trans HK5.out)))
          have HVS := Lib.hid (vs_set r k hrk N)
          obtain ⟨vx0, vx1, vx2⟩ := vsCells_at r k hrk
          have HV1 := Lib.hid vx1
          rw [hN.symm] at hbig hsm
          clear hN hgd vx0 vx1 vx2
          go_wp2_with fail
          refine HCL.out.mono ?_
          rintro e w6 ⟨⟨v6, rfl, hown6⟩, hk6⟩
          obtain ⟨g, cap6, rfl, hcp6, hb6, hg6, hcell6⟩ := own_some hown6 hr1
          have HO6 := Lib.hid hown6
          have HK6 := Lib.hid hk6
          have c1 := hcell6 _ _ HV1.out
          have f1 := own_cellF hown6 (k * 3 + 1)
          have HGB := Lib.hid hb6
          have hi3 : (0 : Int) ≤ (k : Int) := by omega
          have hi4 : (k : Int) < (r.length : Int) := by omega
          have HK7 := Lib.hid (((HK5.out.trans hk6)).setCell (p := ⟨g, k * 3 + 1, none⟩) (.inr (Nat.le_trans HK5.out.size hb6)) (.int .i64 N))
          have HO7 := Lib.hid (own_store (j := k * 3 + 1) (u := .int .i64 N) hown6)
          rw [← HVS.out] at HO7
          have HG7 := Lib.hid (HG.out.keep HK7.out)
          obtain ⟨hs, hsl, hso, hsi⟩ := HG7.out
          have HSO := Lib.hid hso
          rw [HOL.out] at hso
          have HO := Lib.hid hso
          have HSI := Lib.hid hsi
          have HSL := Lib.hid hsl
          have HQ : Hid ((w6.setCell ⟨g, k * 3 + 1, none⟩ (.int .i64 N)).ownsRow w3.heap.size 32 3 (.slice (some ⟨g, 0, none⟩) r.length cap6) (r.set k ⟨r[k].kind, N, r[k].word⟩).length (vsCells (r.set k ⟨r[k].kind, N, r[k].word⟩))) := Lib.hid (by
            rw [List.length_set]
            exact own_base HO7.out (Nat.le_trans HK.out.size HK5.out.size))
          have hz3 : w3.heap.size ≤ w6.heap.size := Nat.le_trans (Nat.le_trans HK.out.size HK5.out.size) hk6.size
          have hbd := Lib.hid (show m + 1 ≤ maxLen ∧ (m + 1) * 24 ≤ 140737488355328 by simp only [maxLen]; omega)
          clear hown6 hk6 hb6 hcell6 hso hsi hsl hcp6
          have hN2 := HN.out
          clear HN
          subst hN2
          go_wp2_with (at_builtin; (refine wpList_append_lies _ rfl _ _ 23 rfl w3.heap.size 41 ir _ 1 24 Tryz.underlying23 hir hrz0 hrz1 hrz2 rfl (by decide) _ m hs rfl (HO.out.alloc _) ⟨w6.heap.size, 0, none⟩ 1 1 [.slice (some ⟨g, 0, none⟩) r.length cap6] rfl rfl (World.news_of_block (heap_set_new _ _ _ _)) (by simp [Value.oneCell']) (by decide) hbd.out.1 hbd.out.2 (by rw [size_alloc, size_set0]; omega) _ rfl ?_); intro gw cap2 w9 hown9 hgrow9 hat9 hlt9)
          have HK9 := Lib.hid (((HK.out.trans HK7.out).alloc (.cells #[.slice (some ⟨g, 0, none⟩) r.length cap6] 41)).grown hgrow9 (fun g' hg => .inr (HO.out.lt g' hg).1))
          have HGN : Hid (Rws w9 w3.heap.size (.slice (some ⟨gw, 0, none⟩) (m + 1) cap2) (out ++ [r.set k ⟨r[k].kind, xn + yn, r[k].word⟩])) := Lib.hid (by
            have h := rws_snoc (W' := w9) (base := w3.heap.size) (gw := gw) (cap := cap2) HSL.out HSI.out HSO.out HQ.out hgrow9 (by rw [HOL.out]; exact hown9)
            rw [HOL.out] at h
            exact h)
          have HCN := Lib.hid (HFF.out.symm)
          clear hown9 hgrow9 hat9 hlt9
          go_wp2
          go_roundw
          case rel => exact ⟨m + 1, _, _, rfl, by omega, by go_num, by rw [List.length_append, HOL.out]; rfl, HGN, HCN, HK9.out⟩
          case measure => simp [intOf]; omega
    · obtain rfl : m = t.rows.length := by omega
      have hcg := HCG.out
      rw [List.drop_length] at hcg
      have HCE : Hid (CG t.rows [] = some out) := Lib.hid (hcg.symm.trans (HNL.out out))
      obtain ⟨B6, d6, hv, hd6, hrd⟩ := HG.out.rd
      subst hv
      have HRI : Hid (RowsIs wr (.slice B6 out.length d6) out) := Lib.hid ⟨B6, d6, rfl, hd6, hrd⟩
      clear hcg hd6 hrd HG
      go_wp2
      go_ret2
      exact ⟨by rw [HCE.out]; exact ⟨_, rfl, tabs_one HRI.out _⟩, HKW.out.alloc _⟩
set_option maxHeartbeats 8000000 in
set_option maxRecDepth 40000 in
theorem changed_sub (j : Jb) (t : Tb) (k : Nat) (nm : Bs) (A B : Option Addr) (c d : Nat) (Ao : Option Addr) (co : Nat) (Ai : Option Addr) (ni ci : Nat) (Ac : Option Addr) (cc : Nat) (w : World) (hT : TabIn w t A B c d) (hcols : j.cols = [nm]) (hk : colIx t.cols nm = some k) (hcR : Rd w [] 1 Ac 1 (strs [nm]))
    (hrl : ∀ r ∈ t.rows, r.length = t.cols.length) (hal : ∀ r ∈ t.rows, argOk j.left t.cols r) (har : ∀ r ∈ t.rows, argOk j.right t.cols r)
    (hxl : ∀ r ∈ t.rows, -1000000000 ≤ (argV j.left t.cols r).num ∧ (argV j.left t.cols r).num ≤ 1000000000) (hxr : ∀ r ∈ t.rows, -1000000000 ≤ (argV j.right t.cols r).num ∧ (argV j.right t.cols r).num ≤ 1000000000) (hp : j.op = [45]) :
    Calls Tryz.prog 71 #[jAgg j Ao co Ai ni ci Ac cc, .agg #[.slice A t.cols.length c, .slice B t.rows.length d]] w fun e w' => ChgOut (changeGo j t t.rows []) e w' ∧ Keeps [] w w' := by
  obtain ⟨ir, hir, hrz0, hrz1, hrz2⟩ := info_parts rinfo
  have hkl : k < t.cols.length := (List.findIdx?_eq_some_iff_getElem.1 hk).1
  have hf := fun W (q : Keeps [] w W) => find_any t.cols nm A c W (hT.cols.keep q) hT.ln
  rw [hk] at hf
  have HF : Hid (∀ W, Keeps [] w W → Calls Tryz.prog 72 #[.slice A t.cols.length c, .string (bs nm)] W fun e w' => e = .returned (.int .i64 (k : Int)) ∧ Keeps [] W w') := Lib.hid hf
  have HAT := Lib.hid (fun m (h : m < t.rows.length) out => changeGo_at j t t.rows m h out)
  have HRW := Lib.hid (fun r => changeRow_at (j := j) (a := t) (k := k) (by rw [hcols]; exact hk) r)
  have HNL : Hid (∀ out, changeGo j t [] out = some out) := Lib.hid fun out => rfl
  generalize changeGo j t = CG at *
  generalize changeRow j t = CR at *
  have HT := Lib.hid hT
  have HAL := Lib.hid hal
  have HAR := Lib.hid har
  have HXL := Lib.hid hxl
  have HXR := Lib.hid hxr
  have HRL := Lib.hid hrl
  have hlm := hT.lm
  have hln := hT.ln
  clear hT hal har hxl hxr hrl hf hk
  obtain ⟨at_, code, outs, js, cols, op, ⟨lc, lk, ln, lw⟩, ⟨rc, rk, rn, rw'⟩, retry⟩ := j
  obtain ⟨no, hno⟩ : ∃ n, outs.length = n := ⟨_, rfl⟩
  simp only at hcols
  show Calls _ _ #[.agg #[.int .i64 at_, .int .i64 code, .slice Ao outs.length co, .slice Ai ni ci, .slice Ac cols.length cc, .string (bs op), .string (bs lc), .int .i64 lk, .int .i64 ln, .string (bs lw), .string (bs rc), .int .i64 rk, .int .i64 rn, .string (bs rw'), .int .i64 retry], .agg #[.slice A t.cols.length c, .slice B t.rows.length d]] w _
  rw [hno, show cols.length = 1 by rw [hcols]; rfl]
  have hOP : op = [45] ∨ True := .inr trivial
  subst hp
  have HSN : Hid (∀ x y, setN [45] x y = x - y) := Lib.hid (fun x y => by unfold setN; rfl)
  skip
  obtain ⟨b4, o4, hAc, _, hb4, hcs4⟩ := hcR.open' (by omega) (by decide)
  have d4 : w.cell? ⟨b4, o4, none⟩ = some (.string (bs nm)) := hcs4 0 _ rfl
  subst hAc
  have HK0 : Hid (Keeps [] w ((w.alloc (.cells #[.int .i64 at_, .int .i64 code, .slice Ao no co, .slice Ai ni ci, .slice (some ⟨b4, o4, none⟩) 1 cc, .string (bs [45]), .string (bs lc), .int .i64 lk, .int .i64 ln, .string (bs lw), .string (bs rc), .int .i64 rk, .int .i64 rn, .string (bs rw'), .int .i64 retry] 36)).alloc (.cells #[.slice A t.cols.length c, .slice B t.rows.length d] 25))) := Lib.hid (((Keeps.refl _ _).alloc _).alloc _)
  have HBX := Lib.hid (Blk.alloc (Blk.new w 36 #[.int .i64 at_, .int .i64 code, .slice Ao no co, .slice Ai ni ci, .slice (some ⟨b4, o4, none⟩) 1 cc, .string (bs [45]), .string (bs lc), .int .i64 lk, .int .i64 ln, .string (bs lw), .string (bs rc), .int .i64 rk, .int .i64 rn, .string (bs rw'), .int .i64 retry]) (.cells #[.slice A t.cols.length c, .slice B t.rows.length d] 25))
  have HBT := Lib.hid (Blk.new (w.alloc (.cells #[.int .i64 at_, .int .i64 code, .slice Ao no co, .slice Ai ni ci, .slice (some ⟨b4, o4, none⟩) 1 cc, .string (bs [45]), .string (bs lc), .int .i64 lk, .int .i64 ln, .string (bs lw), .string (bs rc), .int .i64 rk, .int .i64 rn, .string (bs rw'), .int .i64 retry] 36)) 25 #[.slice A t.cols.length c, .slice B t.rows.length d])
  rw [size_alloc] at HBT
  have HD4 := Lib.hid (HK0.out.cell_of d4 (by simp))
  clear hcR hcs4 d4 hcols hno hOP
  go_enter Tryz.func71, Tryz.ntmps71
  go_wp2
  obtain ⟨w2, hw2⟩ : ∃ w2, ((w.alloc (.cells #[.int .i64 at_, .int .i64 code, .slice Ao no co, .slice Ai ni ci, .slice (some ⟨b4, o4, none⟩) 1 cc, .string (bs [45]), .string (bs lc), .int .i64 lk, .int .i64 ln, .string (bs lw), .string (bs rc), .int .i64 rk, .int .i64 rn, .string (bs rw'), .int .i64 retry] 36)).alloc (.cells #[.slice A t.cols.length c, .slice B t.rows.length d] 25)) = w2 := ⟨_, rfl⟩
  rw [hw2] at HK0 HBX HBT HD4 ⊢
  obtain ⟨bx, hbx⟩ : ∃ bx, w.heap.size = bx := ⟨_, rfl⟩
  rw [hbx] at HBX HBT ⊢
  clear hw2 hbx
  have HF2 : Hid (∀ W, Keeps [] w2 W → Calls Tryz.prog 72 #[.slice A t.cols.length c, .string (bs nm)] W fun e w' => e = .returned (.int .i64 (k : Int)) ∧ Keeps [] W w') := Lib.hid (fun W q => HF.out W (HK0.out.trans q))
  have y4 : w2.cell? ⟨bx, 4, none⟩ = some (.slice (some ⟨b4, o4, none⟩) 1 cc) := HBX.out.cell 4
  have y0 : w2.cell? ⟨bx + 1, 0, none⟩ = some (.slice A t.cols.length c) := HBT.out.cell 0
  have y8 := HD4.out
  have l1 : bx < w2.heap.size := HBX.out.lt
  have l2 : bx + 1 < w2.heap.size := HBT.out.lt
  have l3 : b4 < w2.heap.size := World.block_lt_of_cell? _ _ y8
  refine wp_region_keeps (by kernel_rfl) (by kernel_rfl) ?_
  repeat (go_big_quiet_step (first | with_reducible exact KW.of HF2.out _))
  refine wpQuiet_nil ?_
  intro w3 hk3
  have HK3 := Lib.hid hk3
  have HKB := Lib.hid (HK0.out.trans hk3)
  have HBX3 := Lib.hid (HBX.out.keep hk3 (by simp))
  have HBT3 := Lib.hid (HBT.out.keep hk3 (by simp))
  clear hk3 y4 y0 y8 l1 l2 l3 HF2 HF HBX HBT HD4
  have y1 : w3.cell? ⟨bx + 1, 1, none⟩ = some (.slice B t.rows.length d) := HBT3.out.cell 1
  go_wp2
  clear y1
  go_loopw [7, 23] (fun u i wx => ∃ (m : Nat) (v : Value) (out : List (List Vl)), v = u ∧ m ≤ t.rows.length ∧ i = .int .i64 m ∧ out.length = m ∧ Hid (Rws wx w3.heap.size v out) ∧ Hid (CG (t.rows.drop m) out = CG t.rows []) ∧ Keeps [] w3 wx) (fun _ i _ => t.rows.length - (intOf i).toNat)
  case atStart => exact ⟨0, _, [], rfl, Nat.zero_le _, rfl, rfl, Rws.nil _ _, Lib.hid rfl, Keeps.refl _ _⟩
  case round =>
    obtain ⟨m, v, out, rfl, hm, rfl, hol, HG, HCG, hk⟩ := hrel
    have HOL := Lib.hid hol
    have HK := Lib.hid hk
    have HKW := Lib.hid (HKB.out.trans hk)
    clear hk hol
    by_cases hlt : m < t.rows.length
    · obtain ⟨us, hul, hur, hui⟩ := HT.out.rows
      have hux : m < us.length := by omega
      have hrw := hui m hux hlt
      obtain ⟨b7, o7, hBe, _, hb7, hcs⟩ := hur.open' (by omega) (by omega)
      have d7 := hcs (m * 1) us[m] (by rw [Nat.mul_one]; exact List.getElem?_eq_getElem hux)
      rw [Nat.mul_one] at d7
      have hmem : t.rows[m] ∈ t.rows := List.getElem_mem hlt
      have hst := HAT.out m hlt out
      rw [HCG.out, HRW.out] at hst
      have hrr := HRL.out _ hmem
      obtain ⟨r, hr⟩ : ∃ r, t.rows[m] = r := ⟨_, rfl⟩
      rw [hr] at hrw hmem hrr hst
      obtain ⟨Ar, cr, hu, hcr, hrd⟩ := hrw
      rw [hu] at d7
      have d8 := HKW.out.cell_of d7 (by simp)
      subst hBe
      have HRD := Lib.hid hrd
      have HAA0 : Hid (∀ W, Keeps [] wr W → Calls Tryz.prog 70 #[.agg #[.string (bs lc), .int .i64 lk, .int .i64 ln, .string (bs lw)], .slice A t.cols.length c, .slice Ar r.length cr] W fun e w' => e = .returned (vAgg (argV ⟨lc, ⟨lk, ln, lw⟩⟩ t.cols r)) ∧ Keeps [] W w') := Lib.hid fun W q => arg_any ⟨lc, ⟨lk, ln, lw⟩⟩ t.cols r A Ar c cr W (HT.out.cols.keep (HKW.out.trans q)) HT.out.ln (hrd.keep (HKW.out.trans q)) (HAL.out r hmem)
      have HAB0 : Hid (∀ W, Keeps [] wr W → Calls Tryz.prog 70 #[.agg #[.string (bs rc), .int .i64 rk, .int .i64 rn, .string (bs rw')], .slice A t.cols.length c, .slice Ar r.length cr] W fun e w' => e = .returned (vAgg (argV ⟨rc, ⟨rk, rn, rw'⟩⟩ t.cols r)) ∧ Keeps [] W w') := Lib.hid fun W q => arg_any ⟨rc, ⟨rk, rn, rw'⟩⟩ t.cols r A Ar c cr W (HT.out.cols.keep (HKW.out.trans q)) HT.out.ln (hrd.keep (HKW.out.trans q)) (HAR.out r hmem)
      have hb1 := HXL.out r hmem
      have hb2 := HXR.out r hmem
      try simp only at hb1
      try simp only at hb2
      try simp only at hst
      obtain ⟨X, hX⟩ : ∃ X, argV ⟨lc, ⟨lk, ln, lw⟩⟩ t.cols r = X := ⟨_, rfl⟩
      obtain ⟨Y, hY⟩ : ∃ Y, argV ⟨rc, ⟨rk, rn, rw'⟩⟩ t.cols r = Y := ⟨_, rfl⟩
      rw [hX] at HAA0 hb1 hst
      rw [hY] at HAB0 hb2 hst
      obtain ⟨xk, xn, xw⟩ := X
      obtain ⟨yk, yn, yw⟩ := Y
      have HAA : Hid (∀ W, Keeps [] wr W → Calls Tryz.prog 70 #[.agg #[.string (bs lc), .int .i64 lk, .int .i64 ln, .string (bs lw)], .slice A t.cols.length c, .slice Ar r.length cr] W fun e w' => e = .returned (.agg #[.int .i64 xk, .int .i64 xn, .string (bs xw)]) ∧ Keeps [] W w') := HAA0
      have HAB : Hid (∀ W, Keeps [] wr W → Calls Tryz.prog 70 #[.agg #[.string (bs rc), .int .i64 rk, .int .i64 rn, .string (bs rw')], .slice A t.cols.length c, .slice Ar r.length cr] W fun e w' => e = .returned (.agg #[.int .i64 yk, .int .i64 yn, .string (bs yw)]) ∧ Keeps [] W w') := HAB0
      obtain ⟨hb1a, hb1b⟩ := hb1
      obtain ⟨hb2a, hb2b⟩ := hb2
      try simp only at hb1a hb1b hb2a hb2b
      try simp only at hst
      have HST := Lib.hid hst
      have hrk : k < r.length := by rw [hrr]; exact hkl
      have hr1 : 1 ≤ r.length := by omega
      have hr2 : r.length ≤ 4294967296 := by rw [hrr]; exact hln
      have hpm : -1000000000000000000 ≤ xn * yn ∧ xn * yn ≤ 1000000000000000000 := mul_bd hb1a hb1b hb2a hb2b
      have hp1 := hpm.1
      have hp2 := hpm.2
      have z3 := (HBX3.out.keep HK.out (by simp)).cell 6
      obtain ⟨y0, y1, y2, y3, y4, y5, y6, y7, y8, y9, y10, y11, y12, y13, y14⟩ := box15 (HBX3.out.keep HK.out (by simp))
      have x0 : wr.cell? ⟨bx + 1, 0, none⟩ = some (.slice A t.cols.length c) := (HBT3.out.keep HK.out (by simp)).cell 0
      have l1 : bx < wr.heap.size := (HBX3.out.keep HK.out (by simp)).lt
      have l2 : bx + 1 < wr.heap.size := (HBT3.out.keep HK.out (by simp)).lt
      clear hst hX hY hu hul hur hui hcs d7 hrd hpm hmem HAA0 HAB0 z3 hrr hr hcr
      have hfx : ∀ W, (Instr.field 32 (.agg #[.int .i64 xk, .int .i64 xn, .string (bs xw)]) 1).run Tryz.prog W = .ok (.int .i64 xn) W := fun W => by rfl
      have hfy : ∀ W, (Instr.field 32 (.agg #[.int .i64 yk, .int .i64 yn, .string (bs yw)]) 1).run Tryz.prog W = .ok (.int .i64 yn) W := fun W => by rfl
      go_wp2
      refine wp_region_keeps (by kernel_rfl) (by kernel_rfl) ?_
      repeat (go_big_quiet_step (first | with_reducible exact KW.of HAA.out _ | with_reducible exact KW.of HAB.out _))
      refine wpQuiet_nil ?_
      intro w5 hk5
      have HK5 := Lib.hid hk5
      clear y0 y1 y2 y3 y4 y6 y7 y8 y9 y10 y11 y12 y13 y14 x0 l1 l2 d8
      replace y5 := hk5.cell_of y5 (by simp)
      clear hk5
      obtain ⟨N, hN⟩ : ∃ N, xn - yn = N := ⟨_, rfl⟩
      have HN := Lib.hid hN
      have HSX : Hid (setN [45] xn yn = N) := Lib.hid ((HSN.out xn yn).trans hN)
      rw [HSX.out] at HST
      by_cases hbig : 1000000000 < N
      · have HFF : Hid (CG t.rows [] = none) := Lib.hid (by rw [HST.out, if_pos (.inl hbig)])
        rw [hN.symm] at hbig
        clear hN
        go_wp2
        go_ret2
        exact ⟨by rw [HFF.out]; rfl, HKW.out.trans HK5.out⟩
      · by_cases hsm : N < -1000000000
        · have HFF : Hid (CG t.rows [] = none) := Lib.hid (by rw [HST.out, if_pos (.inr hsm)])
          rw [hN.symm] at hbig hsm
          clear hN
          go_wp2
          go_ret2
          exact ⟨by rw [HFF.out]; rfl, HKW.out.trans HK5.out⟩
        · have hgd : r.getD k zV = r[k] := by rw [List.getD_eq_getElem?_getD, List.getElem?_eq_getElem hrk]; rfl
          have HFF : Hid (CG t.rows [] = CG (t.rows.drop (m + 1)) (out ++ [r.set k ⟨r[k].kind, N, r[k].word⟩])) := Lib.hid (by
            rw [HST.out, if_neg (by rintro (h | h); exact hbig h; exact hsm h), hgd])
          have HCL := Lib.hid (clone_any r hr1 hr2 Ar cr w5 (HRD.out.keep (HKW.out.trans HK5.out)))
          have HVS := Lib.hid (vs_set r k hrk N)
          obtain ⟨vx0, vx1, vx2⟩ := vsCells_at r k hrk
          have HV1 := Lib.hid vx1
          rw [hN.symm] at hbig hsm
          clear hN hgd vx0 vx1 vx2
          go_wp2_with fail
          refine HCL.out.mono ?_
          rintro e w6 ⟨⟨v6, rfl, hown6⟩, hk6⟩
          obtain ⟨g, cap6, rfl, hcp6, hb6, hg6, hcell6⟩ := own_some hown6 hr1
          have HO6 := Lib.hid hown6
          have HK6 := Lib.hid hk6
          have c1 := hcell6 _ _ HV1.out
          have f1 := own_cellF hown6 (k * 3 + 1)
          have HGB := Lib.hid hb6
          have hi3 : (0 : Int) ≤ (k : Int) := by omega
          have hi4 : (k : Int) < (r.length : Int) := by omega
          have HK7 := Lib.hid (((HK5.out.trans hk6)).setCell (p := ⟨g, k * 3 + 1, none⟩) (.inr (Nat.le_trans HK5.out.size hb6)) (.int .i64 N))
          have HO7 := Lib.hid (own_store (j := k * 3 + 1) (u := .int .i64 N) hown6)
          rw [← HVS.out] at HO7
          have HG7 := Lib.hid (HG.out.keep HK7.out)
          obtain ⟨hs, hsl, hso, hsi⟩ := HG7.out
          have HSO := Lib.hid hso
          rw [HOL.out] at hso
          have HO := Lib.hid hso
          have HSI := Lib.hid hsi
          have HSL := Lib.hid hsl
          have HQ : Hid ((w6.setCell ⟨g, k * 3 + 1, none⟩ (.int .i64 N)).ownsRow w3.heap.size 32 3 (.slice (some ⟨g, 0, none⟩) r.length cap6) (r.set k ⟨r[k].kind, N, r[k].word⟩).length (vsCells (r.set k ⟨r[k].kind, N, r[k].word⟩))) := Lib.hid (by
            rw [List.length_set]
            exact own_base HO7.out (Nat.le_trans HK.out.size HK5.out.size))
          have hz3 : w3.heap.size ≤ w6.heap.size := Nat.le_trans (Nat.le_trans HK.out.size HK5.out.size) hk6.size
          have hbd := Lib.hid (show m + 1 ≤ maxLen ∧ (m + 1) * 24 ≤ 140737488355328 by simp only [maxLen]; omega)
          clear hown6 hk6 hb6 hcell6 hso hsi hsl hcp6
          have hN2 := HN.out
          clear HN
          subst hN2
          go_wp2_with (at_builtin; (refine wpList_append_lies _ rfl _ _ 23 rfl w3.heap.size 41 ir _ 1 24 Tryz.underlying23 hir hrz0 hrz1 hrz2 rfl (by decide) _ m hs rfl (HO.out.alloc _) ⟨w6.heap.size, 0, none⟩ 1 1 [.slice (some ⟨g, 0, none⟩) r.length cap6] rfl rfl (World.news_of_block (heap_set_new _ _ _ _)) (by simp [Value.oneCell']) (by decide) hbd.out.1 hbd.out.2 (by rw [size_alloc, size_set0]; omega) _ rfl ?_); intro gw cap2 w9 hown9 hgrow9 hat9 hlt9)
          have HK9 := Lib.hid (((HK.out.trans HK7.out).alloc (.cells #[.slice (some ⟨g, 0, none⟩) r.length cap6] 41)).grown hgrow9 (fun g' hg => .inr (HO.out.lt g' hg).1))
          have HGN : Hid (Rws w9 w3.heap.size (.slice (some ⟨gw, 0, none⟩) (m + 1) cap2) (out ++ [r.set k ⟨r[k].kind, xn - yn, r[k].word⟩])) := Lib.hid (by
            have h := rws_snoc (W' := w9) (base := w3.heap.size) (gw := gw) (cap := cap2) HSL.out HSI.out HSO.out HQ.out hgrow9 (by rw [HOL.out]; exact hown9)
            rw [HOL.out] at h
            exact h)
          have HCN := Lib.hid (HFF.out.symm)
          clear hown9 hgrow9 hat9 hlt9
          go_wp2
          go_roundw
          case rel => exact ⟨m + 1, _, _, rfl, by omega, by go_num, by rw [List.length_append, HOL.out]; rfl, HGN, HCN, HK9.out⟩
          case measure => simp [intOf]; omega
    · obtain rfl : m = t.rows.length := by omega
      have hcg := HCG.out
      rw [List.drop_length] at hcg
      have HCE : Hid (CG t.rows [] = some out) := Lib.hid (hcg.symm.trans (HNL.out out))
      obtain ⟨B6, d6, hv, hd6, hrd⟩ := HG.out.rd
      subst hv
      have HRI : Hid (RowsIs wr (.slice B6 out.length d6) out) := Lib.hid ⟨B6, d6, rfl, hd6, hrd⟩
      clear hcg hd6 hrd HG
      go_wp2
      go_ret2
      exact ⟨by rw [HCE.out]; exact ⟨_, rfl, tabs_one HRI.out _⟩, HKW.out.alloc _⟩
set_option maxHeartbeats 8000000 in
set_option maxRecDepth 40000 in
theorem changed_mul (j : Jb) (t : Tb) (k : Nat) (nm : Bs) (A B : Option Addr) (c d : Nat) (Ao : Option Addr) (co : Nat) (Ai : Option Addr) (ni ci : Nat) (Ac : Option Addr) (cc : Nat) (w : World) (hT : TabIn w t A B c d) (hcols : j.cols = [nm]) (hk : colIx t.cols nm = some k) (hcR : Rd w [] 1 Ac 1 (strs [nm]))
    (hrl : ∀ r ∈ t.rows, r.length = t.cols.length) (hal : ∀ r ∈ t.rows, argOk j.left t.cols r) (har : ∀ r ∈ t.rows, argOk j.right t.cols r)
    (hxl : ∀ r ∈ t.rows, -1000000000 ≤ (argV j.left t.cols r).num ∧ (argV j.left t.cols r).num ≤ 1000000000) (hxr : ∀ r ∈ t.rows, -1000000000 ≤ (argV j.right t.cols r).num ∧ (argV j.right t.cols r).num ≤ 1000000000) (hp : j.op ≠ [43]) (hm : j.op ≠ [45]) :
    Calls Tryz.prog 71 #[jAgg j Ao co Ai ni ci Ac cc, .agg #[.slice A t.cols.length c, .slice B t.rows.length d]] w fun e w' => ChgOut (changeGo j t t.rows []) e w' ∧ Keeps [] w w' := by
  obtain ⟨ir, hir, hrz0, hrz1, hrz2⟩ := info_parts rinfo
  have hkl : k < t.cols.length := (List.findIdx?_eq_some_iff_getElem.1 hk).1
  have hf := fun W (q : Keeps [] w W) => find_any t.cols nm A c W (hT.cols.keep q) hT.ln
  rw [hk] at hf
  have HF : Hid (∀ W, Keeps [] w W → Calls Tryz.prog 72 #[.slice A t.cols.length c, .string (bs nm)] W fun e w' => e = .returned (.int .i64 (k : Int)) ∧ Keeps [] W w') := Lib.hid hf
  have HAT := Lib.hid (fun m (h : m < t.rows.length) out => changeGo_at j t t.rows m h out)
  have HRW := Lib.hid (fun r => changeRow_at (j := j) (a := t) (k := k) (by rw [hcols]; exact hk) r)
  have HNL : Hid (∀ out, changeGo j t [] out = some out) := Lib.hid fun out => rfl
  generalize changeGo j t = CG at *
  generalize changeRow j t = CR at *
  have HT := Lib.hid hT
  have HAL := Lib.hid hal
  have HAR := Lib.hid har
  have HXL := Lib.hid hxl
  have HXR := Lib.hid hxr
  have HRL := Lib.hid hrl
  have hlm := hT.lm
  have hln := hT.ln
  clear hT hal har hxl hxr hrl hf hk
  obtain ⟨at_, code, outs, js, cols, op, ⟨lc, lk, ln, lw⟩, ⟨rc, rk, rn, rw'⟩, retry⟩ := j
  obtain ⟨no, hno⟩ : ∃ n, outs.length = n := ⟨_, rfl⟩
  simp only at hcols
  show Calls _ _ #[.agg #[.int .i64 at_, .int .i64 code, .slice Ao outs.length co, .slice Ai ni ci, .slice Ac cols.length cc, .string (bs op), .string (bs lc), .int .i64 lk, .int .i64 ln, .string (bs lw), .string (bs rc), .int .i64 rk, .int .i64 rn, .string (bs rw'), .int .i64 retry], .agg #[.slice A t.cols.length c, .slice B t.rows.length d]] w _
  rw [hno, show cols.length = 1 by rw [hcols]; rfl]
  have hOP : op = op ∨ True := .inr trivial
  have t1 : (op == [43]) = false := by rw [beq_eq_false_iff_ne]; exact hp
  have t2 : (op == [45]) = false := by rw [beq_eq_false_iff_ne]; exact hm
  have HSN : Hid (∀ x y, setN op x y = x * y) := Lib.hid (fun x y => by unfold setN; rw [if_neg hp, if_neg hm])
  clear hp hm
  obtain ⟨b4, o4, hAc, _, hb4, hcs4⟩ := hcR.open' (by omega) (by decide)
  have d4 : w.cell? ⟨b4, o4, none⟩ = some (.string (bs nm)) := hcs4 0 _ rfl
  subst hAc
  have HK0 : Hid (Keeps [] w ((w.alloc (.cells #[.int .i64 at_, .int .i64 code, .slice Ao no co, .slice Ai ni ci, .slice (some ⟨b4, o4, none⟩) 1 cc, .string (bs op), .string (bs lc), .int .i64 lk, .int .i64 ln, .string (bs lw), .string (bs rc), .int .i64 rk, .int .i64 rn, .string (bs rw'), .int .i64 retry] 36)).alloc (.cells #[.slice A t.cols.length c, .slice B t.rows.length d] 25))) := Lib.hid (((Keeps.refl _ _).alloc _).alloc _)
  have HBX := Lib.hid (Blk.alloc (Blk.new w 36 #[.int .i64 at_, .int .i64 code, .slice Ao no co, .slice Ai ni ci, .slice (some ⟨b4, o4, none⟩) 1 cc, .string (bs op), .string (bs lc), .int .i64 lk, .int .i64 ln, .string (bs lw), .string (bs rc), .int .i64 rk, .int .i64 rn, .string (bs rw'), .int .i64 retry]) (.cells #[.slice A t.cols.length c, .slice B t.rows.length d] 25))
  have HBT := Lib.hid (Blk.new (w.alloc (.cells #[.int .i64 at_, .int .i64 code, .slice Ao no co, .slice Ai ni ci, .slice (some ⟨b4, o4, none⟩) 1 cc, .string (bs op), .string (bs lc), .int .i64 lk, .int .i64 ln, .string (bs lw), .string (bs rc), .int .i64 rk, .int .i64 rn, .string (bs rw'), .int .i64 retry] 36)) 25 #[.slice A t.cols.length c, .slice B t.rows.length d])
  rw [size_alloc] at HBT
  have HD4 := Lib.hid (HK0.out.cell_of d4 (by simp))
  clear hcR hcs4 d4 hcols hno hOP
  go_enter Tryz.func71, Tryz.ntmps71
  go_wp2
  obtain ⟨w2, hw2⟩ : ∃ w2, ((w.alloc (.cells #[.int .i64 at_, .int .i64 code, .slice Ao no co, .slice Ai ni ci, .slice (some ⟨b4, o4, none⟩) 1 cc, .string (bs op), .string (bs lc), .int .i64 lk, .int .i64 ln, .string (bs lw), .string (bs rc), .int .i64 rk, .int .i64 rn, .string (bs rw'), .int .i64 retry] 36)).alloc (.cells #[.slice A t.cols.length c, .slice B t.rows.length d] 25)) = w2 := ⟨_, rfl⟩
  rw [hw2] at HK0 HBX HBT HD4 ⊢
  obtain ⟨bx, hbx⟩ : ∃ bx, w.heap.size = bx := ⟨_, rfl⟩
  rw [hbx] at HBX HBT ⊢
  clear hw2 hbx
  have HF2 : Hid (∀ W, Keeps [] w2 W → Calls Tryz.prog 72 #[.slice A t.cols.length c, .string (bs nm)] W fun e w' => e = .returned (.int .i64 (k : Int)) ∧ Keeps [] W w') := Lib.hid (fun W q => HF.out W (HK0.out.trans q))
  have y4 : w2.cell? ⟨bx, 4, none⟩ = some (.slice (some ⟨b4, o4, none⟩) 1 cc) := HBX.out.cell 4
  have y0 : w2.cell? ⟨bx + 1, 0, none⟩ = some (.slice A t.cols.length c) := HBT.out.cell 0
  have y8 := HD4.out
  have l1 : bx < w2.heap.size := HBX.out.lt
  have l2 : bx + 1 < w2.heap.size := HBT.out.lt
  have l3 : b4 < w2.heap.size := World.block_lt_of_cell? _ _ y8
  refine wp_region_keeps (by kernel_rfl) (by kernel_rfl) ?_
  repeat (go_big_quiet_step (first | with_reducible exact KW.of HF2.out _))
  refine wpQuiet_nil ?_
  intro w3 hk3
  have HK3 := Lib.hid hk3
  have HKB := Lib.hid (HK0.out.trans hk3)
  have HBX3 := Lib.hid (HBX.out.keep hk3 (by simp))
  have HBT3 := Lib.hid (HBT.out.keep hk3 (by simp))
  clear hk3 y4 y0 y8 l1 l2 l3 HF2 HF HBX HBT HD4
  have y1 : w3.cell? ⟨bx + 1, 1, none⟩ = some (.slice B t.rows.length d) := HBT3.out.cell 1
  go_wp2
  clear y1
  go_loopw [7, 23] (fun u i wx => ∃ (m : Nat) (v : Value) (out : List (List Vl)), v = u ∧ m ≤ t.rows.length ∧ i = .int .i64 m ∧ out.length = m ∧ Hid (Rws wx w3.heap.size v out) ∧ Hid (CG (t.rows.drop m) out = CG t.rows []) ∧ Keeps [] w3 wx) (fun _ i _ => t.rows.length - (intOf i).toNat)
  case atStart => exact ⟨0, _, [], rfl, Nat.zero_le _, rfl, rfl, Rws.nil _ _, Lib.hid rfl, Keeps.refl _ _⟩
  case round =>
    obtain ⟨m, v, out, rfl, hm, rfl, hol, HG, HCG, hk⟩ := hrel
    have HOL := Lib.hid hol
    have HK := Lib.hid hk
    have HKW := Lib.hid (HKB.out.trans hk)
    clear hk hol
    by_cases hlt : m < t.rows.length
    · obtain ⟨us, hul, hur, hui⟩ := HT.out.rows
      have hux : m < us.length := by omega
      have hrw := hui m hux hlt
      obtain ⟨b7, o7, hBe, _, hb7, hcs⟩ := hur.open' (by omega) (by omega)
      have d7 := hcs (m * 1) us[m] (by rw [Nat.mul_one]; exact List.getElem?_eq_getElem hux)
      rw [Nat.mul_one] at d7
      have hmem : t.rows[m] ∈ t.rows := List.getElem_mem hlt
      have hst := HAT.out m hlt out
      rw [HCG.out, HRW.out] at hst
      have hrr := HRL.out _ hmem
      obtain ⟨r, hr⟩ : ∃ r, t.rows[m] = r := ⟨_, rfl⟩
      rw [hr] at hrw hmem hrr hst
      obtain ⟨Ar, cr, hu, hcr, hrd⟩ := hrw
      rw [hu] at d7
      have d8 := HKW.out.cell_of d7 (by simp)
      subst hBe
      have HRD := Lib.hid hrd
      have HAA0 : Hid (∀ W, Keeps [] wr W → Calls Tryz.prog 70 #[.agg #[.string (bs lc), .int .i64 lk, .int .i64 ln, .string (bs lw)], .slice A t.cols.length c, .slice Ar r.length cr] W fun e w' => e = .returned (vAgg (argV ⟨lc, ⟨lk, ln, lw⟩⟩ t.cols r)) ∧ Keeps [] W w') := Lib.hid fun W q => arg_any ⟨lc, ⟨lk, ln, lw⟩⟩ t.cols r A Ar c cr W (HT.out.cols.keep (HKW.out.trans q)) HT.out.ln (hrd.keep (HKW.out.trans q)) (HAL.out r hmem)
      have HAB0 : Hid (∀ W, Keeps [] wr W → Calls Tryz.prog 70 #[.agg #[.string (bs rc), .int .i64 rk, .int .i64 rn, .string (bs rw')], .slice A t.cols.length c, .slice Ar r.length cr] W fun e w' => e = .returned (vAgg (argV ⟨rc, ⟨rk, rn, rw'⟩⟩ t.cols r)) ∧ Keeps [] W w') := Lib.hid fun W q => arg_any ⟨rc, ⟨rk, rn, rw'⟩⟩ t.cols r A Ar c cr W (HT.out.cols.keep (HKW.out.trans q)) HT.out.ln (hrd.keep (HKW.out.trans q)) (HAR.out r hmem)
      have hb1 := HXL.out r hmem
      have hb2 := HXR.out r hmem
      try simp only at hb1
      try simp only at hb2
      try simp only at hst
      obtain ⟨X, hX⟩ : ∃ X, argV ⟨lc, ⟨lk, ln, lw⟩⟩ t.cols r = X := ⟨_, rfl⟩
      obtain ⟨Y, hY⟩ : ∃ Y, argV ⟨rc, ⟨rk, rn, rw'⟩⟩ t.cols r = Y := ⟨_, rfl⟩
      rw [hX] at HAA0 hb1 hst
      rw [hY] at HAB0 hb2 hst
      obtain ⟨xk, xn, xw⟩ := X
      obtain ⟨yk, yn, yw⟩ := Y
      have HAA : Hid (∀ W, Keeps [] wr W → Calls Tryz.prog 70 #[.agg #[.string (bs lc), .int .i64 lk, .int .i64 ln, .string (bs lw)], .slice A t.cols.length c, .slice Ar r.length cr] W fun e w' => e = .returned (.agg #[.int .i64 xk, .int .i64 xn, .string (bs xw)]) ∧ Keeps [] W w') := HAA0
      have HAB : Hid (∀ W, Keeps [] wr W → Calls Tryz.prog 70 #[.agg #[.string (bs rc), .int .i64 rk, .int .i64 rn, .string (bs rw')], .slice A t.cols.length c, .slice Ar r.length cr] W fun e w' => e = .returned (.agg #[.int .i64 yk, .int .i64 yn, .string (bs yw)]) ∧ Keeps [] W w') := HAB0
      obtain ⟨hb1a, hb1b⟩ := hb1
      obtain ⟨hb2a, hb2b⟩ := hb2
      try simp only at hb1a hb1b hb2a hb2b
      try simp only at hst
      have HST := Lib.hid hst
      have hrk : k < r.length := by rw [hrr]; exact hkl
      have hr1 : 1 ≤ r.length := by omega
      have hr2 : r.length ≤ 4294967296 := by rw [hrr]; exact hln
      have hpm : -1000000000000000000 ≤ xn * yn ∧ xn * yn ≤ 1000000000000000000 := mul_bd hb1a hb1b hb2a hb2b
      have hp1 := hpm.1
      have hp2 := hpm.2
      have z3 := (HBX3.out.keep HK.out (by simp)).cell 6
      obtain ⟨y0, y1, y2, y3, y4, y5, y6, y7, y8, y9, y10, y11, y12, y13, y14⟩ := box15 (HBX3.out.keep HK.out (by simp))
      have x0 : wr.cell? ⟨bx + 1, 0, none⟩ = some (.slice A t.cols.length c) := (HBT3.out.keep HK.out (by simp)).cell 0
      have l1 : bx < wr.heap.size := (HBX3.out.keep HK.out (by simp)).lt
      have l2 : bx + 1 < wr.heap.size := (HBT3.out.keep HK.out (by simp)).lt
      clear hst hX hY hu hul hur hui hcs d7 hrd hpm hmem HAA0 HAB0 z3 hrr hr hcr
      have hfx : ∀ W, (Instr.field 32 (.agg #[.int .i64 xk, .int .i64 xn, .string (bs xw)]) 1).run Tryz.prog W = .ok (.int .i64 xn) W := fun W => by rfl
      have hfy : ∀ W, (Instr.field 32 (.agg #[.int .i64 yk, .int .i64 yn, .string (bs yw)]) 1).run Tryz.prog W = .ok (.int .i64 yn) W := fun W => by rfl
      go_wp2
      refine wp_region_keeps (by kernel_rfl) (by kernel_rfl) ?_
      repeat (go_big_quiet_step (first | with_reducible exact KW.of HAA.out _ | with_reducible exact KW.of HAB.out _))
      refine wpQuiet_nil ?_
      intro w5 hk5
      have HK5 := Lib.hid hk5
      clear y0 y1 y2 y3 y4 y6 y7 y8 y9 y10 y11 y12 y13 y14 x0 l1 l2 d8
      replace y5 := hk5.cell_of y5 (by simp)
      clear hk5
      obtain ⟨N, hN⟩ : ∃ N, xn * yn = N := ⟨_, rfl⟩
      have HN := Lib.hid hN
      have HSX : Hid (setN op xn yn = N) := Lib.hid ((HSN.out xn yn).trans hN)
      rw [HSX.out] at HST
      by_cases hbig : 1000000000 < N
      · have HFF : Hid (CG t.rows [] = none) := Lib.hid (by rw [HST.out, if_pos (.inl hbig)])
        rw [hN.symm] at hbig
        clear hN
        go_wp2
        go_ret2
        exact ⟨by rw [HFF.out]; rfl, HKW.out.trans HK5.out⟩
      · by_cases hsm : N < -1000000000
        · have HFF : Hid (CG t.rows [] = none) := Lib.hid (by rw [HST.out, if_pos (.inr hsm)])
          rw [hN.symm] at hbig hsm
          clear hN
          go_wp2
          go_ret2
          exact ⟨by rw [HFF.out]; rfl, HKW.out.trans HK5.out⟩
        · have hgd : r.getD k zV = r[k] := by rw [List.getD_eq_getElem?_getD, List.getElem?_eq_getElem hrk]; rfl
          have HFF : Hid (CG t.rows [] = CG (t.rows.drop (m + 1)) (out ++ [r.set k ⟨r[k].kind, N, r[k].word⟩])) := Lib.hid (by
            rw [HST.out, if_neg (by rintro (h | h); exact hbig h; exact hsm h), hgd])
          have HCL := Lib.hid (clone_any r hr1 hr2 Ar cr w5 (HRD.out.keep (HKW.out.trans HK5.out)))
          have HVS := Lib.hid (vs_set r k hrk N)
          obtain ⟨vx0, vx1, vx2⟩ := vsCells_at r k hrk
          have HV1 := Lib.hid vx1
          rw [hN.symm] at hbig hsm
          clear hN hgd vx0 vx1 vx2
          go_wp2_with fail
          refine HCL.out.mono ?_
          rintro e w6 ⟨⟨v6, rfl, hown6⟩, hk6⟩
          obtain ⟨g, cap6, rfl, hcp6, hb6, hg6, hcell6⟩ := own_some hown6 hr1
          have HO6 := Lib.hid hown6
          have HK6 := Lib.hid hk6
          have c1 := hcell6 _ _ HV1.out
          have f1 := own_cellF hown6 (k * 3 + 1)
          have HGB := Lib.hid hb6
          have hi3 : (0 : Int) ≤ (k : Int) := by omega
          have hi4 : (k : Int) < (r.length : Int) := by omega
          have HK7 := Lib.hid (((HK5.out.trans hk6)).setCell (p := ⟨g, k * 3 + 1, none⟩) (.inr (Nat.le_trans HK5.out.size hb6)) (.int .i64 N))
          have HO7 := Lib.hid (own_store (j := k * 3 + 1) (u := .int .i64 N) hown6)
          rw [← HVS.out] at HO7
          have HG7 := Lib.hid (HG.out.keep HK7.out)
          obtain ⟨hs, hsl, hso, hsi⟩ := HG7.out
          have HSO := Lib.hid hso
          rw [HOL.out] at hso
          have HO := Lib.hid hso
          have HSI := Lib.hid hsi
          have HSL := Lib.hid hsl
          have HQ : Hid ((w6.setCell ⟨g, k * 3 + 1, none⟩ (.int .i64 N)).ownsRow w3.heap.size 32 3 (.slice (some ⟨g, 0, none⟩) r.length cap6) (r.set k ⟨r[k].kind, N, r[k].word⟩).length (vsCells (r.set k ⟨r[k].kind, N, r[k].word⟩))) := Lib.hid (by
            rw [List.length_set]
            exact own_base HO7.out (Nat.le_trans HK.out.size HK5.out.size))
          have hz3 : w3.heap.size ≤ w6.heap.size := Nat.le_trans (Nat.le_trans HK.out.size HK5.out.size) hk6.size
          have hbd := Lib.hid (show m + 1 ≤ maxLen ∧ (m + 1) * 24 ≤ 140737488355328 by simp only [maxLen]; omega)
          clear hown6 hk6 hb6 hcell6 hso hsi hsl hcp6
          have hN2 := HN.out
          clear HN
          subst hN2
          go_wp2_with (at_builtin; (refine wpList_append_lies _ rfl _ _ 23 rfl w3.heap.size 41 ir _ 1 24 Tryz.underlying23 hir hrz0 hrz1 hrz2 rfl (by decide) _ m hs rfl (HO.out.alloc _) ⟨w6.heap.size, 0, none⟩ 1 1 [.slice (some ⟨g, 0, none⟩) r.length cap6] rfl rfl (World.news_of_block (heap_set_new _ _ _ _)) (by simp [Value.oneCell']) (by decide) hbd.out.1 hbd.out.2 (by rw [size_alloc, size_set0]; omega) _ rfl ?_); intro gw cap2 w9 hown9 hgrow9 hat9 hlt9)
          have HK9 := Lib.hid (((HK.out.trans HK7.out).alloc (.cells #[.slice (some ⟨g, 0, none⟩) r.length cap6] 41)).grown hgrow9 (fun g' hg => .inr (HO.out.lt g' hg).1))
          have HGN : Hid (Rws w9 w3.heap.size (.slice (some ⟨gw, 0, none⟩) (m + 1) cap2) (out ++ [r.set k ⟨r[k].kind, xn * yn, r[k].word⟩])) := Lib.hid (by
            have h := rws_snoc (W' := w9) (base := w3.heap.size) (gw := gw) (cap := cap2) HSL.out HSI.out HSO.out HQ.out hgrow9 (by rw [HOL.out]; exact hown9)
            rw [HOL.out] at h
            exact h)
          have HCN := Lib.hid (HFF.out.symm)
          clear hown9 hgrow9 hat9 hlt9
          go_wp2
          go_roundw
          case rel => exact ⟨m + 1, _, _, rfl, by omega, by go_num, by rw [List.length_append, HOL.out]; rfl, HGN, HCN, HK9.out⟩
          case measure => simp [intOf]; omega
    · obtain rfl : m = t.rows.length := by omega
      have hcg := HCG.out
      rw [List.drop_length] at hcg
      have HCE : Hid (CG t.rows [] = some out) := Lib.hid (hcg.symm.trans (HNL.out out))
      obtain ⟨B6, d6, hv, hd6, hrd⟩ := HG.out.rd
      subst hv
      have HRI : Hid (RowsIs wr (.slice B6 out.length d6) out) := Lib.hid ⟨B6, d6, rfl, hd6, hrd⟩
      clear hcg hd6 hrd HG
      go_wp2
      go_ret2
      exact ⟨by rw [HCE.out]; exact ⟨_, rfl, tabs_one HRI.out _⟩, HKW.out.alloc _⟩
end Go.Proofs.YtomgnjgaafnkiaaGreatDoor
