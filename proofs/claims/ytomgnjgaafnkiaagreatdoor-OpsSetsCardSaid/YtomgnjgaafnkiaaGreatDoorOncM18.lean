/- ops.made: Set. ops.made: Project. Jobs as plain data: what one makes of a table, code by code; it may be. No program in sight. -/
import Derived.Test.YtomgnjgaafnkiaaGreatDoorOncM17
import Derived.Test.YtomgnjgaafnkiaaGreatDoorOncM14
namespace Go.Proofs.YtomgnjgaafnkiaaGreatDoor
open Go.RowKit Go.BigFrame
attribute [local go_sem] bs_size bs_extract bs_append bs_toList
def optE (R : Option (List (List Vl))) : Except Int (List (List (List Vl))) := match R with
  | none => .error 2
  | some l => .ok [l]
theorem changed_any (j : Jb) (t : Tb) (k : Nat) (nm : Bs) (A B : Option Addr) (c d : Nat) (Ao : Option Addr) (co : Nat) (Ai : Option Addr) (ni ci : Nat) (Ac : Option Addr) (cc : Nat) (w : World) (hT : TabIn w t A B c d) (hcols : j.cols = [nm]) (hk : colIx t.cols nm = some k) (hcR : Rd w [] 1 Ac 1 (strs [nm]))
    (hrl : ∀ r ∈ t.rows, r.length = t.cols.length) (hal : ∀ r ∈ t.rows, argOk j.left t.cols r) (har : ∀ r ∈ t.rows, argOk j.right t.cols r)
    (hxl : ∀ r ∈ t.rows, -1000000000 ≤ (argV j.left t.cols r).num ∧ (argV j.left t.cols r).num ≤ 1000000000) (hxr : ∀ r ∈ t.rows, -1000000000 ≤ (argV j.right t.cols r).num ∧ (argV j.right t.cols r).num ≤ 1000000000) :
    Calls Tryz.prog 71 #[jAgg j Ao co Ai ni ci Ac cc, .agg #[.slice A t.cols.length c, .slice B t.rows.length d]] w fun e w' => ChgOut (changeGo j t t.rows []) e w' ∧ Keeps [] w w' := by
  by_cases h1 : j.op = [43]
  · exact changed_add j t k nm A B c d Ao co Ai ni ci Ac cc w hT hcols hk hcR hrl hal har hxl hxr h1
  · by_cases h2 : j.op = [45]
    · exact changed_sub j t k nm A B c d Ao co Ai ni ci Ac cc w hT hcols hk hcR hrl hal har hxl hxr h2
    · exact changed_mul j t k nm A B c d Ao co Ai ni ci Ac cc w hT hcols hk hcR hrl hal har hxl hxr h1 h2
set_option maxHeartbeats 4000000 in
set_option maxRecDepth 40000 in
theorem made_2 (t : Tb) (OA : Option Addr) (no od : Nat) (b o : Nat) (nt ct : Nat) (A B : Option Addr) (c d : Nat) (hnt : 1 ≤ nt) (at_ retry lk ln rk rn : Int) (outs cols : List Bs) (op lc lw rc rw' : Bs) (Ao : Option Addr) (co : Nat) (Ai : Option Addr) (ni ci : Nat) (Ac : Option Addr) (cc : Nat) (w : World)
    (hd0 : w.cell? ⟨b, o, none⟩ = some (.slice A t.cols.length c)) (hd1 : w.cell? ⟨b, o + 1, none⟩ = some (.slice B t.rows.length d)) (hT : TabIn w t A B c d) (R : Option (List (List Vl)))
    (hch : ∀ W, Keeps [] w W → Calls Tryz.prog 71 #[.agg #[.int .i64 at_, .int .i64 2, .slice Ao outs.length co, .slice Ai ni ci, .slice Ac cols.length cc, .string (bs op), .string (bs lc), .int .i64 lk, .int .i64 ln, .string (bs lw), .string (bs rc), .int .i64 rk, .int .i64 rn, .string (bs rw'), .int .i64 retry], .agg #[.slice A t.cols.length c, .slice B t.rows.length d]] W fun e w' => ChgOut R e w' ∧ Keeps [] W w') :
    Calls Tryz.prog 44 #[.agg #[.int .i64 at_, .int .i64 2, .slice Ao outs.length co, .slice Ai ni ci, .slice Ac cols.length cc, .string (bs op), .string (bs lc), .int .i64 lk, .int .i64 ln, .string (bs lw), .string (bs rc), .int .i64 rk, .int .i64 rn, .string (bs rw'), .int .i64 retry], .slice (some ⟨b, o, none⟩) nt ct, .slice OA no od] w fun e w' => MadeOut (optE R) e w' ∧ Keeps [] w w' := by
  have hi1 : (0 : Int) < (nt : Int) := by omega
  have HT := Lib.hid hT
  have hz0 : b < w.heap.size := World.block_lt_of_cell? _ _ hd0
  have HK0 : Hid (Keeps [] w ((w.alloc (.cells #[.int .i64 at_, .int .i64 2, .slice Ao outs.length co, .slice Ai ni ci, .slice Ac cols.length cc, .string (bs op), .string (bs lc), .int .i64 lk, .int .i64 ln, .string (bs lw), .string (bs rc), .int .i64 rk, .int .i64 rn, .string (bs rw'), .int .i64 retry] 36)).alloc (.cells #[.slice A t.cols.length c, .slice B t.rows.length d] 25))) := Lib.hid (((Keeps.refl _ _).alloc _).alloc _)
  have HBX := Lib.hid (Blk.alloc (Blk.new w 36 #[.int .i64 at_, .int .i64 2, .slice Ao outs.length co, .slice Ai ni ci, .slice Ac cols.length cc, .string (bs op), .string (bs lc), .int .i64 lk, .int .i64 ln, .string (bs lw), .string (bs rc), .int .i64 rk, .int .i64 rn, .string (bs rw'), .int .i64 retry]) (.cells #[.slice A t.cols.length c, .slice B t.rows.length d] 25))
  have HBT := Lib.hid (Blk.new (w.alloc (.cells #[.int .i64 at_, .int .i64 2, .slice Ao outs.length co, .slice Ai ni ci, .slice Ac cols.length cc, .string (bs op), .string (bs lc), .int .i64 lk, .int .i64 ln, .string (bs lw), .string (bs rc), .int .i64 rk, .int .i64 rn, .string (bs rw'), .int .i64 retry] 36)) 25 #[.slice A t.cols.length c, .slice B t.rows.length d])
  rw [size_alloc] at HBT
  have HCH := Lib.hid hch
  clear hch hT
  cases R with
  | none =>
    have HC : Hid (∀ W, Keeps [] w W → Calls Tryz.prog 71 #[.agg #[.int .i64 at_, .int .i64 2, .slice Ao outs.length co, .slice Ai ni ci, .slice Ac cols.length cc, .string (bs op), .string (bs lc), .int .i64 lk, .int .i64 ln, .string (bs lw), .string (bs rc), .int .i64 rk, .int .i64 rn, .string (bs rw'), .int .i64 retry], .agg #[.slice A t.cols.length c, .slice B t.rows.length d]] W fun e w' => e = .returned (.tuple #[.slice none 0 0, .iface 74 (.int .i64 2)]) ∧ Keeps [] W w') := HCH
    clear HCH
    go_enter Tryz.func44, Tryz.ntmps44
    go_wp2_with fail
    refine (HC.out _ HK0.out).mono ?_
    rintro e w5 ⟨rfl, hk5⟩
    go_wp2
    go_ret2
    exact ⟨rfl, HK0.out.trans hk5⟩
  | some l =>
    have HC : Hid (∀ W, Keeps [] w W → Calls Tryz.prog 71 #[.agg #[.int .i64 at_, .int .i64 2, .slice Ao outs.length co, .slice Ai ni ci, .slice Ac cols.length cc, .string (bs op), .string (bs lc), .int .i64 lk, .int .i64 ln, .string (bs lw), .string (bs rc), .int .i64 rk, .int .i64 rn, .string (bs rw'), .int .i64 retry], .agg #[.slice A t.cols.length c, .slice B t.rows.length d]] W fun e w' => (∃ g, e = .returned (.tuple #[.slice (some ⟨g, 0, none⟩) 1 1, .nilIface]) ∧ RdTabs w' (some ⟨g, 0, none⟩) [l]) ∧ Keeps [] W w') := HCH
    clear HCH
    go_enter Tryz.func44, Tryz.ntmps44
    go_wp2_with fail
    refine (HC.out _ HK0.out).mono ?_
    rintro e w5 ⟨⟨g, rfl, hr⟩, hk5⟩
    go_wp2
    go_ret2
    exact ⟨⟨_, 1, rfl, Nat.le_refl _, hr⟩, HK0.out.trans hk5⟩
end Go.Proofs.YtomgnjgaafnkiaaGreatDoor
namespace Go.Proofs.YtomgnjgaafnkiaaGreatDoor
open Go.RowKit Go.BigFrame
attribute [local go_sem] bs_size bs_extract bs_append bs_toList
attribute [local go_sem] KW.cell
def pickV (cs : List Cl) (r : List Vl) (n : Bs) : Vl := match colIx cs n with
  | none => zV
  | some k => r.getD k zV
theorem pickRow_is (j : Jb) (t : Tb) (r : List Vl) : pickRow j t r = j.cols.map (pickV t.cols r) := rfl
theorem map_take_succ {α β : Type} (f : α → β) (l : List α) (m : Nat) (h : m < l.length) : (l.map f).take (m + 1) = (l.map f).take m ++ [f l[m]] := by
  rw [List.take_succ_eq_append_getElem (by simpa using h), List.getElem_map]
set_option maxHeartbeats 4000000 in
set_option maxRecDepth 40000 in
theorem made_3 (t : Tb) (OA : Option Addr) (no od : Nat) (b o : Nat) (nt ct : Nat) (A B : Option Addr) (c d : Nat) (hnt : 1 ≤ nt) (at_ retry lk ln rk rn : Int) (outs cols : List Bs) (op lc lw rc rw' : Bs) (Ao : Option Addr) (co : Nat) (Ai : Option Addr) (ni ci : Nat) (Ac : Option Addr) (cc : Nat) (w : World)
    (hd0 : w.cell? ⟨b, o, none⟩ = some (.slice A t.cols.length c)) (hd1 : w.cell? ⟨b, o + 1, none⟩ = some (.slice B t.rows.length d)) (hT : TabIn w t A B c d) (hrl : ∀ r ∈ t.rows, r.length = t.cols.length) (hpk : ∀ n ∈ cols, ∃ k, colIx t.cols n = some k) (hcols : Rd w [] 1 Ac cols.length (strs cols)) (hcl : cols.length ≤ 100) :
    Calls Tryz.prog 44 #[.agg #[.int .i64 at_, .int .i64 3, .slice Ao outs.length co, .slice Ai ni ci, .slice Ac cols.length cc, .string (bs op), .string (bs lc), .int .i64 lk, .int .i64 ln, .string (bs lw), .string (bs rc), .int .i64 rk, .int .i64 rn, .string (bs rw'), .int .i64 retry], .slice (some ⟨b, o, none⟩) nt ct, .slice OA no od] w fun e w' => MadeOut (.ok [t.rows.map fun r => cols.map (pickV t.cols r)]) e w' ∧ Keeps [] w w' := by
  obtain ⟨ir, hir, hrz0, hrz1, hrz2⟩ := info_parts rinfo
  obtain ⟨iv, hiv, hvz0, hvz1, hvz2⟩ := info_parts vinfo
  have hi1 : (0 : Int) < (nt : Int) := by omega
  have HT := Lib.hid hT
  have hz0 : b < w.heap.size := World.block_lt_of_cell? _ _ hd0
  have HK0 : Hid (Keeps [] w ((w.alloc (.cells #[.int .i64 at_, .int .i64 3, .slice Ao outs.length co, .slice Ai ni ci, .slice Ac cols.length cc, .string (bs op), .string (bs lc), .int .i64 lk, .int .i64 ln, .string (bs lw), .string (bs rc), .int .i64 rk, .int .i64 rn, .string (bs rw'), .int .i64 retry] 36)).alloc (.cells #[.slice A t.cols.length c, .slice B t.rows.length d] 25))) := Lib.hid (((Keeps.refl _ _).alloc _).alloc _)
  have HBX := Lib.hid (Blk.alloc (Blk.new w 36 #[.int .i64 at_, .int .i64 3, .slice Ao outs.length co, .slice Ai ni ci, .slice Ac cols.length cc, .string (bs op), .string (bs lc), .int .i64 lk, .int .i64 ln, .string (bs lw), .string (bs rc), .int .i64 rk, .int .i64 rn, .string (bs rw'), .int .i64 retry]) (.cells #[.slice A t.cols.length c, .slice B t.rows.length d] 25))
  have HBT := Lib.hid (Blk.new (w.alloc (.cells #[.int .i64 at_, .int .i64 3, .slice Ao outs.length co, .slice Ai ni ci, .slice Ac cols.length cc, .string (bs op), .string (bs lc), .int .i64 lk, .int .i64 ln, .string (bs lw), .string (bs rc), .int .i64 rk, .int .i64 rn, .string (bs rw'), .int .i64 retry] 36)) 25 #[.slice A t.cols.length c, .slice B t.rows.length d])
  rw [size_alloc] at HBT
  have hlm := hT.lm
  have HRL := Lib.hid hrl
  have HPK := Lib.hid hpk
  have HCO := Lib.hid hcols
  have HF0 := Lib.hid (fun (nm : Bs) W (q : Keeps [] w W) => find_any t.cols nm A c W (hT.cols.keep q) hT.ln)
  have hln := hT.ln
  obtain ⟨nC, hnC⟩ : ∃ n, cols.length = n := ⟨_, rfl⟩
  have HNC := Lib.hid hnC
  rw [hnC] at HK0 HBX HBT hcl ⊢
  clear hT hrl hpk hcols hnC
  go_enter Tryz.func44, Tryz.ntmps44
  go_wp2
  obtain ⟨w2, hw2⟩ : ∃ w2, ((w.alloc (.cells #[.int .i64 at_, .int .i64 3, .slice Ao outs.length co, .slice Ai ni ci, .slice Ac nC cc, .string (bs op), .string (bs lc), .int .i64 lk, .int .i64 ln, .string (bs lw), .string (bs rc), .int .i64 rk, .int .i64 rn, .string (bs rw'), .int .i64 retry] 36)).alloc (.cells #[.slice A t.cols.length c, .slice B t.rows.length d] 25)) = w2 := ⟨_, rfl⟩
  rw [hw2] at HK0 HBX HBT ⊢
  obtain ⟨bx, hbx⟩ : ∃ bx, w.heap.size = bx := ⟨_, rfl⟩
  rw [hbx] at HBX HBT ⊢
  clear hw2 hbx hd0 hd1
  go_loopw [13, 76] (fun u i wx => ∃ (m : Nat) (v : Value), v = u ∧ m ≤ t.rows.length ∧ i = .int .i64 m ∧ Hid (Rws wx w2.heap.size v ((t.rows.take m).map fun r => cols.map (pickV t.cols r))) ∧ Keeps [] w2 wx) (fun _ i _ => t.rows.length - (intOf i).toNat)
  case atStart => exact ⟨0, _, rfl, Nat.zero_le _, rfl, Rws.nil _ _, Keeps.refl _ _⟩
  case round =>
    obtain ⟨m, v, rfl, hm, rfl, HG, hk⟩ := hrel
    have HK := Lib.hid hk
    have HKW := Lib.hid (HK0.out.trans hk)
    clear hk
    by_cases hlt : m < t.rows.length
    · obtain ⟨us, hul, hur, hui⟩ := HT.out.rows
      have hux : m < us.length := by omega
      have hrw := hui m hux hlt
      obtain ⟨b7, o7, hBe, _, hb7, hcs⟩ := hur.open' (by omega) (by omega)
      have d7 := hcs (m * 1) us[m] (by rw [Nat.mul_one]; exact List.getElem?_eq_getElem hux)
      rw [Nat.mul_one] at d7
      have hmem : t.rows[m] ∈ t.rows := List.getElem_mem hlt
      have hsn : (t.rows.take (m + 1)).map (fun r => cols.map (pickV t.cols r)) = (t.rows.take m).map (fun r => cols.map (pickV t.cols r)) ++ [cols.map (pickV t.cols t.rows[m])] := by rw [List.take_succ_eq_append_getElem hlt, List.map_append]; rfl
      have hln2 : ((t.rows.take m).map (fun r => cols.map (pickV t.cols r))).length = m := by rw [List.length_map, List.length_take]; omega
      have HSN := Lib.hid hsn
      have HLN2 := Lib.hid hln2
      have hrr := HRL.out _ hmem
      generalize t.rows[m] = r at *
      obtain ⟨Ar, cr, hu, hcr, hrd⟩ := hrw
      rw [hu] at d7
      have HRD := Lib.hid hrd
      have HRR := Lib.hid hrr
      have d8 := HKW.out.cell_of d7 (by simp)
      subst hBe
      have y4 : wr.cell? ⟨bx, 4, none⟩ = some (.slice Ac nC cc) := HK.out.cell_of (HBX.out.cell 4) (by simp)
      have hlb : bx < wr.heap.size := World.block_lt_of_cell? _ _ y4
      clear hsn hu hul hur hui hcs d7 hrd hln2 hmem hrr
      go_wp2
      obtain ⟨w8, rfl⟩ : ∃ w8 : World, w8 = wr := ⟨_, rfl⟩
      go_loopw [16, 83] (fun u i wx => ∃ (m2 : Nat) (v2 : Value), v2 = u ∧ m2 ≤ nC ∧ i = .int .i64 m2 ∧ wx.ownsRow w8.heap.size 32 3 v2 m2 (vsCells ((cols.map (pickV t.cols r)).take m2)) ∧ Keeps [] w8 wx) (fun _ i _ => nC - (intOf i).toNat)
      case atStart => exact ⟨0, _, rfl, Nat.zero_le _, rfl, World.ownsRow_nil _ _ _ _, Keeps.refl _ _⟩
      case round =>
        obtain ⟨m2, v2, rfl, hm2, rfl, hown, hk2⟩ := hrel
        have HO2 := Lib.hid hown
        have HK2 := Lib.hid hk2
        have HKX := Lib.hid (HKW.out.trans hk2)
        clear hown hk2
        by_cases hlt2 : m2 < nC
        · have hlc : m2 < cols.length := by rw [HNC.out]; exact hlt2
          obtain ⟨b9, o9, hAc, _, hb9, hcs9⟩ := HCO.out.open' (by omega) (by omega)
          have e0 := HKX.out.cell_of (hcs9 m2 _ (strs_at' cols m2 hlc)) (by simp)
          obtain ⟨k, hk⟩ := HPK.out cols[m2] (List.getElem_mem hlc)
          have HFN := Lib.hid (HF0.out cols[m2])
          rw [hk] at HFN
          have hkl : k < r.length := by rw [HRR.out]; exact (List.findIdx?_eq_some_iff_getElem.1 hk).1
          have hgd : pickV t.cols r cols[m2] = r[k] := by
            unfold pickV
            rw [hk]
            simp only
            rw [List.getD_eq_getElem?_getD, List.getElem?_eq_getElem hkl]
            rfl
          have HTS : Hid (vsCells ((cols.map (pickV t.cols r)).take (m2 + 1)) = vsCells ((cols.map (pickV t.cols r)).take m2) ++ [.int .i64 r[k].kind, .int .i64 r[k].num, .string (bs r[k].word)]) := Lib.hid (by
            rw [map_take_succ _ _ _ hlc, hgd, vsCells_snoc])
          obtain ⟨b6, o6, hAr, _, hb6, hcs6⟩ := HRD.out.open' (by omega) (by omega)
          obtain ⟨x0, x1, x2⟩ := vsCells_at r k hkl
          have f0 := HKX.out.cell_of (hcs6 _ _ x0) (by simp)
          have f1 := HKX.out.cell_of (hcs6 _ _ x1) (by simp)
          have f2 := HKX.out.cell_of (hcs6 _ _ x2) (by simp)
          rw [← Nat.add_assoc] at f1 f2
          have HF012 := Lib.hid (show wr.cell? ⟨b6, o6 + k * 3, none⟩ = _ ∧ wr.cell? ⟨b6, o6 + k * 3 + 1, none⟩ = _ ∧ wr.cell? ⟨b6, o6 + k * 3 + 2, none⟩ = _ from ⟨f0, f1, f2⟩)
          have z0 : wr.cell? ⟨bx + 1, 0, none⟩ = some (.slice A t.cols.length c) := (HK.out.trans HK2.out).cell_of (HBT.out.cell 0) (by simp)
          have hi3 : (0 : Int) ≤ (k : Int) := by omega
          have hi4 : (k : Int) < (r.length : Int) := by omega
          subst hAc hAr
          clear x0 x1 x2 hcs6 hcs9 hgd f0 f1 f2 hk
          generalize cols[m2] = nm at *
          generalize r[k] = xv at *
          have hbd := Lib.hid (show m2 + 1 ≤ maxLen ∧ (m2 + 1) * 32 ≤ 140737488355328 by simp only [maxLen]; omega)
          go_wp2_with fail
          refine (HFN.out _ HKX.out).mono ?_
          rintro e w5 ⟨rfl, hk5⟩
          simp only [optI]
          have f0 := hk5.cell_of HF012.out.1 (by simp)
          have f1 := hk5.cell_of HF012.out.2.1 (by simp)
          have f2 := hk5.cell_of HF012.out.2.2 (by simp)
          have HO5 := Lib.hid (own_keep HO2.out hk5 (fun _ _ => by simp))
          have HK5 := Lib.hid (HK2.out.trans hk5)
          have hz5 := HK5.out.size
          clear hk5
          go_wp2_with (at_builtin; (refine wpList_append_lies _ rfl _ _ 41 rfl w8.heap.size 32 iv _ 3 32 Tryz.underlying41 hiv hvz0 hvz1 hvz2 rfl (by decide) _ m2 (vsCells ((cols.map (pickV t.cols r)).take m2)) rfl (HO5.out.alloc _) ⟨w5.heap.size, 0, none⟩ 1 1 [.int .i64 xv.kind, .int .i64 xv.num, .string (bs xv.word)] rfl rfl (World.news_of_block (heap_alloc_new _ _)) (by simp [Value.oneCell']) (by decide) hbd.out.1 hbd.out.2 (by rw [size_alloc]; omega) _ rfl ?_); intro gw cap2 w9 hown9 hgrow9 hat9 hlt9)
          have HK9 := Lib.hid ((HK5.out.alloc (.cells #[.int .i64 xv.kind, .int .i64 xv.num, .string (bs xv.word)] 32)).grown hgrow9 (fun g hg => .inr (HO5.out.lt g hg).1))
          rw [← HTS.out] at hown9
          have HO9 := Lib.hid hown9
          clear hown9 hgrow9 hat9 hlt9
          go_wp2
          go_roundw
          case rel => exact ⟨m2 + 1, _, rfl, by omega, by go_num, HO9.out, HK9.out⟩
          case measure => simp [intOf]; omega
        · obtain rfl : m2 = nC := by omega
          have ho := HO2.out
          rw [List.take_of_length_le (by rw [List.length_map, HNC.out]; exact Nat.le_refl _)] at ho
          obtain ⟨A6, c6, hv6, _, _⟩ := own_rd ho
          subst hv6
          have HO6 : Hid (wr.ownsRow w2.heap.size 32 3 (.slice A6 m2 c6) (cols.map (pickV t.cols r)).length (vsCells (cols.map (pickV t.cols r)))) := Lib.hid (by
            rw [List.length_map, HNC.out]
            exact own_base ho HK.out.size)
          have HG6 := Lib.hid (HG.out.keep HK2.out)
          obtain ⟨hs, hsl, hso, hsi⟩ := HG6.out
          have HSO := Lib.hid hso
          rw [HLN2.out] at hso
          have HO := Lib.hid hso
          have HSI := Lib.hid hsi
          have HSL := Lib.hid hsl
          have hz3 : w2.heap.size ≤ wr.heap.size := Nat.le_trans HK.out.size HK2.out.size
          have hbd := Lib.hid (show m + 1 ≤ maxLen ∧ (m + 1) * 24 ≤ 140737488355328 by simp only [maxLen]; omega)
          clear hso hsi hsl ho HO2 y4 d8 hlb
          go_wp2_with (at_builtin; (refine wpList_append_lies _ rfl _ _ 23 rfl w2.heap.size 41 ir _ 1 24 Tryz.underlying23 hir hrz0 hrz1 hrz2 rfl (by decide) _ m hs rfl (HO.out.alloc _) ⟨wr.heap.size, 0, none⟩ 1 1 [.slice A6 m2 c6] rfl rfl (World.news_of_block (heap_alloc_new _ _)) (by simp [Value.oneCell']) (by decide) hbd.out.1 hbd.out.2 (by rw [size_alloc]; omega) _ rfl ?_); intro gw cap2 w9 hown9 hgrow9 hat9 hlt9)
          have HK9 := Lib.hid (((HK.out.trans HK2.out).alloc (.cells #[.slice A6 m2 c6] 41)).grown hgrow9 (fun g hg => .inr (HO.out.lt g hg).1))
          have HGN : Hid (Rws w9 w2.heap.size (.slice (some ⟨gw, 0, none⟩) (m + 1) cap2) ((t.rows.take (m + 1)).map fun r => cols.map (pickV t.cols r))) := Lib.hid (by
            rw [HSN.out]
            have h := rws_snoc (W := wr) (W' := w9) (base := w2.heap.size) (gw := gw) (cap := cap2) HSL.out HSI.out HSO.out HO6.out hgrow9 (by rw [HLN2.out]; exact hown9)
            rw [HLN2.out] at h
            exact h)
          clear hown9 hgrow9 hat9 hlt9
          go_wp2
          go_roundw
          case rel => exact ⟨m + 1, _, rfl, by omega, by go_num, HGN, HK9.out⟩
          case measure => simp [intOf]; omega
    · obtain rfl : m = t.rows.length := by omega
      have hg := HG.out
      rw [List.take_length] at hg
      obtain ⟨B6, d6, hv, hd6, hrd⟩ := hg.rd
      subst hv
      have HRI : Hid (RowsIs wr (.slice B6 (t.rows.map fun r => cols.map (pickV t.cols r)).length d6) (t.rows.map fun r => cols.map (pickV t.cols r))) := Lib.hid ⟨B6, d6, rfl, hd6, hrd⟩
      have hll : (t.rows.map fun r => cols.map (pickV t.cols r)).length = t.rows.length := List.length_map ..
      rw [hll] at HRI
      clear hg hd6 hrd HG
      simp only [List.length_map]
      clear hll
      go_wp2
      go_ret2
      exact ⟨⟨_, 1, rfl, Nat.le_refl _, tabs_one HRI.out _⟩, HKW.out.alloc _⟩
end Go.Proofs.YtomgnjgaafnkiaaGreatDoor
namespace Go.Proofs.YtomgnjgaafnkiaaGreatDoor
/-! ### Columns and rows -/
theorem rowB_iff' {cs : List Cl} {r : List Vl} : rowB cs r = true ↔ r.length = cs.length ∧ ∀ i (h : i < r.length) (h' : i < cs.length), r[i].kind = cs[i].kind ∧ rvB r[i] = true := by
  unfold rowB
  simp only [Bool.and_eq_true, decide_eq_true_eq, List.all_eq_true]
  constructor
  · rintro ⟨h1, h2⟩
    refine ⟨h1, fun i h h' => ?_⟩
    have := h2 i (List.mem_range.2 h)
    unfold okAt at this
    rw [List.getElem?_eq_getElem h, List.getElem?_eq_getElem h'] at this
    simpa using this
  · rintro ⟨h1, h2⟩
    refine ⟨h1, fun i hi => ?_⟩
    have h := List.mem_range.1 hi
    unfold okAt
    rw [List.getElem?_eq_getElem h, List.getElem?_eq_getElem (by omega)]
    have := h2 i h (by omega)
    simpa using this
theorem colsB_iff {l : List Cl} : colsB l = true ↔ 1 ≤ l.length ∧ l.length ≤ 6 ∧ (∀ c ∈ l, nameB c.name = true ∧ (c.kind = 1 ∨ c.kind = 2)) ∧ (l.map (·.name)).Nodup := by
  unfold colsB
  simp only [Bool.and_eq_true, decide_eq_true_eq, List.all_eq_true]
  constructor
  · rintro ⟨⟨h1, h2⟩, h3⟩
    have key : ∀ i (h : i < l.length), (nameB l[i].name = true ∧ (l[i].kind = 1 ∨ l[i].kind = 2)) ∧ ∀ k (hk : k < i), l[k].name ≠ l[i].name := fun i h => by
      have := h3 i (List.mem_range.2 h)
      unfold okCol at this
      rw [List.getElem?_eq_getElem h] at this
      simp only [Bool.and_eq_true, Bool.or_eq_true, decide_eq_true_eq, Bool.not_eq_true', List.any_eq_false, beq_iff_eq] at this
      refine ⟨this.1, fun k hk => this.2 _ ?_⟩
      rw [List.mem_take_iff_getElem]
      exact ⟨k, by omega, rfl⟩
    refine ⟨h1, h2, fun c hc => ?_, ?_⟩
    · obtain ⟨i, hi, rfl⟩ := List.getElem_of_mem hc
      exact (key i hi).1
    · rw [List.nodup_iff_pairwise_ne, List.pairwise_iff_getElem]
      intro i k hi hk hlt
      simp only [List.getElem_map]
      exact (key k (by simpa using hk)).2 i hlt
  · rintro ⟨h1, h2, h3, h4⟩
    refine ⟨⟨h1, h2⟩, fun i hi => ?_⟩
    have h := List.mem_range.1 hi
    unfold okCol
    rw [List.getElem?_eq_getElem h]
    simp only [Bool.and_eq_true, Bool.or_eq_true, decide_eq_true_eq, Bool.not_eq_true', List.any_eq_false, beq_iff_eq]
    refine ⟨h3 _ (List.getElem_mem h), fun x hx => ?_⟩
    rw [List.mem_take_iff_getElem] at hx
    obtain ⟨k, hk, rfl⟩ := hx
    rw [List.nodup_iff_pairwise_ne, List.pairwise_iff_getElem] at h4
    have := h4 k i (by simp; omega) (by simpa using h) (by omega)
    simpa using this
theorem colIx_some {a : List Cl} {n : Bs} {k : Nat} : colIx a n = some k ↔ ∃ h : k < a.length, a[k].name = n ∧ ∀ j (hj : j < k), (a[j]'(by omega)).name ≠ n := by
  unfold colIx
  rw [List.findIdx?_eq_some_iff_getElem]
  constructor
  · rintro ⟨h, h1, h2⟩
    exact ⟨h, by simpa using h1, fun j hj => by simpa using h2 j hj⟩
  · rintro ⟨h, h1, h2⟩
    exact ⟨h, by simpa using h1, fun j hj => by simpa using h2 j hj⟩
/-- The column that is called so. -/
def colOf (a : List Cl) (n : Bs) : Cl := match colIx a n with
  | none => zC
  | some k => a.getD k zC
theorem colOf_some {a : List Cl} {n : Bs} {k : Nat} (h : colIx a n = some k) : ∃ hk : k < a.length, colOf a n = a[k] ∧ (colOf a n).name = n := by
  obtain ⟨hk, h1, _⟩ := colIx_some.1 h
  have e : colOf a n = a[k] := by
    unfold colOf
    rw [h]
    simp only
    rw [List.getD_eq_getElem?_getD, List.getElem?_eq_getElem hk]; rfl
  exact ⟨hk, e, by rw [e]; exact h1⟩
theorem colIx_self {a : List Cl} (h : (a.map (·.name)).Nodup) {k : Nat} (hk : k < a.length) : colIx a a[k].name = some k := by
  refine colIx_some.2 ⟨hk, rfl, fun j hj => ?_⟩
  rw [List.nodup_iff_pairwise_ne, List.pairwise_iff_getElem] at h
  have := h j k (by simp; omega) (by simpa using hk) hj
  simpa using this
theorem pickGo_ok {a : List Cl} : ∀ (ns seen : List Bs) (acc out : List Cl), pickGo a seen ns acc = .ok out ↔ (∀ n ∈ ns, ∃ k, colIx a n = some k) ∧ ns.Nodup ∧ (∀ n ∈ ns, n ∉ seen) ∧ out = acc ++ ns.map (colOf a)
  | [], seen, acc, out => by
    simp only [pickGo, Except.ok.injEq, List.not_mem_nil, false_imp_iff, implies_true, List.nodup_nil, List.map_nil, List.append_nil, true_and]
    exact ⟨fun h => h.symm, fun h => h.symm⟩
  | n :: ns, seen, acc, out => by
    unfold pickGo
    cases h : colIx a n with
    | none =>
      simp only
      constructor
      · intro h2; cases h2
      · rintro ⟨h2, _⟩
        obtain ⟨k, hk⟩ := h2 n (by simp)
        rw [h] at hk; cases hk
    | some k =>
      simp only
      have e : colOf a n = a.getD k zC := by unfold colOf; rw [h]
      by_cases hs : n ∈ seen
      · rw [if_pos hs]
        constructor
        · intro h2; cases h2
        · rintro ⟨_, _, h3, _⟩
          exact absurd hs (h3 n (by simp))
      · rw [if_neg hs, pickGo_ok ns (seen ++ [n]) (acc ++ [a.getD k zC]) out]
        simp only [List.mem_cons, List.nodup_cons, List.map_cons, List.mem_append, List.not_mem_nil, or_false, not_or, ← e]
        constructor
        · rintro ⟨h1, h2, h3, h4⟩
          refine ⟨fun x hx => ?_, ⟨fun hn => (h3 n hn).2 rfl, h2⟩, fun x hx => ?_, by rw [h4]; simp⟩
          · rcases hx with rfl | hx
            · exact ⟨k, h⟩
            · exact h1 x hx
          · rcases hx with rfl | hx
            · exact hs
            · exact (h3 x hx).1
        · rintro ⟨h1, ⟨h2, h3⟩, h4, h5⟩
          exact ⟨fun x hx => h1 x (.inr hx), h3, fun x hx => ⟨h4 x (.inr hx), fun hxn => h2 (hxn ▸ hx)⟩, by rw [h5]; simp⟩
/-! ### What one makes -/
theorem one_gen {j : Jb} {ins : List Tb} {u : Tb} (hc : j.code / 9 = 0) : oneJ j ins = some u ↔ (∀ t ∈ ins, rightB t = true) ∧ ∃ out rows, colsJ { j with outs := [[120]] } (ins.map (·.cols)) = .ok out ∧ madeJ { j with outs := [[120]] } ins out = .ok rows ∧ tabsJ out rows = .ok [u] := by
  rw [one_iff hc, do_ok]
theorem tabs_single {c : List Cl} {r : List (List Vl)} {u : Tb} : tabsJ [c] [r] = .ok [u] ↔ r.length ≤ 60 ∧ u = ⟨c, r⟩ := by
  rw [tabsJ_one]
  split
  · rename_i h
    constructor
    · intro h2; cases h2
    · rintro ⟨h2, _⟩; omega
  · rename_i h
    constructor
    · intro h2
      injection h2 with h2
      injection h2 with h2 _
      exact ⟨by omega, h2.symm⟩
    · rintro ⟨_, rfl⟩; rfl
def pickOk (j : Jb) (a : List Cl) : Prop := 1 ≤ j.cols.length ∧ j.cols.length ≤ 6 ∧ (∀ n ∈ j.cols, ∃ k, colIx a n = some k) ∧ j.cols.Nodup
theorem picked_ok {j : Jb} {a : List Cl} {out : List (List Cl)} : pickedJ j a = .ok out ↔ pickOk j a ∧ out = [if j.code = 4 then a else j.cols.map (colOf a)] := by
  unfold pickedJ pickOk
  split
  · rename_i h
    constructor
    · intro h2; cases h2
    · rintro ⟨⟨h2, h3, _⟩, _⟩; omega
  · rename_i h
    cases hp : pickGo a [] j.cols [] with
    | error e =>
      constructor
      · intro h2; cases h2
      · rintro ⟨⟨_, _, h3, h4⟩, _⟩
        have := (pickGo_ok j.cols [] [] (j.cols.map (colOf a))).2 ⟨h3, h4, by simp, by simp⟩
        rw [hp] at this; cases this
    | ok q =>
      obtain ⟨h3, h4, _, h5⟩ := (pickGo_ok j.cols [] [] q).1 hp
      have e : q = j.cols.map (colOf a) := by simpa using h5
      subst e
      constructor
      · intro h2
        injection h2 with h2
        exact ⟨⟨by omega, by omega, h3, h4⟩, h2.symm⟩
      · rintro ⟨_, h2⟩; rw [h2]
theorem one_proj {j : Jb} {t u : Tb} (hc : j.code = 3) : oneJ j [t] = some u ↔ rightB t = true ∧ pickOk j t.cols ∧ u = ⟨j.cols.map (colOf t.cols), t.rows.map (pickRow j t)⟩ := by
  rw [one_gen (by rw [hc]; rfl)]
  have e1 : colsJ { j with outs := [[120]] } ([t].map (·.cols)) = pickedJ { j with outs := [[120]] } t.cols := by
    unfold colsJ sizesN
    simp [hc]
  have e2 : ∀ out, madeJ { j with outs := [[120]] } [t] out = .ok [t.rows.map (pickRow j t)] := fun out => by
    unfold madeJ
    simp [hc]
    intro a _
    rfl
  rw [e1]
  simp only [e2, List.mem_singleton, forall_eq]
  constructor
  · rintro ⟨hr, out, rows, h1, h2, h3⟩
    injection h2 with h2
    subst h2
    obtain ⟨h4, h5⟩ := picked_ok.1 h1
    rw [if_neg (by simp only; omega)] at h5
    subst h5
    exact ⟨hr, h4, (tabs_single.1 h3).2⟩
  · rintro ⟨hr, h4, rfl⟩
    refine ⟨hr, _, _, picked_ok.2 ⟨h4, rfl⟩, rfl, ?_⟩
    rw [if_neg (by simp only; omega)]
    exact tabs_single.2 ⟨by rw [List.length_map]; exact right_rows hr, rfl⟩
theorem one_union {j : Jb} {t v u : Tb} (hc : j.code = 5) : oneJ j [t, v] = some u ↔ rightB t = true ∧ rightB v = true ∧ t.cols = v.cols ∧ t.rows.length + v.rows.length ≤ 60 ∧ u = ⟨t.cols, t.rows ++ v.rows⟩ := by
  rw [one_gen (by rw [hc]; rfl)]
  have e1 : colsJ { j with outs := [[120]] } ([t, v].map (·.cols)) = if t.cols ≠ v.cols then .error 13 else .ok [t.cols] := by
    unfold colsJ sizesN
    simp [hc]
  have e2 : ∀ out, madeJ { j with outs := [[120]] } [t, v] out = .ok [t.rows ++ v.rows] := fun out => by
    unfold madeJ
    simp [hc]
  rw [e1]
  simp only [e2, List.mem_cons, List.not_mem_nil, or_false, forall_eq_or_imp, forall_eq]
  constructor
  · rintro ⟨⟨hr, hv⟩, out, rows, h1, h2, h3⟩
    injection h2 with h2
    subst h2
    split at h1
    · cases h1
    · rename_i hne
      injection h1 with h1
      subst h1
      obtain ⟨h4, h5⟩ := tabs_single.1 h3
      rw [List.length_append] at h4
      exact ⟨hr, hv, Decidable.not_not.1 hne, h4, h5⟩
  · rintro ⟨hr, hv, he, hl, rfl⟩
    refine ⟨⟨hr, hv⟩, [t.cols], _, by rw [if_neg (fun h => h he)], rfl, tabs_single.2 ⟨by rw [List.length_append]; exact hl, rfl⟩⟩
theorem distinct_sub : ∀ (rs : List (List Vl)) (seen : List Bs) (out : List (List Vl)), (distinctGo rs seen out).length ≤ rs.length + out.length ∧ ∀ r ∈ distinctGo rs seen out, r ∈ rs ∨ r ∈ out
  | [], _, out => ⟨by simp [distinctGo], fun r h => .inr (by simpa [distinctGo] using h)⟩
  | x :: rs, seen, out => by
    unfold distinctGo
    split
    · obtain ⟨h1, h2⟩ := distinct_sub rs seen out
      exact ⟨by simp; omega, fun r hr => (h2 r hr).imp (fun h => by simp [h]) id⟩
    · obtain ⟨h1, h2⟩ := distinct_sub rs (rowText x :: seen) (out ++ [x])
      refine ⟨by simp at h1 ⊢; omega, fun r hr => ?_⟩
      rcases h2 r hr with h | h
      · exact .inl (by simp [h])
      · rw [List.mem_append, List.mem_singleton] at h
        rcases h with h | h
        · exact .inr h
        · exact .inl (by simp [h])
theorem one_dist {j : Jb} {t u : Tb} (hc : j.code = 6) : oneJ j [t] = some u ↔ rightB t = true ∧ u = ⟨t.cols, distinctGo t.rows [] []⟩ := by
  rw [one_gen (by rw [hc]; rfl)]
  have e1 : colsJ { j with outs := [[120]] } ([t].map (·.cols)) = .ok [t.cols] := by
    unfold colsJ sizesN
    simp [hc]
  have e2 : ∀ out, madeJ { j with outs := [[120]] } [t] out = .ok [distinctGo t.rows [] []] := fun out => by
    unfold madeJ
    simp [hc]
  rw [e1]
  simp only [e2, List.mem_singleton, forall_eq]
  constructor
  · rintro ⟨hr, out, rows, h1, h2, h3⟩
    injection h1 with h1
    injection h2 with h2
    subst h1 h2
    exact ⟨hr, (tabs_single.1 h3).2⟩
  · rintro ⟨hr, rfl⟩
    refine ⟨hr, _, _, rfl, rfl, tabs_single.2 ⟨?_, rfl⟩⟩
    have := (distinct_sub t.rows [] []).1
    have := right_rows hr
    simp at *
    omega
theorem dist_right {t : Tb} (h : rightB t = true) : rightB ⟨t.cols, distinctGo t.rows [] []⟩ = true :=
  right_sub h (by have := (distinct_sub t.rows [] []).1; have := right_rows h; simp at *; omega) fun r hr => by
    rcases (distinct_sub t.rows [] []).2 r hr with h | h
    · exact h
    · cases h
theorem union_right {t v : Tb} (h : rightB t = true) (hv : rightB v = true) (hc : t.cols = v.cols) (hl : t.rows.length + v.rows.length ≤ 60) : rightB ⟨t.cols, t.rows ++ v.rows⟩ = true := by
  obtain ⟨a, _, c⟩ := rightB_parts.1 h
  obtain ⟨_, _, c'⟩ := rightB_parts.1 hv
  refine rightB_parts.2 ⟨a, by rw [List.length_append]; exact hl, fun r hr => ?_⟩
  rw [List.mem_append] at hr
  rcases hr with hr | hr
  · exact c r hr
  · exact hc ▸ c' r hr
theorem pick_at (j : Jb) (t : Tb) (r : List Vl) (i : Nat) (h : i < j.cols.length) {k : Nat} (hk : colIx t.cols j.cols[i] = some k) (hr : k < r.length) : (pickRow j t r)[i]'(by unfold pickRow; simpa using h) = r[k] := by
  unfold pickRow
  simp only [List.getElem_map, hk]
  rw [List.getD_eq_getElem?_getD, List.getElem?_eq_getElem hr]; rfl
theorem proj_right {j : Jb} {t : Tb} (h : rightB t = true) (hp : pickOk j t.cols) : rightB ⟨j.cols.map (colOf t.cols), t.rows.map (pickRow j t)⟩ = true := by
  obtain ⟨a, b, c⟩ := rightB_parts.1 h
  obtain ⟨h1, h2, h3, h4⟩ := hp
  obtain ⟨_, _, h7, _⟩ := colsB_iff.1 a
  refine rightB_parts.2 ⟨colsB_iff.2 ⟨by simpa using h1, by simpa using h2, fun x hx => ?_, ?_⟩, by simpa using b, fun r hr => ?_⟩
  · obtain ⟨n, hn, rfl⟩ := List.mem_map.1 hx
    obtain ⟨k, hk⟩ := h3 n hn
    obtain ⟨hkl, he, _⟩ := colOf_some hk
    rw [he]
    exact h7 _ (List.getElem_mem hkl)
  · have e : (j.cols.map (colOf t.cols)).map (·.name) = j.cols := by
      rw [List.map_map]
      refine (List.map_congr_left fun n hn => ?_).trans (List.map_id _)
      obtain ⟨k, hk⟩ := h3 n hn
      exact (colOf_some hk).2.2
    simp only
    rw [e]
    exact h4
  · obtain ⟨x, hx, rfl⟩ := List.mem_map.1 hr
    obtain ⟨hl, hv⟩ := rowB_iff'.1 (c x hx)
    refine rowB_iff'.2 ⟨by simp [pickRow], fun i hi hi' => ?_⟩
    have hic : i < j.cols.length := by simpa [pickRow] using hi
    obtain ⟨k, hk⟩ := h3 _ (List.getElem_mem hic)
    obtain ⟨hkl, he, _⟩ := colOf_some hk
    rw [pick_at j t x i hic hk (by omega)]
    simp only [List.getElem_map]
    rw [he]
    exact hv k (by omega) hkl
/-! ### Set -/
theorem change_ok (j : Jb) (a : Tb) : ∀ (rs acc l : List (List Vl)), changeGo j a rs acc = some l ↔ ∃ q, l = acc ++ q ∧ q.length = rs.length ∧ ∀ i (h : i < rs.length) (h' : i < q.length), changeRow j a rs[i] = some q[i]
  | [], acc, l => by
    simp only [changeGo, Option.some.injEq]
    constructor
    · intro h; exact ⟨[], by simp [h], rfl, fun i h => by simp at h⟩
    · rintro ⟨q, h1, h2, _⟩
      have : q = [] := List.eq_nil_of_length_eq_zero h2
      rw [h1, this, List.append_nil]
  | r :: rs, acc, l => by
    unfold changeGo
    cases h : changeRow j a r with
    | none =>
      simp only
      constructor
      · intro h2; cases h2
      · rintro ⟨q, _, h2, h3⟩
        have := h3 0 (by simp) (by rw [h2]; simp)
        simp only [List.getElem_cons_zero] at this
        rw [h] at this; cases this
    | some x =>
      simp only
      rw [change_ok j a rs (acc ++ [x]) l]
      constructor
      · rintro ⟨q, rfl, hq, hi⟩
        refine ⟨x :: q, by simp, by simp [hq], fun i hi1 hi2 => ?_⟩
        rcases i with _ | i
        · exact h
        · exact hi i (by simpa using hi1) (by simpa using hi2)
      · rintro ⟨q, rfl, hq, hi⟩
        match q, hq with
        | y :: q, hq =>
          have h0 := hi 0 (by simp) (by simp)
          simp only [List.getElem_cons_zero] at h0
          rw [h] at h0
          cases h0
          refine ⟨q, by simp, by simpa using hq, fun i hi1 hi2 => ?_⟩
          have := hi (i + 1) (by simpa using hi1) (by simpa using hi2)
          simpa using this
/-- What a Set needs of columns: the column, and that all is Int. -/
def setOk (j : Jb) (a : List Cl) (k : Nat) : Prop := j.cols.length = 1 ∧ (j.op = [43] ∨ j.op = [45] ∨ j.op = [42]) ∧ colIx a (j.cols.headD []) = some k ∧ (a.getD k zC).kind = 1 ∧ kindI j.left a = 1 ∧ kindI j.right a = 1
theorem set_ok {j : Jb} {a : List Cl} {out : List (List Cl)} : setJ j a = .ok out ↔ (∃ k, setOk j a k) ∧ out = [a] := by
  unfold setJ setOk
  split
  · rename_i h
    constructor
    · intro h2; cases h2
    · rintro ⟨⟨k, h1, h2, _⟩, _⟩
      rcases h with h | h
      · exact absurd h1 h
      · exact absurd h2 h
  · rename_i h
    have h1 : j.cols.length = 1 := Decidable.not_not.1 fun hn => h (.inl hn)
    have h2 : j.op = [43] ∨ j.op = [45] ∨ j.op = [42] := Classical.byContradiction fun hn => h (.inr hn)
    cases hk : colIx a (j.cols.headD []) with
    | none =>
      constructor
      · intro h3; cases h3
      · rintro ⟨⟨k, _, _, h3, _⟩, _⟩; cases h3
    | some k =>
      simp only
      split
      · rename_i h3
        constructor
        · intro h4; cases h4
        · rintro ⟨⟨k', _, _, h4, h5, h6, h7⟩, _⟩
          cases h4
          rcases h3 with h3 | h3 | h3
          · exact absurd h5 h3
          · exact absurd h6 h3
          · exact absurd h7 h3
      · rename_i h3
        simp only [not_or, Decidable.not_not] at h3
        constructor
        · intro h4
          injection h4 with h4
          exact ⟨⟨k, h1, h2, rfl, h3.1, h3.2.1, h3.2.2⟩, h4.symm⟩
        · rintro ⟨_, h4⟩; rw [h4]
theorem one_set {j : Jb} {t u : Tb} (hc : j.code = 2) : oneJ j [t] = some u ↔ rightB t = true ∧ (∃ k, setOk j t.cols k) ∧ ∃ l, changeGo j t t.rows [] = some l ∧ u = ⟨t.cols, l⟩ := by
  rw [one_gen (by rw [hc]; rfl)]
  have e1 : colsJ { j with outs := [[120]] } ([t].map (·.cols)) = setJ j t.cols := by
    unfold colsJ sizesN
    simp [hc]
    rfl
  have e2 : ∀ out, madeJ { j with outs := [[120]] } [t] out = match changeGo j t t.rows [] with
    | none => .error 2
    | some l => .ok [l] := fun out => by
    have hg : ∀ rs acc, changeGo { j with outs := [[120]] } t rs acc = changeGo j t rs acc := fun rs => by
      induction rs with
      | nil => intro acc; rfl
      | cons r rs ih =>
        intro acc
        unfold changeGo
        have : changeRow { j with outs := [[120]] } t r = changeRow j t r := rfl
        rw [this]
        cases changeRow j t r with
        | none => rfl
        | some x => exact ih _
    unfold madeJ
    simp only
    rw [if_neg (by omega), if_pos hc]
    show (match changeGo { j with outs := [[120]] } t t.rows [] with | none => _ | some l => _) = _
    rw [hg]
  rw [e1]
  simp only [e2, List.mem_singleton, forall_eq]
  constructor
  · rintro ⟨hr, out, rows, h1, h2, h3⟩
    obtain ⟨h4, rfl⟩ := set_ok.1 h1
    cases hg : changeGo j t t.rows [] with
    | none => rw [hg] at h2; cases h2
    | some l =>
      rw [hg] at h2
      injection h2 with h2
      subst h2
      exact ⟨hr, h4, l, rfl, (tabs_single.1 h3).2⟩
  · rintro ⟨hr, h4, l, hg, rfl⟩
    refine ⟨hr, _, [l], set_ok.2 ⟨h4, rfl⟩, by rw [hg], tabs_single.2 ⟨?_, rfl⟩⟩
    obtain ⟨q, hq, hl, _⟩ := (change_ok j t t.rows [] l).1 hg
    have := right_rows hr
    rw [List.nil_append] at hq
    rw [hq, hl]; exact this
/-- An Int's number is within its bounds. -/
theorem int_bd {v : Vl} (h : rvB v = true) (hk : v.kind = 1) : -1000000000 ≤ v.num ∧ v.num ≤ 1000000000 ∧ v.word = [] := by
  unfold rvB at h
  rw [if_pos hk] at h
  simp only [Bool.and_eq_true, decide_eq_true_eq, beq_iff_eq] at h
  exact ⟨h.1.2, h.2, h.1.1⟩
theorem arg_int {a : Ar} {t : Tb} (hr : rightB t = true) (hk : kindI a t.cols = 1) {r : List Vl} (hm : r ∈ t.rows) : -1000000000 ≤ (argV a t.cols r).num ∧ (argV a t.cols r).num ≤ 1000000000 := by
  obtain ⟨_, _, c⟩ := rightB_parts.1 hr
  obtain ⟨hl, hv⟩ := rowB_iff'.1 (c r hm)
  unfold kindI at hk
  unfold argV
  split at hk
  · rename_i hc
    rw [if_pos hc]
    split at hk
    · rename_i hrv
      have := int_bd hrv hk
      exact ⟨this.1, this.2.1⟩
    · cases hk
  · rename_i hc
    rw [if_neg hc]
    cases hx : colIx t.cols a.col with
    | none => rw [hx] at hk; cases hk
    | some k =>
      rw [hx] at hk
      simp only at hk ⊢
      split at hk
      · obtain ⟨hkl, _, _⟩ := colIx_some.1 hx
        have hkr : k < r.length := by omega
        rw [List.getD_eq_getElem?_getD, List.getElem?_eq_getElem hkl] at hk
        rw [List.getD_eq_getElem?_getD, List.getElem?_eq_getElem hkr]
        obtain ⟨h1, h2⟩ := hv k hkr hkl
        have := int_bd h2 (h1.trans hk)
        exact ⟨this.1, this.2.1⟩
      · cases hk
theorem changeRow_some {j : Jb} {a : Tb} {k : Nat} (hk : colIx a.cols (j.cols.headD []) = some k) {r x : List Vl} : changeRow j a r = some x ↔ (-1000000000 ≤ setN j.op (argV j.left a.cols r).num (argV j.right a.cols r).num ∧ setN j.op (argV j.left a.cols r).num (argV j.right a.cols r).num ≤ 1000000000) ∧ x = r.set k ⟨(r.getD k zV).kind, setN j.op (argV j.left a.cols r).num (argV j.right a.cols r).num, (r.getD k zV).word⟩ := by
  unfold changeRow
  simp only
  split
  · rename_i h
    constructor
    · intro h2; cases h2
    · rintro ⟨h2, _⟩; omega
  · rename_i h
    rw [hk]
    simp only [Option.some.injEq]
    exact ⟨fun h2 => ⟨by omega, h2.symm⟩, fun h2 => h2.2.symm⟩
theorem set_right {j : Jb} {t : Tb} {k : Nat} {l : List (List Vl)} (h : rightB t = true) (hs : setOk j t.cols k) (hg : changeGo j t t.rows [] = some l) : rightB ⟨t.cols, l⟩ = true := by
  obtain ⟨a, b, c⟩ := rightB_parts.1 h
  obtain ⟨q, hq, hl, hi⟩ := (change_ok j t t.rows [] l).1 hg
  rw [List.nil_append] at hq
  subst hq
  obtain ⟨_, _, hk, hk1, _, _⟩ := hs
  obtain ⟨hkl, _, _⟩ := colIx_some.1 hk
  refine rightB_parts.2 ⟨a, by rw [hl]; exact b, fun r hr => ?_⟩
  obtain ⟨i, hil0, rfl⟩ := List.getElem_of_mem hr
  have hil : i < l.length := hil0
  have hx := hi i (by omega) hil
  obtain ⟨hb, he⟩ := (changeRow_some hk).1 hx
  obtain ⟨hrl, hrv⟩ := rowB_iff'.1 (c t.rows[i] (List.getElem_mem (by omega)))
  simp only at he ⊢
  rw [he]
  refine rowB_iff'.2 ⟨by rw [List.length_set]; exact hrl, fun m h1 h2 => ?_⟩
  rw [List.length_set] at h1
  rw [List.getElem_set]
  split
  · rename_i hkm
    subst hkm
    obtain ⟨h3, h4⟩ := hrv k h1 h2
    have hkind : t.cols[k].kind = 1 := by
      rw [List.getD_eq_getElem?_getD, List.getElem?_eq_getElem h2] at hk1
      exact hk1
    have hgd : (t.rows[i]'(by omega)).getD k zV = (t.rows[i]'(by omega))[k] := by rw [List.getD_eq_getElem?_getD, List.getElem?_eq_getElem h1]; rfl
    rw [hgd]
    refine ⟨h3, ?_⟩
    have hw := (int_bd h4 (h3.trans hkind)).2.2
    unfold rvB
    simp only
    rw [if_pos (h3.trans hkind), hw]
    simp only [Bool.and_eq_true, decide_eq_true_eq]
    exact ⟨⟨rfl, hb.1⟩, hb.2⟩
  · exact hrv m h1 h2
end Go.Proofs.YtomgnjgaafnkiaaGreatDoor
