/- ops.text: a row as one text. ops.distinct. slices.Concat at 41. -/
import Derived.Test.YtpfkjejknlkkoaaGreatDoorOsoM13
import Derived.Test.YtpfkjejknlkkoaaGreatDoorOsoM14
import Derived.Test.YtpfkjejknlkkoaaGreatDoorOsoM1
set_option linter.unusedSimpArgs false
set_option linter.unusedVariables false
namespace Go.Proofs.YtpfkjejknlkkoaaGreatDoor
open Go.RowKit Go.BigFrame
attribute [local go_sem] bs_size bs_extract bs_append bs_toList
theorem joinC_tail (c : UInt8) (x : Bs) (r : List Bs) : joinC c (x :: r) = x ++ Lib.joinTail [c] r := by
 induction r generalizing x with
 | nil => simp [joinC, Lib.joinTail]
 | cons y t ih =>
  show x ++ c :: joinC c (y :: t) = _
  rw [ih y]
  simp [Lib.joinTail]
theorem join_joinC (c : UInt8) {l : List Bs} (h : l ≠ []) : Lib.join l [c] = joinC c l := by
 cases l with
 | nil => exact absurd rfl h
 | cons x r => rw [Lib.join_cons, joinC_tail]
set_option maxHeartbeats 4000000 in
theorem text_any (r : List Vl) (h1 : 1 ≤ r.length) (h6 : r.length ≤ 4294967296) (hv : ∀ v ∈ r, numOk v.num ∧ v.word.length ≤ 1000000000) (hlen : (rowText r).length ≤ 140737488355328) (A : Option Addr) (c : Nat) (w : World) (hE : TEnv w) (hA : Rd w [] 3 A r.length (vsCells r)) :
  Calls Tryz.prog 94 #[.slice A r.length c] w fun e w' => e = .returned (.string (bs (rowText r))) ∧ Keeps [] w w' := by
 obtain ⟨is, his, hsz0, hsz1, hsz2⟩ := info_parts sinfo
 have HV := Lib.hid (fun v (hm : v ∈ r) W (q : Keeps [] w W) => value_any v (hv v hm).1 (hv v hm).2 W (hE.quiet q))
 obtain ⟨b, o, rfl, _, hb, hcs⟩ := hA.open' (by omega) (by omega)
 have HCS := Lib.hid hcs
 clear hcs hA hE hv
 go_enter Tryz.func94, Tryz.ntmps94
 go_wp2
 go_loopw [3, 8] (fun u i wx => ∃ (m : Nat) (v : Value), v = u ∧ m ≤ r.length ∧ i = .int .i64 m ∧ wx.ownsRow w.heap.size 9 1 v m (strs ((r.take m).map valueL)) ∧ Keeps [] w wx) (fun _ i _ => r.length - (intOf i).toNat)
 case atStart => exact ⟨0, _, rfl, Nat.zero_le _, rfl, World.ownsRow_nil _ _ _ _, Keeps.refl _ _⟩
 case round =>
  obtain ⟨m, v, rfl, hm, rfl, hown, hk⟩ := hrel
  have HO := Lib.hid hown
  have HK := Lib.hid hk
  clear hown hk
  by_cases hlt : m < r.length
  ·obtain ⟨x0, x1, x2⟩ := vsCells_at r m hlt
   have d0 := HK.out.cell_of (HCS.out _ _ x0) (by simp)
   have d1 := HK.out.cell_of (HCS.out _ _ x1) (by simp)
   have d2 := HK.out.cell_of (HCS.out _ _ x2) (by simp)
   rw [← Nat.add_assoc] at d1 d2
   have HVV := Lib.hid (HV.out r[m] (List.getElem_mem hlt))
   have hst : (r.take (m + 1)).map valueL = (r.take m).map valueL ++ [valueL r[m]] := by rw [List.take_succ_eq_append_getElem hlt, List.map_append]; rfl
   have HST := Lib.hid hst
   clear hst x0 x1 x2
   generalize r[m] = x at *
   obtain ⟨xk, xn, xw⟩ := x
   have HVW : Hid (∀ W, Keeps [] w W → Calls Tryz.prog 48 #[.agg #[.int .i64 xk, .int .i64 xn, .string (bs xw)]] W fun e w' => e = .returned (.string (bs (valueL ⟨xk, xn, xw⟩))) ∧ Keeps [] W w') := HVV
   clear HVV
   generalize valueL ⟨xk, xn, xw⟩ = tx at *
   have hi0 : (0 : Int) ≤ (m : Int) := by omega
   have hi2 : (m : Int) < (r.length : Int) := by omega
   have hbd := Lib.hid (show m + 1 ≤ maxLen ∧ (m + 1) * 16 ≤ 140737488355328 by simp only [maxLen]; omega)
   have hz := HK.out.size
   go_wp2_with fail
   refine (HVW.out _ (HK.out.alloc _)).mono ?_
   rintro e w5 ⟨rfl, hk5⟩
   have HO5 := Lib.hid (own_keep (HO.out.alloc (.cells #[.int .i64 xk, .int .i64 xn, .string (bs xw)] 32)) hk5 (fun _ _ => by simp))
   have HK5 := Lib.hid ((HK.out.alloc _).trans hk5)
   have hz5 := HK5.out.size
   clear hk5
   go_wp2_with (at_builtin; (refine wpList_append_lies _ rfl _ _ 30 rfl w.heap.size 9 is _ 1 16 Tryz.underlying30 his hsz0 hsz1 hsz2 rfl (by decide) _ m (strs ((r.take m).map valueL)) rfl (HO5.out.alloc _) ⟨w5.heap.size, 0, none⟩ 1 1 [.string (bs tx)] rfl rfl (World.news_of_block (heap_alloc_new _ _)) (by simp [Value.oneCell']) (by decide) hbd.out.1 hbd.out.2 (by rw [size_alloc]; omega) _ rfl ?_); intro gw cap2 w8 hown8 hgrow8 hat8 hlt8)
   have HK8 := Lib.hid ((HK5.out.alloc (.cells #[.string (bs tx)] 9)).grown hgrow8 (fun g hg => .inr (HO5.out.lt g hg).1))
   rw [← strs_snoc, ← HST.out] at hown8
   have HO8 := Lib.hid hown8
   clear hown8 hgrow8 hat8 hlt8
   go_wp2
   go_roundw
   case rel => exact ⟨m + 1, _, rfl, by omega, by go_num, HO8.out, HK8.out⟩
   case measure => simp [intOf]; omega
  ·obtain rfl : m = r.length := by omega
   have hq := HO.out
   rw [List.take_length] at hq
   obtain ⟨g, cap, rfl, hcp, hbg, hg, hcell⟩ := own_some hq h1
   have hml : ((r.map valueL).map bs).length = r.length := by simp
   have hmm : ((r.map valueL).map bs).map (·.data.toList) = r.map valueL := by
    rw [List.map_map]
    exact (List.map_congr_left (fun x _ => rfl)).trans (List.map_id _)
   have hne : r.map valueL ≠ [] := fun h => by
    have := congrArg List.length h
    simp at this
    rw [this] at h1
    simp at h1
   have HJ := Tryz.strings_Join g 0 cap ((r.map valueL).map bs) (bs [32]) wr (fun j x hx => by
    rw [Nat.zero_add]
    refine hcell j _ ?_
    unfold strs
    rw [List.map_map, List.getElem?_map]
    rw [List.map_map, List.getElem?_map] at hx
    cases hr : r[j]? with
    | none => rw [hr] at hx; cases hx
    | some y => rw [hr] at hx; cases hx; rfl) hg (by rw [hml]; omega) (by rw [hml]; exact hcp) (by
     rw [hmm]
     show (Lib.join (r.map valueL) [32]).length ≤ _
     rw [join_joinC 32 hne]
     exact hlen)
   rw [hml, hmm] at HJ
   have hjj : Lib.join (r.map valueL) (bs [32]).data.toList = rowText r := join_joinC 32 hne
   rw [hjj] at HJ
   have HJJ := Lib.hid HJ
   clear hq hcell HJ hjj hmm hml hne
   go_wp2_with fail
   refine HJJ.out.mono ?_
   rintro e w6 ⟨rfl, hk6⟩
   have HK6 := Lib.hid (HK.out.trans (Keeps.of_below hk6))
   clear hk6
   go_wp2
   go_ret
   exact ⟨rfl, HK6.out⟩
end Go.Proofs.YtpfkjejknlkkoaaGreatDoor
namespace Go.Proofs.YtpfkjejknlkkoaaGreatDoor
open Go.RowKit Go.BigFrame
attribute [local go_sem] bs_size bs_extract bs_append bs_toList
theorem distinct_at (rs : List (List Vl)) (m : Nat) (h : m < rs.length) (seen : List Bs) (out : List (List Vl)) : distinctGo (rs.drop m) seen out = if rowText rs[m] ∈ seen then distinctGo (rs.drop (m + 1)) seen out else distinctGo (rs.drop (m + 1)) (rowText rs[m] :: seen) (out ++ [rs[m]]) := by
 rw [List.drop_eq_getElem_cons h]
 conv => lhs; unfold distinctGo
set_option maxHeartbeats 4000000 in
theorem distinct_any (rs : List (List Vl)) (B : Option Addr) (d : Nat) (w : World) (hE : TEnv w) (hR : RdRows w [] B rs) (hl : rs.length ≤ 4294967296) (hrow : ∀ r ∈ rs, 1 ≤ r.length ∧ r.length ≤ 4294967296 ∧ (∀ v ∈ r, numOk v.num ∧ v.word.length ≤ 1000000000) ∧ (rowText r).length ≤ 1000000000) :
  Calls Tryz.prog 69 #[.slice B rs.length d] w fun e w' => (∃ v, e = .returned v ∧ RowsIs w' v (distinctGo rs [] [])) ∧ Keeps [] w w' := by
 obtain ⟨ir, hir, hrz0, hrz1, hrz2⟩ := info_parts rinfo
 have hmm := @run_makeMap Tryz.prog
 have HT := Lib.hid (fun r (hm : r ∈ rs) A c W (q : Keeps [] w W) (hA : Rd w [] 3 A r.length (vsCells r)) => text_any r (hrow r hm).1 (hrow r hm).2.1 (hrow r hm).2.2.1 (Nat.le_trans (hrow r hm).2.2.2 (by decide)) A c W (hE.quiet q) (hA.keep q))
 have HL := Lib.hid (fun r (hm : r ∈ rs) => (hrow r hm).2.2.2)
 clear hrow hE
 have HR := Lib.hid hR
 clear hR
 have HK0 := Lib.hid ((Keeps.refl [] w).alloc (.map #[] 0))
 have HS0 := Lib.hid (SetOf.made (P := Tryz.prog) (S := 9) (E := 4) w)
 go_enter Tryz.func69, Tryz.ntmps69
 go_wp2
 obtain ⟨w2, hw2⟩ : ∃ w2, (w.alloc (.map #[] 0)) = w2 := ⟨_, rfl⟩
 have hsz : w2.heap.size = w.heap.size + 1 := by rw [← hw2, size_alloc]
 rw [hw2] at HK0 HS0 ⊢
 obtain ⟨bm, hbm⟩ : ∃ bm, w.heap.size = bm := ⟨_, rfl⟩
 rw [hbm] at HS0 hsz ⊢
 have hlb : w.heap.size ≤ bm := by omega
 clear hw2 hbm hmm
 go_loopw [4, 11] (fun u i wx => ∃ (m : Nat) (v : Value) (seen : List Bs) (out : List (List Vl)), v = u ∧ m ≤ rs.length ∧ i = .int .i64 m ∧ out.length ≤ m ∧ Hid (SetOf Tryz.prog 9 4 wx bm m seen) ∧ Hid (Gath w wx w2.heap.size v out) ∧ Hid (distinctGo (rs.drop m) seen out = distinctGo rs [] []) ∧ Keeps [] w wx ∧ w2.heap.size ≤ wx.heap.size) (fun _ i _ => rs.length - (intOf i).toNat)
 case atStart => exact ⟨0, _, [], [], rfl, Nat.zero_le _, rfl, Nat.le_refl _, HS0, Gath.nil _ _ _, rfl, HK0.out, Nat.le_refl _⟩
 case round =>
  obtain ⟨m, v, seen, out, rfl, hm, rfl, hol, HS, HG, HD, hk, hzr⟩ := hrel
  have HK := Lib.hid hk
  clear hk
  by_cases hlt : m < rs.length
  ·obtain ⟨us, hul, hur, hui⟩ := HR.out
   have hux : m < us.length := by omega
   have hrw := hui m hux hlt
   obtain ⟨b7, o7, hBe, _, hb7, hcs⟩ := hur.open' (by omega) (by omega)
   have d7 := hcs (m * 1) us[m] (by rw [Nat.mul_one]; exact List.getElem?_eq_getElem hux)
   rw [Nat.mul_one] at d7
   have hmem : rs[m] ∈ rs := List.getElem_mem hlt
   have hst := distinct_at rs m hlt seen out
   rw [HD.out] at hst
   generalize rs[m] = r at *
   have HRW := Lib.hid hrw
   obtain ⟨Ar, cr, hu, hcr, hrd⟩ := hrw
   rw [hu] at HRW d7
   have d8 := HK.out.cell_of d7 (by simp)
   subst hBe
   have HTX := Lib.hid (HT.out r hmem Ar cr wr HK.out hrd)
   have hln := HL.out r hmem
   have hi0 : (0 : Int) ≤ (m : Int) := by omega
   have hi2 : (m : Int) < (rs.length : Int) := by omega
   have HST := Lib.hid hst
   clear hst hu hul hur hui hcs d7 hrd hmem
   generalize rowText r = tx at *
   go_wp2_with fail
   refine HTX.out.mono ?_
   rintro e w5 ⟨rfl, hk5⟩
   have HS5 := Lib.hid (HS.out.keep hk5 (by simp))
   have HG5 := Lib.hid (HG.out.keep hk5)
   have HK5 := Lib.hid (HK.out.trans hk5)
   have hz5 := Nat.le_trans hzr hk5.size
   clear hk5
   have hlook := HS5.out.look (T := 129) Tryz.underlying129 Tryz.underlying9 Tryz.underlying4 (by kernel_rfl) tx (by simp only [maxLen]; omega)
   by_cases hin : tx ∈ seen
   ·rw [decide_eq_true hin] at hlook
    have HDN : Hid (distinctGo (rs.drop (m + 1)) seen out = distinctGo rs [] []) := Lib.hid (by rw [HST.out, if_pos hin])
    clear hin HTX
    go_wp2
    go_roundw
    case rel => exact ⟨m + 1, v, seen, out, rfl, by omega, by go_num, by omega, HS5.out.mono (by omega), HG5.out, HDN, HK5.out, hz5⟩
    case measure => simp [intOf]; omega
   ·rw [decide_eq_false hin] at hlook
    have HDN : Hid (distinctGo (rs.drop (m + 1)) (tx :: seen) (out ++ [r]) = distinctGo rs [] []) := Lib.hid (by rw [HST.out, if_neg hin])
    obtain ⟨w6, hrun, hs6, hg6⟩ := HS5.out.store (T := 129) Tryz.underlying129 Tryz.underlying9 Tryz.underlying4 tx (by simp only [maxLen]; omega) (by simp only [maxLen]; omega)
    obtain ⟨uo, hgl, hgo, hgi⟩ := HG5.out
    have hlo := fun g hg => (hgo.lt g hg).1
    have hgo6 := hgo.kept hg6 (by
     cases hv : v.ownBlock with
     | none => exact .inl rfl
     | some g => exact .inr (fun e => by
       injection e with e
       have := hlo g hv
       omega))
    have HO6 := Lib.hid hgo6
    have HGI := Lib.hid hgi
    have HGL := Lib.hid hgl
    have HS6 := Lib.hid hs6
    have HK6 := Lib.hid (HK5.out.grown hg6 (fun g hg => .inr (by injection hg with hg; omega)))
    have hz6 := Nat.le_trans hz5 hg6.size
    have hbd := Lib.hid (show out.length + 1 ≤ maxLen ∧ (out.length + 1) * 24 ≤ 140737488355328 by simp only [maxLen]; omega)
    clear hin HTX hgo hgi hgl hgo6 hs6 hg6 hlo
    go_wp2_with (at_builtin; (refine wpList_append_lies _ rfl _ _ 23 rfl w2.heap.size 41 ir _ 1 24 Tryz.underlying23 hir hrz0 hrz1 hrz2 rfl (by decide) _ out.length uo rfl (HO6.out.alloc _) ⟨w6.heap.size, 0, none⟩ 1 1 [.slice Ar r.length cr] rfl rfl (World.news_of_block (heap_alloc_new _ _)) (by simp [Value.oneCell']) (by decide) hbd.out.1 hbd.out.2 (by rw [size_alloc]; omega) _ rfl ?_); intro gw cap2 w8 hown8 hgrow8 hat8 hlt8)
    have HK8 := Lib.hid ((HK6.out.alloc (.cells #[.slice Ar r.length cr] 41)).grown hgrow8 (fun g hg => .inr (Nat.le_trans (by omega) (HO6.out.lt g hg).1)))
    have HGN := Lib.hid (gath_snoc HGL.out HGI.out HRW.out hown8)
    have HSN := Lib.hid (HS6.out.of_block (w' := w8) (by
     rw [hgrow8.block bm (by rw [size_alloc]; omega) (fun e => by have := (HO6.out.lt bm e.symm).1; omega)]
     exact (((Keeps.refl [] w6).alloc _).block bm HS6.out.lt (by simp))))
    have hz8 : w2.heap.size ≤ w8.heap.size := Nat.le_trans (Nat.le_trans hz6 (by rw [size_alloc]; omega)) hgrow8.size
    clear hown8 hgrow8 hat8 hlt8
    go_wp2
    go_roundw
    case rel => exact ⟨m + 1, _, _, _, rfl, by omega, by go_num, by simp; omega, HSN, HGN, HDN, HK8.out, hz8⟩
    case measure => simp [intOf]; omega
  ·obtain rfl : m = rs.length := by omega
   have hd := HD.out
   rw [List.drop_length] at hd
   have HF := Lib.hid (HG.out.is HK.out)
   have hd2 : out = distinctGo rs [] [] := hd
   rw [hd2] at HF
   clear hd hd2 HD HG HS
   go_wp2
   go_ret
   exact ⟨⟨_, rfl, HF.out⟩, HK.out⟩
end Go.Proofs.YtpfkjejknlkkoaaGreatDoor
namespace Go.Proofs.YtpfkjejknlkkoaaGreatDoor
open Go.RowKit
attribute [local go_sem] bs_size bs_extract bs_append bs_toList
theorem catRinfo : (Tryz.prog.info? 41).map (fun i => (i.zero, i.size, i.bytes)) = some (some (.slice none 0 0), 1, 24) := by kernel_rfl
set_option maxHeartbeats 2000000 in
set_option maxRecDepth 100000 in
theorem growR_any (n : Nat) (hn : n ≤ 4294967296) (w : World) :
  Calls Tryz.prog 93 #[.slice none 0 0, .int .i64 (n : Int)] w fun e w' => (∃ v, e = .returned v ∧ w'.ownsRow w.heap.size 41 1 v 0 []) ∧ Keeps [] w w' := by
 by_cases h0 : n = 0
 ·subst h0
  go_enter Tryz.func93, Tryz.ntmps93
  go_wp2
  go_ret
  exact ⟨⟨_, rfl, World.ownsRow_nil _ _ _ _⟩, Keeps.refl _ _⟩
 ·obtain ⟨i0, hi, hz0, hz1, hz2⟩ := info_parts catRinfo
  have hrz := Lib.run_append_grow_zeros w 23 3 23 41 i0 _ .i64 .i64 Tryz.underlying23 Tryz.underlying3 hi hz0 none 0 0 [] (run_firstCells_none w.drew _ 0 0 0) n (by omega) (by rw [hz1]; decide) (by omega) (by omega) (by rw [hz2]; omega) (growslice_fits (by omega) (by rw [hz2]; omega))
  have hG : grownCap w (0 + n) 0 41 ≤ maxLen := grownCap_le_maxLen w (0 + n) 0 41 (by unfold maxLen; omega)
  have hGn : 0 + n ≤ grownCap w (0 + n) 0 41 := grownCap_ge w _ _ _
  rw [Nat.zero_add] at hrz hG hGn
  obtain ⟨G, hGG⟩ : ∃ G, grownCap w n 0 41 = G := ⟨_, rfl⟩
  rw [hGG] at hrz hG hGn
  obtain ⟨cs, hcs⟩ : ∃ cs, (([] : List Value).toArray ++ Builtin.zeroCells (.slice none 0 0 : Value).cells n ++ Builtin.zeroCells (.slice none 0 0 : Value).cells (G - n)) = cs := ⟨_, rfl⟩
  rw [hcs] at hrz
  have hsz : cs.size = G * 1 := by
   rw [← hcs]
   simp [Builtin.zeroCells, Value.cells]
   omega
  have HZ := Lib.hid (zeros_own (w := w.drew) (e := 41) (size := 1) hsz hG)
  have HRZ := Lib.hid hrz
  have h1 : ¬ ((n : Int) < 0) := by omega
  have h4 : (0 : Int) < (n : Int) := by omega
  have hm1 : G ≤ 9223372036854775807 := by unfold maxLen at hG; omega
  clear hrz hcs hsz hGG hi hz0 hz1 hz2
  go_enter Tryz.func93, Tryz.ntmps93
  go_wp2_with (at_builtin; refine Lib.wpList_append_run _ rfl _ _ _ _ rfl _ _ rfl rfl _ _ HRZ.out ?_)
  go_ret
  exact ⟨⟨_, rfl, HZ.out⟩, ((Keeps.refl [] w).drew).alloc _⟩
set_option maxHeartbeats 2000000 in
set_option maxRecDepth 40000 in
theorem concatR_any (ss : List (Nat × List Value)) (us : List Value) (A0 : Option Addr) (k0 : Nat) (w : World) (hus : us.length = ss.length) (hB : Rd w [] 1 A0 ss.length us) (hu : ∀ i (h : i < us.length) (h' : i < ss.length), SlIn w 1 us[i] ss[i]) (hl : ss.length ≤ 4294967296) (htot : totN ss ss.length ≤ 4294967296) (hone : ∀ p ∈ ss, ∀ x ∈ p.2, x.oneCell' = true) :
  Calls Tryz.prog 68 #[.slice A0 ss.length k0] w fun e w' => (∃ v, e = .returned v ∧ w'.ownsRow w.heap.size 41 1 v (totN ss ss.length) (catV ss ss.length)) ∧ Keeps [] w w' := by
 obtain ⟨ie, hie, hez0, hez1, hez2⟩ := info_parts catRinfo
 have HB := Lib.hid hB
 have HU := Lib.hid hu
 have HUS := Lib.hid hus
 have HTL := Lib.hid (fun m (h : m ≤ ss.length) => Nat.le_trans (totN_le ss h) htot)
 have HON := Lib.hid hone
 have HGR := Lib.hid (growR_any (totN ss ss.length) htot w)
 clear hB hu hone hus htot
 go_enter Tryz.func68, Tryz.ntmps68
 go_wp2
 go_loop [3, 11] (fun s i => ∃ m : Nat, m ≤ ss.length ∧ i = .int .i64 m ∧ s = .int .i64 (totN ss m : Nat)) (fun _ i => ss.length - (intOf i).toNat)
 case atStart => exact ⟨0, Nat.zero_le _, rfl, rfl⟩
 case round =>
  obtain ⟨m, hm, rfl, rfl⟩ := hrel
  by_cases hlt : m < ss.length
  ·obtain ⟨b, o, rfl, _, hb, hc⟩ := HB.out.open' (by omega) (by omega)
   have hux : m < us.length := by rw [HUS.out]; exact hlt
   have d1 := hc m _ (List.getElem?_eq_getElem hux)
   obtain ⟨A, c, he, hr⟩ := HU.out m hux hlt
   rw [he] at d1
   have HS := Lib.hid (totN_succ ss m hlt)
   have hle := HTL.out (m + 1) (by omega)
   rw [HS.out] at hle
   clear hc he hr
   generalize totN ss m = a at *
   generalize ss[m].1 = n at *
   have hneg : ¬ ((a : Int) + (n : Int) < 0) := by omega
   go_wp2
   go_round
   case rel => exact ⟨m + 1, by omega, by go_num, by rw [HS.out]; go_num⟩
   case measure => simp [intOf]; omega
  ·obtain rfl : m = ss.length := by omega
   go_wp2_with fail
   refine HGR.out.mono ?_
   rintro e w2 ⟨⟨v0, rfl, ho0⟩, hk0⟩
   have HO0 := Lib.hid ho0
   have HK0 := Lib.hid hk0
   clear ho0 hk0 HGR
   go_wp2
   go_loopw [6, 27] (fun u i wx => ∃ (m : Nat) (v : Value), v = u ∧ m ≤ ss.length ∧ i = .int .i64 m ∧ wx.ownsRow w.heap.size 41 1 v (totN ss m) (catV ss m) ∧ Keeps [] w wx) (fun _ i _ => ss.length - (intOf i).toNat)
   case atStart => exact ⟨0, v0, rfl, Nat.zero_le _, rfl, HO0.out, HK0.out⟩
   case round =>
    obtain ⟨m, v, rfl, hm2, rfl, hown, hk⟩ := hrel
    have HK := Lib.hid hk
    have HO := Lib.hid hown
    clear hk hown
    by_cases hlt : m < ss.length
    ·obtain ⟨b, o, rfl, _, hb, hc⟩ := (HB.out.keep HK.out).open' (by omega) (by omega)
     have hux : m < us.length := by rw [HUS.out]; exact hlt
     have d1 := hc m _ (List.getElem?_eq_getElem hux)
     obtain ⟨A, c, he, hr⟩ := HU.out m hux hlt
     rw [he] at d1
     have hle := HTL.out (m + 1) (by omega)
     rw [totN_succ ss m hlt] at hle
     obtain ⟨v', w', hrun, ho', hg'⟩ := run_append_rd (P := Tryz.prog) wr w.heap.size 23 23 41 ie _ 1 24 Tryz.underlying23 hie hez0 hez1 hez2 rfl (by decide) HO.out (hr.keep HK.out) c (HON.out _ (List.getElem_mem hlt)) (by unfold maxLen; omega) (by omega) HK.out.size
     have HRUN := Lib.hid hrun
     have HO' : Hid (w'.ownsRow w.heap.size 41 1 v' (totN ss (m + 1)) (catV ss (m + 1))) := Lib.hid (by rw [totN_succ ss m hlt, catV_succ ss m hlt]; exact ho')
     have HK' := Lib.hid (HK.out.grown hg' (fun g hg => .inr (HO.out.lt g hg).1))
     clear hc he hr hrun ho' hg' hle
     generalize ss[m].1 = n at *
     go_wp2_with (at_builtin; refine Lib.wpList_append_run _ rfl _ _ _ _ rfl _ _ rfl rfl _ _ HRUN.out ?_)
     go_roundw
     case rel => exact ⟨m + 1, v', rfl, by omega, by go_num, HO'.out, HK'.out⟩
     case measure => simp [intOf]; omega
    ·obtain rfl : m = ss.length := by omega
     go_wp2
     go_ret
     exact ⟨⟨_, rfl, HO.out⟩, HK.out⟩
end Go.Proofs.YtpfkjejknlkkoaaGreatDoor
