/- OpsOnce as plain data: distinct once is distinct twice; all columns, picked, are the table. No program in sight. OpsOnce: the walk. What tables lean on, out of a row's condition; a world in which it is laid. -/
import Derived.Test.YtomgnjgaafnkiaaGreatDoorOncM18
import Derived.Test.YtomgnjgaafnkiaaGreatDoorOncM20
import Derived.Test.YtomgnjgaafnkiaaGreatDoorOncM21
import Derived.Test.YtomgnjgaafnkiaaGreatDoorOncM7
import Derived.Test.YtomgnjgaafnkiaaGreatDoorRows
import Derived.Lib.LaidTab
import Derived.LaidLaws
import Derived.LaidSub
import Derived.LaidMore
import Derived.Shelf.Vars
import Derived.HandedShaped
namespace Go.Proofs.YtomgnjgaafnkiaaGreatDoor
theorem dist_out : ∀ (rs : List (List Vl)) (seen : List Bs) (out : List (List Vl)), distinctGo rs seen out = out ++ distinctGo rs seen []
  | [], _, out => by simp [distinctGo]
  | r :: rs, seen, out => by
    unfold distinctGo
    split
    · exact dist_out rs seen out
    · rw [dist_out rs _ (out ++ [r]), dist_out rs _ ([] ++ [r])]
      simp
theorem dist_congr : ∀ (rs : List (List Vl)) (s1 s2 : List Bs) (out : List (List Vl)), (∀ x, x ∈ s1 ↔ x ∈ s2) → distinctGo rs s1 out = distinctGo rs s2 out
  | [], _, _, _, _ => rfl
  | r :: rs, s1, s2, out, h => by
    unfold distinctGo
    by_cases h1 : rowText r ∈ s1
    · rw [if_pos h1, if_pos ((h _).1 h1)]
      exact dist_congr rs s1 s2 out h
    · rw [if_neg h1, if_neg (fun h2 => h1 ((h _).2 h2))]
      exact dist_congr rs _ _ _ fun x => by simp [h x]
theorem dist_append : ∀ (a b : List (List Vl)) (seen : List Bs) (out : List (List Vl)), distinctGo (a ++ b) seen out = distinctGo b (a.map rowText ++ seen) (distinctGo a seen out)
  | [], b, seen, out => rfl
  | r :: a, b, seen, out => by
    have e : distinctGo (r :: a) seen out = if rowText r ∈ seen then distinctGo a seen out else distinctGo a (rowText r :: seen) (out ++ [r]) := by
      conv => lhs; unfold distinctGo
    rw [List.cons_append]
    conv => lhs; unfold distinctGo
    rw [e]
    split
    · rename_i h
      rw [dist_append a b seen out]
      exact dist_congr b _ _ _ fun x => by
        simp only [List.map_cons, List.cons_append, List.mem_append, List.mem_cons]
        constructor
        · intro hx; exact .inr hx
        · rintro (rfl | hx)
          · exact .inr h
          · exact hx
    · rw [dist_append a b _ _]
      exact dist_congr b _ _ _ fun x => by
        simp only [List.map_cons, List.cons_append, List.mem_append, List.mem_cons]
        constructor
        · rintro (h | h | h)
          · exact .inr (.inl h)
          · exact .inl h
          · exact .inr (.inr h)
        · rintro (h | h | h)
          · exact .inr (.inl h)
          · exact .inl h
          · exact .inr (.inr h)
theorem dist_seen : ∀ (rs : List (List Vl)) (seen : List Bs) (out : List (List Vl)), (∀ r ∈ rs, rowText r ∈ seen) → distinctGo rs seen out = out
  | [], _, _, _ => rfl
  | r :: rs, seen, out, h => by
    unfold distinctGo
    rw [if_pos (h r (by simp))]
    exact dist_seen rs seen out fun x hx => h x (by simp [hx])
theorem dist_twice (rs : List (List Vl)) : distinctGo (rs ++ rs) [] [] = distinctGo rs [] [] := by
  rw [dist_append, dist_seen rs _ _ fun r hr => by simp; exact ⟨r, hr, rfl⟩]
theorem dist_new : ∀ (rs : List (List Vl)) (seen : List Bs), ((distinctGo rs seen []).map rowText).Nodup ∧ ∀ r ∈ distinctGo rs seen [], rowText r ∉ seen
  | [], _ => by simp [distinctGo]
  | r :: rs, seen => by
    unfold distinctGo
    split
    · exact dist_new rs seen
    · rename_i h
      obtain ⟨h1, h2⟩ := dist_new rs (rowText r :: seen)
      rw [dist_out rs _ ([] ++ [r])]
      simp only [List.nil_append, List.singleton_append, List.map_cons, List.nodup_cons, List.mem_map, List.mem_cons, forall_eq_or_imp]
      refine ⟨⟨?_, h1⟩, h, fun x hx hn => h2 x hx (by simp [hn])⟩
      rintro ⟨x, hx, he⟩
      exact h2 x hx (by simp [he])
theorem dist_fix : ∀ (rs : List (List Vl)) (seen : List Bs), (rs.map rowText).Nodup → (∀ r ∈ rs, rowText r ∉ seen) → distinctGo rs seen [] = rs
  | [], _, _, _ => rfl
  | r :: rs, seen, hn, hs => by
    unfold distinctGo
    rw [if_neg (hs r (by simp)), dist_out]
    simp only [List.map_cons, List.nodup_cons] at hn
    rw [dist_fix rs (rowText r :: seen) hn.2 fun x hx hm => by
      rcases List.mem_cons.1 hm with h | h
      · exact hn.1 (by rw [← h]; exact List.mem_map_of_mem hx)
      · exact hs x (by simp [hx]) h]
    rfl
theorem dist_again (rs : List (List Vl)) : distinctGo (distinctGo rs [] []) [] [] = distinctGo rs [] [] :=
  dist_fix _ [] (dist_new rs []).1 (by simp)
def jD : Jb := ⟨0, 6, [], [], [], [], ⟨[], zV⟩, ⟨[], zV⟩, 0⟩
def jU : Jb := ⟨0, 5, [], [], [], [], ⟨[], zV⟩, ⟨[], zV⟩, 0⟩
def jP (cols : List Bs) : Jb := ⟨0, 3, [], [], cols, [], ⟨[], zV⟩, ⟨[], zV⟩, 0⟩
def distT (t : Tb) : Tb := ⟨t.cols, distinctGo t.rows [] []⟩
theorem pick_all {t : Tb} (h : rightB t = true) : pickOk (jP (t.cols.map (·.name))) t.cols ∧ (⟨(t.cols.map (·.name)).map (colOf t.cols), t.rows.map (pickRow (jP (t.cols.map (·.name))) t)⟩ : Tb) = t := by
  obtain ⟨a, _, c⟩ := rightB_parts.1 h
  obtain ⟨h1, h2, _, h4⟩ := colsB_iff.1 a
  refine ⟨⟨by simpa [jP] using h1, by simpa [jP] using h2, fun n hn => ?_, h4⟩, ?_⟩
  · obtain ⟨x, hx, rfl⟩ := List.mem_map.1 hn
    obtain ⟨k, hk, rfl⟩ := List.getElem_of_mem hx
    exact ⟨k, colIx_self h4 hk⟩
  · obtain ⟨cols, rows⟩ := t
    simp only at h4 c ⊢
    congr 1
    · apply List.ext_getElem (by simp)
      intro i h5 h6
      simp only [List.getElem_map]
      exact (colOf_some (colIx_self h4 h6)).2.1
    · refine (List.map_congr_left fun r hr => ?_).trans (List.map_id _)
      obtain ⟨hl, _⟩ := rowB_iff'.1 (c r hr)
      apply List.ext_getElem (by simp [pickRow, jP, hl])
      intro i h5 h6
      have hi : i < cols.length := by
        have h7 : (pickRow (jP (cols.map (·.name))) ⟨cols, rows⟩ r).length = cols.length := by simp [pickRow, jP]
        omega
      have hic : i < (jP (cols.map (·.name))).cols.length := by simpa [jP] using hi
      have h8 : i < r.length := h6
      refine pick_at _ _ r i hic ?_ h8
      simp only [jP, List.getElem_map]
      exact colIx_self h4 hi
theorem once_bad {t : Tb} (h : rightB t = false) : oneJ jD [t] = none := one_none fun u hu => by
  have := ((one_dist rfl).1 hu).1
  rw [h] at this; cases this
theorem once_d {t : Tb} (h : rightB t = true) : oneJ jD [t] = some (distT t) := (one_dist rfl).2 ⟨h, rfl⟩
theorem once_dd {t : Tb} (h : rightB t = true) : oneJ jD [distT t] = some (distT t) := (one_dist rfl).2 ⟨dist_right h, by unfold distT; simp only; rw [dist_again]⟩
theorem once_all {t : Tb} (h : rightB t = true) : oneJ (jP (t.cols.map (·.name))) [t] = some t := (one_proj rfl).2 ⟨h, (pick_all h).1, (pick_all h).2.symm⟩
theorem once_uno {t : Tb} (hl : 60 < 2 * t.rows.length) : oneJ jU [t, t] = none := one_none fun u hu => by
  have := ((one_union rfl).1 hu).2.2.2.1
  omega
theorem once_u {t : Tb} (h : rightB t = true) (hl : 2 * t.rows.length ≤ 60) : oneJ jU [t, t] = some ⟨t.cols, t.rows ++ t.rows⟩ := (one_union rfl).2 ⟨h, h, rfl, by omega, rfl⟩
theorem once_ud {t : Tb} (h : rightB t = true) (hl : 2 * t.rows.length ≤ 60) : oneJ jD [⟨t.cols, t.rows ++ t.rows⟩] = some (distT t) :=
  (one_dist rfl).2 ⟨union_right h h rfl (by omega), by unfold distT; simp only; rw [dist_twice]⟩
end Go.Proofs.YtomgnjgaafnkiaaGreatDoor
namespace Go.Proofs.YtomgnjgaafnkiaaGreatDoor
open Go.RowKit
attribute [local go_sem] bs_size bs_extract bs_append bs_toList
set_option maxHeartbeats 8000000 in
set_option maxRecDepth 40000 in
theorem oonce_0 (t : Tb) (A B : Option Addr) (c d : Nat) (w : World) (hT : TabAny w t A B c d) (hE : OEnv w) (hsm : smallB t = false) :
    Calls Tryz.prog 6 #[tAgg A t.cols.length c B t.rows.length d] w fun e w' => e = .returned (.bool true) ∧ Keeps [] w w' := by
  have HSM : Hid (∀ W, Keeps [] w W → Calls Tryz.prog 9 #[.agg #[.slice A t.cols.length c, .slice B t.rows.length d]] W fun e W' => e = .returned (.bool (smallB t)) ∧ Keeps [] W W') := Lib.hid fun W q => small_any t A B c d W (hT.cols.keep q) (hT.rows.keep q)
  rw [hsm] at HSM
  clear hT hE hsm
  show Calls _ _ #[.agg #[.slice A t.cols.length c, .slice B t.rows.length d]] w _
  go_enter Tryz.func6, Tryz.ntmps6
  go_wp2_with fail
  refine (HSM.out _ ((Keeps.refl _ _).alloc _)).mono ?_
  rintro e w2 ⟨rfl, hk2⟩
  go_wp2
  go_ret
  exact ⟨rfl, ((Keeps.refl _ _).alloc _).trans hk2⟩
set_option maxHeartbeats 8000000 in
set_option maxRecDepth 40000 in
theorem oonce_1 (t : Tb) (A B : Option Addr) (c d : Nat) (w : World) (hT : TabAny w t A B c d) (hE : OEnv w) (hsm : smallB t = true) (hr : rightB t = false) :
    Calls Tryz.prog 6 #[tAgg A t.cols.length c B t.rows.length d] w fun e w' => e = .returned (.bool true) ∧ Keeps [] w w' := by
  have HSM : Hid (∀ W, Keeps [] w W → Calls Tryz.prog 9 #[.agg #[.slice A t.cols.length c, .slice B t.rows.length d]] W fun e W' => e = .returned (.bool (smallB t)) ∧ Keeps [] W W') := Lib.hid fun W q => small_any t A B c d W (hT.cols.keep q) (hT.rows.keep q)
  have HDN := Lib.hid (fun W (q : Keeps [] w W) => done_any W (hE.quiet q))
  rw [hsm] at HSM
  have HIN := Lib.hid (hT.inn hsm).1
  have HTB := Lib.hid HIN.out.tbB
  have HE := Lib.hid hE
  have HBT := Lib.hid (Blk.new w 25 #[.slice A t.cols.length c, .slice B t.rows.length d])
  have HK0 : Hid (Keeps [] w (w.alloc (.cells #[.slice A t.cols.length c, .slice B t.rows.length d] 25))) := Lib.hid ((Keeps.refl _ _).alloc _)
  clear hT hE hsm
  have HU1 := Lib.hid (once_bad hr)
  have HRI := Lib.hid (fun W (q : Keeps [] w W) => (HIN.out.quiet q).right)
  rw [hr] at HRI
  clear hr
  show Calls _ _ #[.agg #[.slice A t.cols.length c, .slice B t.rows.length d]] w _
  go_enter Tryz.func6, Tryz.ntmps6
  go_wp2_with fail
  refine (HSM.out _ HK0.out).mono ?_
  rintro e w2 ⟨rfl, hk2⟩
  have HT2 := Lib.hid (HBT.out.keep hk2 (by simp))
  have HK2 := Lib.hid (HK0.out.trans hk2)
  obtain ⟨bt, hbt⟩ : ∃ b, w.heap.size = b := ⟨_, rfl⟩
  rw [hbt] at HT2 ⊢
  clear hk2 HBT HK0 hbt
  go_wp2_with fail
  refine (HDN.out _ HK2.out).mono ?_
  rintro e w4 ⟨rfl, hk4⟩
  have HK4 := Lib.hid (HK2.out.trans hk4)
  have HT4 := Lib.hid (HT2.out.keep hk4 (by simp))
  clear hk4 HT2 HDN HSM HK2
  have q0 : w4.cell? ⟨bt, 0, none⟩ = some (.slice A t.cols.length c) := HT4.out.cell 0
  have r0 : w4.cell? ⟨bt, 1, none⟩ = some (.slice B t.rows.length d) := HT4.out.cell 1
  have l0 : bt < w4.heap.size := HT4.out.lt
  go_wp2_with fail
  have HO1 : Hid (Calls Tryz.prog 11 #[.agg #[.int .i64 0, .int .i64 6, .slice none 0 0, .slice none 0 0, .slice none 0 0, .string ⟨#[]⟩, .string ⟨#[]⟩, .int .i64 0, .int .i64 0, .string ⟨#[]⟩, .string ⟨#[]⟩, .int .i64 0, .int .i64 0, .string ⟨#[]⟩, .int .i64 0], .slice (some ⟨w4.heap.size, 0, none⟩) 1 1] (w4.alloc (.cells #[.slice A t.cols.length c, .slice B t.rows.length d] 25)) fun e w' => e = .returned (.tuple #[.agg #[.slice none 0 0, .slice none 0 0], .bool false]) ∧ Keeps [] w4 w') := Lib.hid (oneN (j := jD) (by decide) HU1.out none 0 A B c d w4 _ rfl (HE.out.quiet HK4.out) Rd.nil (Nat.le_refl _) (by decide) (HIN.out.quiet HK4.out))
  with_reducible refine HO1.out.mono ?_
  rintro e v1 ⟨rfl, hk1⟩
  have HK5 := Lib.hid (HK4.out.trans hk1)
  have HT5 := Lib.hid (HT4.out.keep hk1 (by simp))
  clear hk1 q0 r0 l0
  have q0 : v1.cell? ⟨bt, 0, none⟩ = some (.slice A t.cols.length c) := HT5.out.cell 0
  have r0 : v1.cell? ⟨bt, 1, none⟩ = some (.slice B t.rows.length d) := HT5.out.cell 1
  have l0 : bt < v1.heap.size := HT5.out.lt
  go_wp2_with fail
  refine (HRI.out _ (HK5.out.alloc _)).mono ?_
  rintro e v2 ⟨rfl, hk2⟩
  go_wp2
  go_ret
  exact ⟨rfl, (HK5.out.alloc _).trans hk2⟩
set_option maxHeartbeats 8000000 in
set_option maxRecDepth 40000 in
theorem oonce_3 (t : Tb) (A B : Option Addr) (c d : Nat) (w : World) (hT : TabAny w t A B c d) (hE : OEnv w) (hsm : smallB t = true) (hr : rightB t = true) (hl : 2 * t.rows.length ≤ 60) :
    Calls Tryz.prog 6 #[tAgg A t.cols.length c B t.rows.length d] w fun e w' => e = .returned (.bool true) ∧ Keeps [] w w' := by
  have HSM : Hid (∀ W, Keeps [] w W → Calls Tryz.prog 9 #[.agg #[.slice A t.cols.length c, .slice B t.rows.length d]] W fun e W' => e = .returned (.bool (smallB t)) ∧ Keeps [] W W') := Lib.hid fun W q => small_any t A B c d W (hT.cols.keep q) (hT.rows.keep q)
  have HDN := Lib.hid (fun W (q : Keeps [] w W) => done_any W (hE.quiet q))
  rw [hsm] at HSM
  have HIN := Lib.hid (hT.inn hsm).1
  have HTB := Lib.hid HIN.out.tbB
  have HE := Lib.hid hE
  have HBT := Lib.hid (Blk.new w 25 #[.slice A t.cols.length c, .slice B t.rows.length d])
  have HK0 : Hid (Keeps [] w (w.alloc (.cells #[.slice A t.cols.length c, .slice B t.rows.length d] 25))) := Lib.hid ((Keeps.refl _ _).alloc _)
  clear hT hE hsm
  have HU1 := Lib.hid (once_d hr)
  have HU2 := Lib.hid (once_dd hr)
  have HU3 := Lib.hid (once_all hr)
  obtain ⟨is, his, hsz0, hsz1, hsz2⟩ := info_parts sinfo
  have hln1 : 1 ≤ t.cols.length := (colsB_iff.1 (rightB_parts.1 hr).1).1
  have HU4 := Lib.hid (once_u hr hl)
  have HU5 := Lib.hid (once_ud hr hl)
  generalize (⟨t.cols, t.rows ++ t.rows⟩ : Tb) = tw at *
  clear hl
  have HNL : Hid ((t.cols.map (·.name)).length = t.cols.length) := Lib.hid (List.length_map ..)
  have HNM : Hid (∀ i (h : i < t.cols.length), strs ((t.cols.map (·.name)).take (i + 1)) = strs ((t.cols.map (·.name)).take i) ++ [.string (bs t.cols[i].name)]) := Lib.hid fun i h => by
    rw [List.take_succ_eq_append_getElem (by rw [List.length_map]; exact h), strs_snoc, List.getElem_map]
  have hln6 : t.cols.length ≤ 6 := (rightB_of hr).2.1
  generalize distT t = dt at *
  clear hr
  show Calls _ _ #[.agg #[.slice A t.cols.length c, .slice B t.rows.length d]] w _
  go_enter Tryz.func6, Tryz.ntmps6
  go_wp2_with fail
  refine (HSM.out _ HK0.out).mono ?_
  rintro e w2 ⟨rfl, hk2⟩
  have HT2 := Lib.hid (HBT.out.keep hk2 (by simp))
  have HK2 := Lib.hid (HK0.out.trans hk2)
  obtain ⟨bt, hbt⟩ : ∃ b, w.heap.size = b := ⟨_, rfl⟩
  rw [hbt] at HT2 ⊢
  clear hk2 HBT HK0 hbt
  go_wp2_with fail
  refine (HDN.out _ HK2.out).mono ?_
  rintro e w4 ⟨rfl, hk4⟩
  have HK4 := Lib.hid (HK2.out.trans hk4)
  have HT4 := Lib.hid (HT2.out.keep hk4 (by simp))
  clear hk4 HT2 HDN HSM HK2
  have q0 : w4.cell? ⟨bt, 0, none⟩ = some (.slice A t.cols.length c) := HT4.out.cell 0
  have r0 : w4.cell? ⟨bt, 1, none⟩ = some (.slice B t.rows.length d) := HT4.out.cell 1
  have l0 : bt < w4.heap.size := HT4.out.lt
  go_wp2_with fail
  have HO1 : Hid (Calls Tryz.prog 11 #[.agg #[.int .i64 0, .int .i64 6, .slice none 0 0, .slice none 0 0, .slice none 0 0, .string ⟨#[]⟩, .string ⟨#[]⟩, .int .i64 0, .int .i64 0, .string ⟨#[]⟩, .string ⟨#[]⟩, .int .i64 0, .int .i64 0, .string ⟨#[]⟩, .int .i64 0], .slice (some ⟨w4.heap.size, 0, none⟩) 1 1] (w4.alloc (.cells #[.slice A t.cols.length c, .slice B t.rows.length d] 25)) fun e w' => (∃ A1 c1 B1 d1, e = .returned (.tuple #[.agg #[.slice A1 dt.cols.length c1, .slice B1 dt.rows.length d1], .bool true]) ∧ TabIn w' dt A1 B1 c1 d1) ∧ Keeps [] w4 w') := Lib.hid (oneT (j := jD) (by decide) HU1.out none 0 A B c d w4 _ rfl (HE.out.quiet HK4.out) Rd.nil (Nat.le_refl _) (by decide) (HIN.out.quiet HK4.out))
  with_reducible refine HO1.out.mono ?_
  rintro e v1 ⟨⟨A1, c1, B1, d1, rfl, ht1⟩, hk1⟩
  have kx1 : Keeps [] v1 (v1.alloc (.cells #[.slice A1 dt.cols.length c1, .slice B1 dt.rows.length d1] 25)) := (Keeps.refl _ _).alloc _
  have HK51 := Lib.hid ((HK4.out.trans hk1).trans kx1)
  have HX1 := Lib.hid (Blk.new v1 25 #[.slice A1 dt.cols.length c1, .slice B1 dt.rows.length d1])
  have HY1 := Lib.hid (ht1.quiet kx1)
  have HT5 := Lib.hid ((HT4.out.keep hk1 (by simp)).keep kx1 (by simp))
  clear hk1 ht1 kx1 q0 r0 l0 HT4 HO1 HU1
  go_wp2_with fail
  obtain ⟨x1, hx1⟩ : ∃ x, v1.alloc (.cells #[.slice A1 dt.cols.length c1, .slice B1 dt.rows.length d1] 25) = x := ⟨_, rfl⟩
  have hs1 : x1.heap.size = v1.heap.size + 1 := by rw [← hx1, size_alloc]
  rw [hx1] at HK51 HX1 HY1 HT5 ⊢
  obtain ⟨g1, hg1⟩ : ∃ g, v1.heap.size = g := ⟨_, rfl⟩
  rw [hg1] at HX1 hs1 ⊢
  have HO2 : Hid (Calls Tryz.prog 11 #[.agg #[.int .i64 0, .int .i64 6, .slice none 0 0, .slice none 0 0, .slice none 0 0, .string ⟨#[]⟩, .string ⟨#[]⟩, .int .i64 0, .int .i64 0, .string ⟨#[]⟩, .string ⟨#[]⟩, .int .i64 0, .int .i64 0, .string ⟨#[]⟩, .int .i64 0], .slice (some ⟨g1 + 1, 0, none⟩) 1 1] (x1.alloc (.cells #[.slice A1 dt.cols.length c1, .slice B1 dt.rows.length d1] 25)) fun e w' => (∃ A2 c2 B2 d2, e = .returned (.tuple #[.agg #[.slice A2 dt.cols.length c2, .slice B2 dt.rows.length d2], .bool true]) ∧ TabIn w' dt A2 B2 c2 d2) ∧ Keeps [] x1 w') := Lib.hid (oneT (j := jD) (by decide) HU2.out none 0 A1 B1 c1 d1 x1 (g1 + 1) hs1 (HE.out.quiet HK51.out) Rd.nil (Nat.le_refl _) (by decide) HY1.out)
  clear hx1 hg1 hs1
  with_reducible refine HO2.out.mono ?_
  rintro e v2 ⟨⟨A2, c2, B2, d2, rfl, ht2⟩, hk2⟩
  have kx2 : Keeps [] v2 (v2.alloc (.cells #[.slice A2 dt.cols.length c2, .slice B2 dt.rows.length d2] 25)) := (Keeps.refl _ _).alloc _
  have HK52 := Lib.hid ((HK51.out.trans hk2).trans kx2)
  have HX2 := Lib.hid (Blk.new v2 25 #[.slice A2 dt.cols.length c2, .slice B2 dt.rows.length d2])
  have HY2 := Lib.hid (ht2.quiet kx2)
  have HX1b := Lib.hid ((HX1.out.keep hk2 (by simp)).keep kx2 (by simp))
  have HT6 := Lib.hid ((HT5.out.keep hk2 (by simp)).keep kx2 (by simp))
  have HY1b := Lib.hid ((HY1.out.quiet hk2).quiet kx2)
  clear hk2 ht2 kx2 HT5 HX1 HY1 HK51 HO2 HU2
  go_wp2
  obtain ⟨x2, hx2⟩ : ∃ x, v2.alloc (.cells #[.slice A2 dt.cols.length c2, .slice B2 dt.rows.length d2] 25) = x := ⟨_, rfl⟩
  have hs2 : x2.heap.size = v2.heap.size + 1 := by rw [← hx2, size_alloc]
  rw [hx2] at HK52 HX2 HY2 HX1b HT6 HY1b ⊢
  obtain ⟨g2, hg2⟩ : ∃ g, v2.heap.size = g := ⟨_, rfl⟩
  rw [hg2] at HX2 hs2 ⊢
  clear hx2 hg2 hs2
  go_loopw [6, 7] (fun u i wx => ∃ (m : Nat) (v : Value), v = u ∧ m ≤ t.cols.length ∧ i = .int .i64 m ∧ wx.ownsRow x2.heap.size 9 1 v m (strs ((t.cols.map (fun x : Cl => x.name)).take m)) ∧ Keeps [] x2 wx) (fun _ i _ => t.cols.length - (intOf i).toNat)
  case atStart => exact ⟨0, _, rfl, Nat.zero_le _, rfl, World.ownsRow_nil _ _ _ _, Keeps.refl _ _⟩
  case round =>
    obtain ⟨m, v, rfl, hm, rfl, hown, hk⟩ := hrel
    have HO := Lib.hid hown
    have HK := Lib.hid hk
    have HKW := Lib.hid (HK52.out.trans hk)
    clear hown hk
    have q0 : wr.cell? ⟨bt, 0, none⟩ = some (.slice A t.cols.length c) := (HT6.out.keep HK.out (by simp)).cell 0
    have l0 : bt < wr.heap.size := (HT6.out.keep HK.out (by simp)).lt
    by_cases hlt : m < t.cols.length
    · obtain ⟨b7, o7, hAe, _, hb7, hcs⟩ := (HIN.out.quiet HKW.out).cols.open' (by omega) (by omega)
      have d1 := hcs _ _ (csCells_at t.cols m hlt).1
      have HST := Lib.hid (HNM.out m hlt)
      have hbd := Lib.hid (show m + 1 ≤ maxLen ∧ (m + 1) * 16 ≤ 140737488355328 by simp only [maxLen]; omega)
      have hz := HK.out.size
      subst hAe
      clear hcs
      generalize t.cols[m].name = nm at *
      have hi0 : (0 : Int) ≤ (m : Int) := by omega
      have hi2 : (m : Int) < (t.cols.length : Int) := by omega
      go_wp2_with (at_builtin; (refine wpList_append_lies _ rfl _ _ 30 rfl x2.heap.size 9 is _ 1 16 Tryz.underlying30 his hsz0 hsz1 hsz2 rfl (by decide) _ m (strs ((t.cols.map (fun x : Cl => x.name)).take m)) rfl (HO.out.alloc _) ⟨wr.heap.size, 0, none⟩ 1 1 [.string (bs nm)] rfl rfl (World.news_of_block (heap_alloc_new _ _)) (by simp [Value.oneCell']) (by decide) hbd.out.1 hbd.out.2 (by rw [size_alloc]; omega) _ rfl ?_); intro gw cap2 w8 hown8 hgrow8 hat8 hlt8)
      have HK8 := Lib.hid ((HK.out.alloc (.cells #[.string (bs nm)] 9)).grown hgrow8 (fun g hg => .inr (HO.out.lt g hg).1))
      rw [← HST.out] at hown8
      have HO8 := Lib.hid hown8
      clear hown8 hgrow8 hat8 hlt8
      go_wp2
      go_roundw
      case rel => exact ⟨m + 1, _, rfl, by omega, by go_num, HO8.out, HK8.out⟩
      case measure => simp [intOf]; omega
    · obtain rfl : m = t.cols.length := by omega
      have ho := HO.out
      rw [List.take_of_length_le (by rw [HNL.out]; exact Nat.le_refl _)] at ho
      obtain ⟨gn, cn, hv, hcn, _, _, _⟩ := own_some ho hln1
      subst hv
      have HRN : Hid (Rd wr [] 1 (some ⟨gn, 0, none⟩) (t.cols.map (fun x : Cl => x.name)).length (strs (t.cols.map (fun x : Cl => x.name)))) := Lib.hid (by rw [HNL.out]; exact Rd.of_own ho (fun _ _ => by simp))
      have HCN : Hid ((t.cols.map (fun x : Cl => x.name)).length ≤ cn) := Lib.hid (by rw [HNL.out]; exact hcn)
      have HX1c := Lib.hid (HX1b.out.keep HK.out (by simp))
      have HX2c := Lib.hid (HX2.out.keep HK.out (by simp))
      have HT7 := Lib.hid (HT6.out.keep HK.out (by simp))
      have HY1c := Lib.hid (HY1b.out.quiet HK.out)
      have HY2c := Lib.hid (HY2.out.quiet HK.out)
      have r0 : wr.cell? ⟨bt, 1, none⟩ = some (.slice B t.rows.length d) := HT7.out.cell 1
      clear ho hcn HO HX1b HX2 HT6 HY1b HY2
      go_wp2_with fail
      have HO3 : Hid (Calls Tryz.prog 11 #[.agg #[.int .i64 0, .int .i64 3, .slice none 0 0, .slice none 0 0, .slice (some ⟨gn, 0, none⟩) t.cols.length cn, .string ⟨#[]⟩, .string ⟨#[]⟩, .int .i64 0, .int .i64 0, .string ⟨#[]⟩, .string ⟨#[]⟩, .int .i64 0, .int .i64 0, .string ⟨#[]⟩, .int .i64 0], .slice (some ⟨wr.heap.size, 0, none⟩) 1 1] (wr.alloc (.cells #[.slice A t.cols.length c, .slice B t.rows.length d] 25)) fun e w' => (∃ A3 c3 B3 d3, e = .returned (.tuple #[.agg #[.slice A3 t.cols.length c3, .slice B3 t.rows.length d3], .bool true]) ∧ TabIn w' t A3 B3 c3 d3) ∧ Keeps [] wr w') := Lib.hid (by
        have h := oneT (j := jP (t.cols.map (fun x : Cl => x.name))) (.inr (.inr (.inl rfl))) HU3.out (some ⟨gn, 0, none⟩) cn A B c d wr _ rfl (HE.out.quiet HKW.out) HRN.out HCN.out (by show (t.cols.map (fun x : Cl => x.name)).length ≤ _; rw [HNL.out]; omega) (HIN.out.quiet HKW.out)
        have hj : jAgg (jP (t.cols.map (fun x : Cl => x.name))) none 0 none 0 0 (some ⟨gn, 0, none⟩) cn = .agg #[.int .i64 0, .int .i64 3, .slice none 0 0, .slice none 0 0, .slice (some ⟨gn, 0, none⟩) t.cols.length cn, .string ⟨#[]⟩, .string ⟨#[]⟩, .int .i64 0, .int .i64 0, .string ⟨#[]⟩, .string ⟨#[]⟩, .int .i64 0, .int .i64 0, .string ⟨#[]⟩, .int .i64 0] := congrArg (fun n => Value.agg #[.int .i64 0, .int .i64 3, .slice none 0 0, .slice none 0 0, .slice (some ⟨gn, 0, none⟩) n cn, .string ⟨#[]⟩, .string ⟨#[]⟩, .int .i64 0, .int .i64 0, .string ⟨#[]⟩, .string ⟨#[]⟩, .int .i64 0, .int .i64 0, .string ⟨#[]⟩, .int .i64 0]) HNL.out
        rw [hj] at h
        exact h)
      with_reducible refine HO3.out.mono ?_
      rintro e v3 ⟨⟨A3, c3, B3, d3, rfl, ht3⟩, hk3⟩
      have kx3 : Keeps [] v3 (v3.alloc (.cells #[.slice A3 t.cols.length c3, .slice B3 t.rows.length d3] 25)) := (Keeps.refl _ _).alloc _
      have HK53 := Lib.hid ((HKW.out.trans hk3).trans kx3)
      have HX3 := Lib.hid (Blk.new v3 25 #[.slice A3 t.cols.length c3, .slice B3 t.rows.length d3])
      have HY3 := Lib.hid (ht3.quiet kx3)
      have HX1d := Lib.hid ((HX1c.out.keep hk3 (by simp)).keep kx3 (by simp))
      have HX2d := Lib.hid ((HX2c.out.keep hk3 (by simp)).keep kx3 (by simp))
      have HT8 := Lib.hid ((HT7.out.keep hk3 (by simp)).keep kx3 (by simp))
      have HY1d := Lib.hid ((HY1c.out.quiet hk3).quiet kx3)
      have HY2d := Lib.hid ((HY2c.out.quiet hk3).quiet kx3)
      have HX1v := Lib.hid (HX1c.out.keep hk3 (by simp))
      have HX2v := Lib.hid (HX2c.out.keep hk3 (by simp))
      clear hk3 ht3 kx3 q0 l0 r0 HX1c HX2c HT7 HY1c HY2c HO3 HU3 HRN HCN
      have q1 : v3.cell? ⟨g2, 0, none⟩ = some (.slice A2 dt.cols.length c2) := HX2v.out.cell 0
      have r1 : v3.cell? ⟨g2, 1, none⟩ = some (.slice B2 dt.rows.length d2) := HX2v.out.cell 1
      have l1 : g2 < v3.heap.size := HX2v.out.lt
      have q2 : v3.cell? ⟨g1, 0, none⟩ = some (.slice A1 dt.cols.length c1) := HX1v.out.cell 0
      have r2 : v3.cell? ⟨g1, 1, none⟩ = some (.slice B1 dt.rows.length d1) := HX1v.out.cell 1
      have l2 : g1 < v3.heap.size := HX1v.out.lt
      go_wp2_with fail
      clear q1 r1 l1 q2 r2 l2 HX1v HX2v
      obtain ⟨x3, hx3⟩ : ∃ x, v3.alloc (.cells #[.slice A3 t.cols.length c3, .slice B3 t.rows.length d3] 25) = x := ⟨_, rfl⟩
      have hs3 : x3.heap.size = v3.heap.size + 1 := by rw [← hx3, size_alloc]
      rw [hx3] at HK53 HX3 HY3 HX1d HX2d HT8 HY1d HY2d ⊢
      obtain ⟨g3, hg3⟩ : ∃ g, v3.heap.size = g := ⟨_, rfl⟩
      rw [hg3] at HX3 hs3 ⊢
      clear hx3 hg3 hs3
      have HS1 : Hid (∀ W, Keeps [] x3 W → Calls Tryz.prog 19 #[.agg #[.slice A2 dt.cols.length c2, .slice B2 dt.rows.length d2], .agg #[.slice A1 dt.cols.length c1, .slice B1 dt.rows.length d1]] W fun e W' => e = .returned (.bool true) ∧ Keeps [] W W') := Lib.hid fun W q => by
        have h := same_any dt dt A2 B2 A1 B1 c2 d2 c1 d1 W (HY2d.out.quiet q).rd (HY1d.out.quiet q).rd
        rw [decide_eq_true rfl] at h
        exact h
      have HS2 : Hid (∀ W, Keeps [] x3 W → Calls Tryz.prog 19 #[.agg #[.slice A3 t.cols.length c3, .slice B3 t.rows.length d3], .agg #[.slice A t.cols.length c, .slice B t.rows.length d]] W fun e W' => e = .returned (.bool true) ∧ Keeps [] W W') := Lib.hid fun W q => by
        have h := same_any t t A3 B3 A B c3 d3 c d W (HY3.out.quiet q).rd (HIN.out.quiet (HK53.out.trans q)).rd
        rw [decide_eq_true rfl] at h
        exact h
      refine (HS1.out _ (Keeps.refl _ _)).mono ?_
      rintro e y1 ⟨rfl, ky1⟩
      have HKy1 := Lib.hid ky1
      have HX3y := Lib.hid (HX3.out.keep ky1 (by simp))
      have HT9 := Lib.hid (HT8.out.keep ky1 (by simp))
      clear ky1
      have q1 : y1.cell? ⟨g3, 0, none⟩ = some (.slice A3 t.cols.length c3) := HX3y.out.cell 0
      have r1 : y1.cell? ⟨g3, 1, none⟩ = some (.slice B3 t.rows.length d3) := HX3y.out.cell 1
      have l1 : g3 < y1.heap.size := HX3y.out.lt
      have q2 : y1.cell? ⟨bt, 0, none⟩ = some (.slice A t.cols.length c) := HT9.out.cell 0
      have r2 : y1.cell? ⟨bt, 1, none⟩ = some (.slice B t.rows.length d) := HT9.out.cell 1
      have l2 : bt < y1.heap.size := HT9.out.lt
      go_wp2_with fail
      clear q1 r1 l1 q2 r2 l2
      refine (HS2.out _ HKy1.out).mono ?_
      rintro e y2 ⟨rfl, ky2⟩
      have HKy2 := Lib.hid (HKy1.out.trans ky2)
      have HKY := Lib.hid (HK53.out.trans HKy2.out)
      have HTa := Lib.hid (HT9.out.keep ky2 (by simp))
      have HX1e := Lib.hid (HX1d.out.keep HKy2.out (by simp))
      have HY1e := Lib.hid (HY1d.out.quiet HKy2.out)
      clear ky2 HT8 HT9 HX3 HX3y HX2d HY2d HY3 HX1d HY1d HS1 HS2
      have q1 : y2.cell? ⟨bt, 0, none⟩ = some (.slice A t.cols.length c) := HTa.out.cell 0
      have r1 : y2.cell? ⟨bt, 1, none⟩ = some (.slice B t.rows.length d) := HTa.out.cell 1
      have l1 : bt < y2.heap.size := HTa.out.lt
      go_wp2_with fail
      clear q1 r1 l1
      have HO4 : Hid (Calls Tryz.prog 11 #[.agg #[.int .i64 0, .int .i64 5, .slice none 0 0, .slice none 0 0, .slice none 0 0, .string ⟨#[]⟩, .string ⟨#[]⟩, .int .i64 0, .int .i64 0, .string ⟨#[]⟩, .string ⟨#[]⟩, .int .i64 0, .int .i64 0, .string ⟨#[]⟩, .int .i64 0], .slice (some ⟨y2.heap.size, 0, none⟩) 2 2] (y2.alloc (.cells #[.slice A t.cols.length c, .slice B t.rows.length d, .slice A t.cols.length c, .slice B t.rows.length d] 25)) fun e w' => (∃ A4 c4 B4 d4, e = .returned (.tuple #[.agg #[.slice A4 tw.cols.length c4, .slice B4 tw.rows.length d4], .bool true]) ∧ TabIn w' tw A4 B4 c4 d4) ∧ Keeps [] y2 w') := Lib.hid (oneT2 (j := jU) (by decide) HU4.out none 0 A B c d A B c d y2 _ rfl (HE.out.quiet HKY.out) Rd.nil (Nat.le_refl _) (by decide) (HIN.out.quiet HKY.out) (HIN.out.quiet HKY.out))
      with_reducible refine HO4.out.mono ?_
      rintro e v4 ⟨⟨A4, c4, B4, d4, rfl, ht4⟩, hk4⟩
      have kx4 : Keeps [] v4 (v4.alloc (.cells #[.slice A4 tw.cols.length c4, .slice B4 tw.rows.length d4] 25)) := (Keeps.refl _ _).alloc _
      have HK54 := Lib.hid ((HKY.out.trans hk4).trans kx4)
      have HX4 := Lib.hid (Blk.new v4 25 #[.slice A4 tw.cols.length c4, .slice B4 tw.rows.length d4])
      have HY4 := Lib.hid (ht4.quiet kx4)
      have HX1f := Lib.hid ((HX1e.out.keep hk4 (by simp)).keep kx4 (by simp))
      have HY1f := Lib.hid ((HY1e.out.quiet hk4).quiet kx4)
      clear hk4 ht4 kx4 HX1e HY1e HO4 HU4 HTa
      go_wp2_with fail
      obtain ⟨x4, hx4⟩ : ∃ x, v4.alloc (.cells #[.slice A4 tw.cols.length c4, .slice B4 tw.rows.length d4] 25) = x := ⟨_, rfl⟩
      have hs4 : x4.heap.size = v4.heap.size + 1 := by rw [← hx4, size_alloc]
      rw [hx4] at HK54 HX4 HY4 HX1f HY1f ⊢
      obtain ⟨g4, hg4⟩ : ∃ g, v4.heap.size = g := ⟨_, rfl⟩
      rw [hg4] at HX4 hs4 ⊢
      have HO5 : Hid (Calls Tryz.prog 11 #[.agg #[.int .i64 0, .int .i64 6, .slice none 0 0, .slice none 0 0, .slice none 0 0, .string ⟨#[]⟩, .string ⟨#[]⟩, .int .i64 0, .int .i64 0, .string ⟨#[]⟩, .string ⟨#[]⟩, .int .i64 0, .int .i64 0, .string ⟨#[]⟩, .int .i64 0], .slice (some ⟨g4 + 1, 0, none⟩) 1 1] (x4.alloc (.cells #[.slice A4 tw.cols.length c4, .slice B4 tw.rows.length d4] 25)) fun e w' => (∃ A5 c5 B5 d5, e = .returned (.tuple #[.agg #[.slice A5 dt.cols.length c5, .slice B5 dt.rows.length d5], .bool true]) ∧ TabIn w' dt A5 B5 c5 d5) ∧ Keeps [] x4 w') := Lib.hid (oneT (j := jD) (by decide) HU5.out none 0 A4 B4 c4 d4 x4 (g4 + 1) hs4 (HE.out.quiet HK54.out) Rd.nil (Nat.le_refl _) (by decide) HY4.out)
      clear hx4 hg4 hs4
      with_reducible refine HO5.out.mono ?_
      rintro e v5 ⟨⟨A5, c5, B5, d5, rfl, ht5⟩, hk5⟩
      have kx5 : Keeps [] v5 (v5.alloc (.cells #[.slice A5 dt.cols.length c5, .slice B5 dt.rows.length d5] 25)) := (Keeps.refl _ _).alloc _
      have HK55 := Lib.hid ((HK54.out.trans hk5).trans kx5)
      have HX5 := Lib.hid (Blk.new v5 25 #[.slice A5 dt.cols.length c5, .slice B5 dt.rows.length d5])
      have HY5 := Lib.hid (ht5.quiet kx5)
      have HX1g := Lib.hid ((HX1f.out.keep hk5 (by simp)).keep kx5 (by simp))
      have HY1g := Lib.hid ((HY1f.out.quiet hk5).quiet kx5)
      have HX1v := Lib.hid (HX1f.out.keep hk5 (by simp))
      clear hk5 ht5 kx5 HX1f HY1f HO5 HU5
      have q1 : v5.cell? ⟨g1, 0, none⟩ = some (.slice A1 dt.cols.length c1) := HX1v.out.cell 0
      have r1 : v5.cell? ⟨g1, 1, none⟩ = some (.slice B1 dt.rows.length d1) := HX1v.out.cell 1
      have l1 : g1 < v5.heap.size := HX1v.out.lt
      go_wp2_with fail
      clear q1 r1 l1
      obtain ⟨x5, hx5⟩ : ∃ x, v5.alloc (.cells #[.slice A5 dt.cols.length c5, .slice B5 dt.rows.length d5] 25) = x := ⟨_, rfl⟩
      have hs5 : x5.heap.size = v5.heap.size + 1 := by rw [← hx5, size_alloc]
      rw [hx5] at HK55 HX5 HY5 HX1g HY1g ⊢
      obtain ⟨g5, hg5⟩ : ∃ g, v5.heap.size = g := ⟨_, rfl⟩
      rw [hg5] at HX5 hs5 ⊢
      clear hx5 hg5 hs5
      have h := same_any dt dt A5 B5 A1 B1 c5 d5 c1 d1 x5 HY5.out.rd HY1g.out.rd
      rw [decide_eq_true rfl] at h
      refine Calls.mono h ?_
      rintro e z ⟨rfl, kz⟩
      go_wp2
      go_ret
      exact ⟨rfl, HK55.out.trans kz⟩
set_option maxHeartbeats 8000000 in
set_option maxRecDepth 40000 in
theorem oonce_2 (t : Tb) (A B : Option Addr) (c d : Nat) (w : World) (hT : TabAny w t A B c d) (hE : OEnv w) (hsm : smallB t = true) (hr : rightB t = true) (hl : 60 < 2 * t.rows.length) :
    Calls Tryz.prog 6 #[tAgg A t.cols.length c B t.rows.length d] w fun e w' => e = .returned (.bool true) ∧ Keeps [] w w' := by
  have HSM : Hid (∀ W, Keeps [] w W → Calls Tryz.prog 9 #[.agg #[.slice A t.cols.length c, .slice B t.rows.length d]] W fun e W' => e = .returned (.bool (smallB t)) ∧ Keeps [] W W') := Lib.hid fun W q => small_any t A B c d W (hT.cols.keep q) (hT.rows.keep q)
  have HDN := Lib.hid (fun W (q : Keeps [] w W) => done_any W (hE.quiet q))
  rw [hsm] at HSM
  have HIN := Lib.hid (hT.inn hsm).1
  have HTB := Lib.hid HIN.out.tbB
  have HE := Lib.hid hE
  have HBT := Lib.hid (Blk.new w 25 #[.slice A t.cols.length c, .slice B t.rows.length d])
  have HK0 : Hid (Keeps [] w (w.alloc (.cells #[.slice A t.cols.length c, .slice B t.rows.length d] 25))) := Lib.hid ((Keeps.refl _ _).alloc _)
  clear hT hE hsm
  have HU1 := Lib.hid (once_d hr)
  have HU2 := Lib.hid (once_dd hr)
  have HU3 := Lib.hid (once_all hr)
  obtain ⟨is, his, hsz0, hsz1, hsz2⟩ := info_parts sinfo
  have hln1 : 1 ≤ t.cols.length := (colsB_iff.1 (rightB_parts.1 hr).1).1
  have HU4 := Lib.hid (once_uno hl)
  have h60 : (60 : Int) < 2 * (t.rows.length : Int) := by omega
  have hr60 := right_rows hr
  clear hl
  have HNL : Hid ((t.cols.map (·.name)).length = t.cols.length) := Lib.hid (List.length_map ..)
  have HNM : Hid (∀ i (h : i < t.cols.length), strs ((t.cols.map (·.name)).take (i + 1)) = strs ((t.cols.map (·.name)).take i) ++ [.string (bs t.cols[i].name)]) := Lib.hid fun i h => by
    rw [List.take_succ_eq_append_getElem (by rw [List.length_map]; exact h), strs_snoc, List.getElem_map]
  have hln6 : t.cols.length ≤ 6 := (rightB_of hr).2.1
  generalize distT t = dt at *
  clear hr
  show Calls _ _ #[.agg #[.slice A t.cols.length c, .slice B t.rows.length d]] w _
  go_enter Tryz.func6, Tryz.ntmps6
  go_wp2_with fail
  refine (HSM.out _ HK0.out).mono ?_
  rintro e w2 ⟨rfl, hk2⟩
  have HT2 := Lib.hid (HBT.out.keep hk2 (by simp))
  have HK2 := Lib.hid (HK0.out.trans hk2)
  obtain ⟨bt, hbt⟩ : ∃ b, w.heap.size = b := ⟨_, rfl⟩
  rw [hbt] at HT2 ⊢
  clear hk2 HBT HK0 hbt
  go_wp2_with fail
  refine (HDN.out _ HK2.out).mono ?_
  rintro e w4 ⟨rfl, hk4⟩
  have HK4 := Lib.hid (HK2.out.trans hk4)
  have HT4 := Lib.hid (HT2.out.keep hk4 (by simp))
  clear hk4 HT2 HDN HSM HK2
  have q0 : w4.cell? ⟨bt, 0, none⟩ = some (.slice A t.cols.length c) := HT4.out.cell 0
  have r0 : w4.cell? ⟨bt, 1, none⟩ = some (.slice B t.rows.length d) := HT4.out.cell 1
  have l0 : bt < w4.heap.size := HT4.out.lt
  go_wp2_with fail
  have HO1 : Hid (Calls Tryz.prog 11 #[.agg #[.int .i64 0, .int .i64 6, .slice none 0 0, .slice none 0 0, .slice none 0 0, .string ⟨#[]⟩, .string ⟨#[]⟩, .int .i64 0, .int .i64 0, .string ⟨#[]⟩, .string ⟨#[]⟩, .int .i64 0, .int .i64 0, .string ⟨#[]⟩, .int .i64 0], .slice (some ⟨w4.heap.size, 0, none⟩) 1 1] (w4.alloc (.cells #[.slice A t.cols.length c, .slice B t.rows.length d] 25)) fun e w' => (∃ A1 c1 B1 d1, e = .returned (.tuple #[.agg #[.slice A1 dt.cols.length c1, .slice B1 dt.rows.length d1], .bool true]) ∧ TabIn w' dt A1 B1 c1 d1) ∧ Keeps [] w4 w') := Lib.hid (oneT (j := jD) (by decide) HU1.out none 0 A B c d w4 _ rfl (HE.out.quiet HK4.out) Rd.nil (Nat.le_refl _) (by decide) (HIN.out.quiet HK4.out))
  with_reducible refine HO1.out.mono ?_
  rintro e v1 ⟨⟨A1, c1, B1, d1, rfl, ht1⟩, hk1⟩
  have kx1 : Keeps [] v1 (v1.alloc (.cells #[.slice A1 dt.cols.length c1, .slice B1 dt.rows.length d1] 25)) := (Keeps.refl _ _).alloc _
  have HK51 := Lib.hid ((HK4.out.trans hk1).trans kx1)
  have HX1 := Lib.hid (Blk.new v1 25 #[.slice A1 dt.cols.length c1, .slice B1 dt.rows.length d1])
  have HY1 := Lib.hid (ht1.quiet kx1)
  have HT5 := Lib.hid ((HT4.out.keep hk1 (by simp)).keep kx1 (by simp))
  clear hk1 ht1 kx1 q0 r0 l0 HT4 HO1 HU1
  go_wp2_with fail
  obtain ⟨x1, hx1⟩ : ∃ x, v1.alloc (.cells #[.slice A1 dt.cols.length c1, .slice B1 dt.rows.length d1] 25) = x := ⟨_, rfl⟩
  have hs1 : x1.heap.size = v1.heap.size + 1 := by rw [← hx1, size_alloc]
  rw [hx1] at HK51 HX1 HY1 HT5 ⊢
  obtain ⟨g1, hg1⟩ : ∃ g, v1.heap.size = g := ⟨_, rfl⟩
  rw [hg1] at HX1 hs1 ⊢
  have HO2 : Hid (Calls Tryz.prog 11 #[.agg #[.int .i64 0, .int .i64 6, .slice none 0 0, .slice none 0 0, .slice none 0 0, .string ⟨#[]⟩, .string ⟨#[]⟩, .int .i64 0, .int .i64 0, .string ⟨#[]⟩, .string ⟨#[]⟩, .int .i64 0, .int .i64 0, .string ⟨#[]⟩, .int .i64 0], .slice (some ⟨g1 + 1, 0, none⟩) 1 1] (x1.alloc (.cells #[.slice A1 dt.cols.length c1, .slice B1 dt.rows.length d1] 25)) fun e w' => (∃ A2 c2 B2 d2, e = .returned (.tuple #[.agg #[.slice A2 dt.cols.length c2, .slice B2 dt.rows.length d2], .bool true]) ∧ TabIn w' dt A2 B2 c2 d2) ∧ Keeps [] x1 w') := Lib.hid (oneT (j := jD) (by decide) HU2.out none 0 A1 B1 c1 d1 x1 (g1 + 1) hs1 (HE.out.quiet HK51.out) Rd.nil (Nat.le_refl _) (by decide) HY1.out)
  clear hx1 hg1 hs1
  with_reducible refine HO2.out.mono ?_
  rintro e v2 ⟨⟨A2, c2, B2, d2, rfl, ht2⟩, hk2⟩
  have kx2 : Keeps [] v2 (v2.alloc (.cells #[.slice A2 dt.cols.length c2, .slice B2 dt.rows.length d2] 25)) := (Keeps.refl _ _).alloc _
  have HK52 := Lib.hid ((HK51.out.trans hk2).trans kx2)
  have HX2 := Lib.hid (Blk.new v2 25 #[.slice A2 dt.cols.length c2, .slice B2 dt.rows.length d2])
  have HY2 := Lib.hid (ht2.quiet kx2)
  have HX1b := Lib.hid ((HX1.out.keep hk2 (by simp)).keep kx2 (by simp))
  have HT6 := Lib.hid ((HT5.out.keep hk2 (by simp)).keep kx2 (by simp))
  have HY1b := Lib.hid ((HY1.out.quiet hk2).quiet kx2)
  clear hk2 ht2 kx2 HT5 HX1 HY1 HK51 HO2 HU2
  go_wp2
  obtain ⟨x2, hx2⟩ : ∃ x, v2.alloc (.cells #[.slice A2 dt.cols.length c2, .slice B2 dt.rows.length d2] 25) = x := ⟨_, rfl⟩
  have hs2 : x2.heap.size = v2.heap.size + 1 := by rw [← hx2, size_alloc]
  rw [hx2] at HK52 HX2 HY2 HX1b HT6 HY1b ⊢
  obtain ⟨g2, hg2⟩ : ∃ g, v2.heap.size = g := ⟨_, rfl⟩
  rw [hg2] at HX2 hs2 ⊢
  clear hx2 hg2 hs2
  go_loopw [6, 7] (fun u i wx => ∃ (m : Nat) (v : Value), v = u ∧ m ≤ t.cols.length ∧ i = .int .i64 m ∧ wx.ownsRow x2.heap.size 9 1 v m (strs ((t.cols.map (fun x : Cl => x.name)).take m)) ∧ Keeps [] x2 wx) (fun _ i _ => t.cols.length - (intOf i).toNat)
  case atStart => exact ⟨0, _, rfl, Nat.zero_le _, rfl, World.ownsRow_nil _ _ _ _, Keeps.refl _ _⟩
  case round =>
    obtain ⟨m, v, rfl, hm, rfl, hown, hk⟩ := hrel
    have HO := Lib.hid hown
    have HK := Lib.hid hk
    have HKW := Lib.hid (HK52.out.trans hk)
    clear hown hk
    have q0 : wr.cell? ⟨bt, 0, none⟩ = some (.slice A t.cols.length c) := (HT6.out.keep HK.out (by simp)).cell 0
    have l0 : bt < wr.heap.size := (HT6.out.keep HK.out (by simp)).lt
    by_cases hlt : m < t.cols.length
    · obtain ⟨b7, o7, hAe, _, hb7, hcs⟩ := (HIN.out.quiet HKW.out).cols.open' (by omega) (by omega)
      have d1 := hcs _ _ (csCells_at t.cols m hlt).1
      have HST := Lib.hid (HNM.out m hlt)
      have hbd := Lib.hid (show m + 1 ≤ maxLen ∧ (m + 1) * 16 ≤ 140737488355328 by simp only [maxLen]; omega)
      have hz := HK.out.size
      subst hAe
      clear hcs
      generalize t.cols[m].name = nm at *
      have hi0 : (0 : Int) ≤ (m : Int) := by omega
      have hi2 : (m : Int) < (t.cols.length : Int) := by omega
      go_wp2_with (at_builtin; (refine wpList_append_lies _ rfl _ _ 30 rfl x2.heap.size 9 is _ 1 16 Tryz.underlying30 his hsz0 hsz1 hsz2 rfl (by decide) _ m (strs ((t.cols.map (fun x : Cl => x.name)).take m)) rfl (HO.out.alloc _) ⟨wr.heap.size, 0, none⟩ 1 1 [.string (bs nm)] rfl rfl (World.news_of_block (heap_alloc_new _ _)) (by simp [Value.oneCell']) (by decide) hbd.out.1 hbd.out.2 (by rw [size_alloc]; omega) _ rfl ?_); intro gw cap2 w8 hown8 hgrow8 hat8 hlt8)
      have HK8 := Lib.hid ((HK.out.alloc (.cells #[.string (bs nm)] 9)).grown hgrow8 (fun g hg => .inr (HO.out.lt g hg).1))
      rw [← HST.out] at hown8
      have HO8 := Lib.hid hown8
      clear hown8 hgrow8 hat8 hlt8
      go_wp2
      go_roundw
      case rel => exact ⟨m + 1, _, rfl, by omega, by go_num, HO8.out, HK8.out⟩
      case measure => simp [intOf]; omega
    · obtain rfl : m = t.cols.length := by omega
      have ho := HO.out
      rw [List.take_of_length_le (by rw [HNL.out]; exact Nat.le_refl _)] at ho
      obtain ⟨gn, cn, hv, hcn, _, _, _⟩ := own_some ho hln1
      subst hv
      have HRN : Hid (Rd wr [] 1 (some ⟨gn, 0, none⟩) (t.cols.map (fun x : Cl => x.name)).length (strs (t.cols.map (fun x : Cl => x.name)))) := Lib.hid (by rw [HNL.out]; exact Rd.of_own ho (fun _ _ => by simp))
      have HCN : Hid ((t.cols.map (fun x : Cl => x.name)).length ≤ cn) := Lib.hid (by rw [HNL.out]; exact hcn)
      have HX1c := Lib.hid (HX1b.out.keep HK.out (by simp))
      have HX2c := Lib.hid (HX2.out.keep HK.out (by simp))
      have HT7 := Lib.hid (HT6.out.keep HK.out (by simp))
      have HY1c := Lib.hid (HY1b.out.quiet HK.out)
      have HY2c := Lib.hid (HY2.out.quiet HK.out)
      have r0 : wr.cell? ⟨bt, 1, none⟩ = some (.slice B t.rows.length d) := HT7.out.cell 1
      clear ho hcn HO HX1b HX2 HT6 HY1b HY2
      go_wp2_with fail
      have HO3 : Hid (Calls Tryz.prog 11 #[.agg #[.int .i64 0, .int .i64 3, .slice none 0 0, .slice none 0 0, .slice (some ⟨gn, 0, none⟩) t.cols.length cn, .string ⟨#[]⟩, .string ⟨#[]⟩, .int .i64 0, .int .i64 0, .string ⟨#[]⟩, .string ⟨#[]⟩, .int .i64 0, .int .i64 0, .string ⟨#[]⟩, .int .i64 0], .slice (some ⟨wr.heap.size, 0, none⟩) 1 1] (wr.alloc (.cells #[.slice A t.cols.length c, .slice B t.rows.length d] 25)) fun e w' => (∃ A3 c3 B3 d3, e = .returned (.tuple #[.agg #[.slice A3 t.cols.length c3, .slice B3 t.rows.length d3], .bool true]) ∧ TabIn w' t A3 B3 c3 d3) ∧ Keeps [] wr w') := Lib.hid (by
        have h := oneT (j := jP (t.cols.map (fun x : Cl => x.name))) (.inr (.inr (.inl rfl))) HU3.out (some ⟨gn, 0, none⟩) cn A B c d wr _ rfl (HE.out.quiet HKW.out) HRN.out HCN.out (by show (t.cols.map (fun x : Cl => x.name)).length ≤ _; rw [HNL.out]; omega) (HIN.out.quiet HKW.out)
        have hj : jAgg (jP (t.cols.map (fun x : Cl => x.name))) none 0 none 0 0 (some ⟨gn, 0, none⟩) cn = .agg #[.int .i64 0, .int .i64 3, .slice none 0 0, .slice none 0 0, .slice (some ⟨gn, 0, none⟩) t.cols.length cn, .string ⟨#[]⟩, .string ⟨#[]⟩, .int .i64 0, .int .i64 0, .string ⟨#[]⟩, .string ⟨#[]⟩, .int .i64 0, .int .i64 0, .string ⟨#[]⟩, .int .i64 0] := congrArg (fun n => Value.agg #[.int .i64 0, .int .i64 3, .slice none 0 0, .slice none 0 0, .slice (some ⟨gn, 0, none⟩) n cn, .string ⟨#[]⟩, .string ⟨#[]⟩, .int .i64 0, .int .i64 0, .string ⟨#[]⟩, .string ⟨#[]⟩, .int .i64 0, .int .i64 0, .string ⟨#[]⟩, .int .i64 0]) HNL.out
        rw [hj] at h
        exact h)
      with_reducible refine HO3.out.mono ?_
      rintro e v3 ⟨⟨A3, c3, B3, d3, rfl, ht3⟩, hk3⟩
      have kx3 : Keeps [] v3 (v3.alloc (.cells #[.slice A3 t.cols.length c3, .slice B3 t.rows.length d3] 25)) := (Keeps.refl _ _).alloc _
      have HK53 := Lib.hid ((HKW.out.trans hk3).trans kx3)
      have HX3 := Lib.hid (Blk.new v3 25 #[.slice A3 t.cols.length c3, .slice B3 t.rows.length d3])
      have HY3 := Lib.hid (ht3.quiet kx3)
      have HX1d := Lib.hid ((HX1c.out.keep hk3 (by simp)).keep kx3 (by simp))
      have HX2d := Lib.hid ((HX2c.out.keep hk3 (by simp)).keep kx3 (by simp))
      have HT8 := Lib.hid ((HT7.out.keep hk3 (by simp)).keep kx3 (by simp))
      have HY1d := Lib.hid ((HY1c.out.quiet hk3).quiet kx3)
      have HY2d := Lib.hid ((HY2c.out.quiet hk3).quiet kx3)
      have HX1v := Lib.hid (HX1c.out.keep hk3 (by simp))
      have HX2v := Lib.hid (HX2c.out.keep hk3 (by simp))
      clear hk3 ht3 kx3 q0 l0 r0 HX1c HX2c HT7 HY1c HY2c HO3 HU3 HRN HCN
      have q1 : v3.cell? ⟨g2, 0, none⟩ = some (.slice A2 dt.cols.length c2) := HX2v.out.cell 0
      have r1 : v3.cell? ⟨g2, 1, none⟩ = some (.slice B2 dt.rows.length d2) := HX2v.out.cell 1
      have l1 : g2 < v3.heap.size := HX2v.out.lt
      have q2 : v3.cell? ⟨g1, 0, none⟩ = some (.slice A1 dt.cols.length c1) := HX1v.out.cell 0
      have r2 : v3.cell? ⟨g1, 1, none⟩ = some (.slice B1 dt.rows.length d1) := HX1v.out.cell 1
      have l2 : g1 < v3.heap.size := HX1v.out.lt
      go_wp2_with fail
      clear q1 r1 l1 q2 r2 l2 HX1v HX2v
      obtain ⟨x3, hx3⟩ : ∃ x, v3.alloc (.cells #[.slice A3 t.cols.length c3, .slice B3 t.rows.length d3] 25) = x := ⟨_, rfl⟩
      have hs3 : x3.heap.size = v3.heap.size + 1 := by rw [← hx3, size_alloc]
      rw [hx3] at HK53 HX3 HY3 HX1d HX2d HT8 HY1d HY2d ⊢
      obtain ⟨g3, hg3⟩ : ∃ g, v3.heap.size = g := ⟨_, rfl⟩
      rw [hg3] at HX3 hs3 ⊢
      clear hx3 hg3 hs3
      have HS1 : Hid (∀ W, Keeps [] x3 W → Calls Tryz.prog 19 #[.agg #[.slice A2 dt.cols.length c2, .slice B2 dt.rows.length d2], .agg #[.slice A1 dt.cols.length c1, .slice B1 dt.rows.length d1]] W fun e W' => e = .returned (.bool true) ∧ Keeps [] W W') := Lib.hid fun W q => by
        have h := same_any dt dt A2 B2 A1 B1 c2 d2 c1 d1 W (HY2d.out.quiet q).rd (HY1d.out.quiet q).rd
        rw [decide_eq_true rfl] at h
        exact h
      have HS2 : Hid (∀ W, Keeps [] x3 W → Calls Tryz.prog 19 #[.agg #[.slice A3 t.cols.length c3, .slice B3 t.rows.length d3], .agg #[.slice A t.cols.length c, .slice B t.rows.length d]] W fun e W' => e = .returned (.bool true) ∧ Keeps [] W W') := Lib.hid fun W q => by
        have h := same_any t t A3 B3 A B c3 d3 c d W (HY3.out.quiet q).rd (HIN.out.quiet (HK53.out.trans q)).rd
        rw [decide_eq_true rfl] at h
        exact h
      refine (HS1.out _ (Keeps.refl _ _)).mono ?_
      rintro e y1 ⟨rfl, ky1⟩
      have HKy1 := Lib.hid ky1
      have HX3y := Lib.hid (HX3.out.keep ky1 (by simp))
      have HT9 := Lib.hid (HT8.out.keep ky1 (by simp))
      clear ky1
      have q1 : y1.cell? ⟨g3, 0, none⟩ = some (.slice A3 t.cols.length c3) := HX3y.out.cell 0
      have r1 : y1.cell? ⟨g3, 1, none⟩ = some (.slice B3 t.rows.length d3) := HX3y.out.cell 1
      have l1 : g3 < y1.heap.size := HX3y.out.lt
      have q2 : y1.cell? ⟨bt, 0, none⟩ = some (.slice A t.cols.length c) := HT9.out.cell 0
      have r2 : y1.cell? ⟨bt, 1, none⟩ = some (.slice B t.rows.length d) := HT9.out.cell 1
      have l2 : bt < y1.heap.size := HT9.out.lt
      go_wp2_with fail
      clear q1 r1 l1 q2 r2 l2
      refine (HS2.out _ HKy1.out).mono ?_
      rintro e y2 ⟨rfl, ky2⟩
      have HKy2 := Lib.hid (HKy1.out.trans ky2)
      have HKY := Lib.hid (HK53.out.trans HKy2.out)
      have HTa := Lib.hid (HT9.out.keep ky2 (by simp))
      have HX1e := Lib.hid (HX1d.out.keep HKy2.out (by simp))
      have HY1e := Lib.hid (HY1d.out.quiet HKy2.out)
      clear ky2 HT8 HT9 HX3 HX3y HX2d HY2d HY3 HX1d HY1d HS1 HS2
      have q1 : y2.cell? ⟨bt, 0, none⟩ = some (.slice A t.cols.length c) := HTa.out.cell 0
      have r1 : y2.cell? ⟨bt, 1, none⟩ = some (.slice B t.rows.length d) := HTa.out.cell 1
      have l1 : bt < y2.heap.size := HTa.out.lt
      go_wp2_with fail
      clear q1 r1 l1
      have HO4 : Hid (Calls Tryz.prog 11 #[.agg #[.int .i64 0, .int .i64 5, .slice none 0 0, .slice none 0 0, .slice none 0 0, .string ⟨#[]⟩, .string ⟨#[]⟩, .int .i64 0, .int .i64 0, .string ⟨#[]⟩, .string ⟨#[]⟩, .int .i64 0, .int .i64 0, .string ⟨#[]⟩, .int .i64 0], .slice (some ⟨y2.heap.size, 0, none⟩) 2 2] (y2.alloc (.cells #[.slice A t.cols.length c, .slice B t.rows.length d, .slice A t.cols.length c, .slice B t.rows.length d] 25)) fun e w' => e = .returned (.tuple #[.agg #[.slice none 0 0, .slice none 0 0], .bool false]) ∧ Keeps [] y2 w') := Lib.hid (oneN2 (j := jU) (by decide) HU4.out none 0 A B c d A B c d y2 _ rfl (HE.out.quiet HKY.out) Rd.nil (Nat.le_refl _) (by decide) (HIN.out.quiet HKY.out) (HIN.out.quiet HKY.out))
      with_reducible refine HO4.out.mono ?_
      rintro e v4 ⟨rfl, hk4⟩
      have HKz := Lib.hid (HKY.out.trans hk4)
      have HTb := Lib.hid (HTa.out.keep hk4 (by simp))
      clear hk4 HO4 HU4 HTa HX1e HY1e
      have q1 : v4.cell? ⟨bt, 0, none⟩ = some (.slice A t.cols.length c) := HTb.out.cell 0
      have r1 : v4.cell? ⟨bt, 1, none⟩ = some (.slice B t.rows.length d) := HTb.out.cell 1
      have l1 : bt < v4.heap.size := HTb.out.lt
      go_wp2
      go_ret
      exact ⟨rfl, HKz.out.alloc _⟩
theorem oonce_all (t : Tb) (A B : Option Addr) (c d : Nat) (w : World) (hT : TabAny w t A B c d) (hE : OEnv w) :
    Calls Tryz.prog 6 #[tAgg A t.cols.length c B t.rows.length d] w fun e w' => e = .returned (.bool true) ∧ Keeps [] w w' := by
  cases hsm : smallB t with
  | false => exact oonce_0 t A B c d w hT hE hsm
  | true =>
    cases hr : rightB t with
    | false => exact oonce_1 t A B c d w hT hE hsm hr
    | true =>
      by_cases hl : 2 * t.rows.length ≤ 60
      · exact oonce_3 t A B c d w hT hE hsm hr hl
      · exact oonce_2 t A B c d w hT hE hsm hr (by omega)
end Go.Proofs.YtomgnjgaafnkiaaGreatDoor
namespace Go.Proofs.YtomgnjgaafnkiaaGreatDoor
open Go.RowKit Go.Shelf Go.ChangeShapes Go.WideShapes
/-- A row's wrap: the condition and the world's shape, both handed to the contract. -/
theorem returns_shaped {H : Type} {enc : TypeId × Value → H} {a : Assume} {C : Checked} {os : Os} {f : FuncId} {fn : Func} {s : ChangeSpec} {conds : List PathCond} {apart fresh handsOn again : Bool} {X : World → Array Value → Prop}
    (hX : ∀ (w w' : World) (args : Array Value), w.heap = w'.heap → X w args → X w' args)
    (own : ownKnob C.prog.godebug = none) (started : os.Started) (noInit : C.prog.inits.idxOf? f = none) (hfn : C.prog.funcs[f]? = some fn)
    (witness : ∃ (w : World) (tape : Tape) (i : Input), w.os = os ∧ (w.forCall tape i).Shaped C.prog ∧ i.vars = [] ∧ Input.okWide C.prog (w.forCall tape i) .any w.heap.size f i ∧
      ((s.pre enc C.prog fn conds apart (w.forCall tape i).memory i.args ∧ X (w.forCall tape i).memory i.args) ∧ sizedMet enc C.prog fn (OpenSpec.ofChange s) apart (w.forCall tape i).memory i.args) ∧ a.holds C.prog (lone (Frame.enter C.prog f i.args .normal) [] (w.forCall tape i)))
    (contract : ∀ (W : World) (base : Nat) (args : Array Value) (ds gs : List (DataW H)) (before : List MemPlace),
      (∀ (j : Nat) t v, fn.params[j]? = some t → args[j]? = some v → Value.okWide C.prog W .any base t v) →
      DataW.Whole enc C.prog fn.params.toList s.vars apart W args.toList ds gs before → X W args → W.ShapedOpen C.prog →
      Calls C.prog f args W fun e W' => ∃ v, e = .returned v ∧ s.post enc C.prog fn apart fresh handsOn again W args v W') :
    ReturnsInHanded a C os f .any (fun w args => (s.pre enc C.prog fn conds apart w args ∧ X w args) ∧ sizedMet enc C.prog fn (OpenSpec.ofChange s) apart w args) (s.post enc C.prog fn apart fresh handsOn again) := by
  refine returnsInHanded_of_calls own started noInit witness ?_
  intro w tape i _ hsh _ hok hpre _
  obtain ⟨_, _, _, fn', hfn', _, _, _, _, hval⟩ := hok
  obtain rfl : fn' = fn := Option.some.inj (hfn'.symm.trans hfn)
  obtain ⟨⟨⟨ds, gs, before, hw, _⟩, hx⟩, _⟩ := hpre
  have hw' := DataW.Whole.of_heap (w' := w.forCall tape i) (by rfl) hw
  refine (contract (w.forCall tape i) w.heap.size i.args ds gs before hval hw' (hX _ _ _ (by rfl) hx) hsh).mono fun e W' ⟨v, he, hp⟩ => ?_
  subst he
  exact ChangeSpec.post_blind hp
theorem one_of {P : Program} {W : World} {laid : List (String × DataW Unit)} (nm : String) (d : DataW Unit) (hf : laid.filter (fun x => x.1 == nm) = [(nm, d)]) (h : laidMet P laid W) : laidMet P [(nm, d)] W := hf ▸ h.filter fun x => x.1 == nm
/-- An array of strings that reads as texts holds them, cell for cell. -/
theorem cells_of_strs {H : Type} {enc : TypeId × Value → H} {P : Program} {w : World} {base : Nat} {sp : Nat → Bool} {held : Bool} {fuel : Nat} {t e : TypeId} {n : Nat} {cs : List Value} {zs : List Bs} {p : List MemPlace}
    (ht : P.underlying t = some (.array n e)) (he : P.underlying e = some .string) (hce : P.cellsOf e = 1) (hct : P.cellsOf t = n)
    (h : DataW.trod enc P w base sp held fuel t cs = some (.agg (zs.map fun z => .lit (.string z)), p)) : cs = zs.map fun z => Value.string (bs z) := by
  cases fuel with
  | zero => simp [DataW.trod] at h
  | succ fuel =>
    simp only [DataW.trod, ht, hce, hct, Nat.mul_one] at h
    split at h
    · rename_i hl
      obtain ⟨xs, hm, hx⟩ := Option.map_eq_some_iff.1 h
      have hxs : xs.map (·.1) = zs.map fun z => (DataW.lit (.string z) : DataW H) := by
        have := congrArg Prod.fst hx
        simpa using this
      have hxl : xs.length = n := by simpa using Lib.mapM_length hm
      have hzl : zs.length = n := by
        have := congrArg List.length hxs
        simp at this
        omega
      apply List.ext_getElem?
      intro i
      by_cases hi : i < n
      · obtain ⟨b, hb, hf⟩ := Lib.mapM_at hm i i (by simp [hi])
        obtain ⟨s, hc, rfl, _⟩ := DataW.trod_string he hf
        have h1 : cs[i]? = some (.string s) := by
          have := congrArg (·[0]?) hc
          simpa [List.getElem?_take, List.getElem?_drop] using this
        have h2 : (xs.map (·.1))[i]? = some (DataW.lit (.string s.data.toList) : DataW H) := by simp [hb]
        rw [hxs] at h2
        simp only [List.getElem?_map, Option.map_eq_some_iff, DataW.lit.injEq, Lit.string.injEq] at h2
        obtain ⟨z', hz', rfl⟩ := h2
        simp [h1, hz', bs_data]
      · rw [List.getElem?_eq_none (by omega), List.getElem?_eq_none (by simp; omega)]
    · cases h
/-- A variable that holds an error. -/
theorem iface_at {P : Program} {W : World} {nm : String} {g : Nat} {t : TypeId} {ms : Array (String × TypeId)} {name : String} {d : DataW Unit} (hg : P.globalNamed nm = some g) (hty : (P.globals[g]?).map (·.type) = some t) (ht : P.underlying t = some (.interface ms))
    (h : laidMet P [(nm, .iface name d)] W) : ∃ u v, W.cell? ⟨g, 0, none⟩ = some (.iface u v) := by
  obtain ⟨ps, ⟨g', t', cs, fuel, p, q, hg', ht', hvar, hd, _, _⟩, _⟩ := h
  obtain rfl := Option.some.inj (hg.symm.trans hg')
  obtain rfl := Option.some.inj (hty.symm.trans ht')
  obtain ⟨_, u, v, hc, _, _⟩ := iface_of_trod ht hd
  refine ⟨u, v, ?_⟩
  rw [World.var?_cell hg hvar 0]
  have : cs = #[.iface u v] := by rw [← hc]
  rw [this]
  rfl
/-- A flat datum's cells. -/
def litCells : DataW Unit → Array Value
  | .agg l => (l.map fun
    | .lit (.int k z) => Value.int k z
    | .lit (.string s) => Value.string (bs s)
    | _ => undef).toArray
  | _ => #[]
/-- The table of first bytes, laid in a world. -/
def withFirst (w0 : World) : World :=
  { w0 with heap := w0.heap.modify 5 fun
      | .cells _ t fz => .cells (litCells Go.Pinned.utf8First) t fz
      | o => o }
noncomputable def doorWorld (os : Os) : World := withFirst (World.doorLaid Tryz.prog 400 os)
theorem En.p10g : Tryz.prog.globalNamed "internal/strconv.uint64pow10" = some 7 := by kernel_rfl
theorem En.p10t : (Tryz.prog.globals[7]?).map (·.type) = some 201 := by kernel_rfl
theorem En.kg : Tryz.prog.globalNamed "foreman/table.kinds" = some 0 := by kernel_rfl
theorem En.kt : (Tryz.prog.globals[0]?).map (·.type) = some 95 := by kernel_rfl
theorem En.sg : Tryz.prog.globalNamed "strconv.ErrSyntax" = some 3 := by kernel_rfl
theorem En.st : (Tryz.prog.globals[3]?).map (·.type) = some 47 := by kernel_rfl
theorem En.rg : Tryz.prog.globalNamed "strconv.ErrRange" = some 4 := by kernel_rfl
theorem En.rt : (Tryz.prog.globals[4]?).map (·.type) = some 47 := by kernel_rfl
theorem tenv_of {laid : List (String × DataW Unit)} {W : World}
    (h1 : laid.filter (fun x => x.1 == "internal/strconv.uint64pow10") = [("internal/strconv.uint64pow10", Rows.laid_internal_strconv_uint64pow10)])
    (h2 : laid.filter (fun x => x.1 == "foreman/table.kinds") = [("foreman/table.kinds", Rows.laid_foreman_table_kinds)])
    (h3 : laid.filter (fun x => x.1 == "strconv.ErrSyntax") = [("strconv.ErrSyntax", Rows.laid_strconv_ErrSyntax)])
    (h4 : laid.filter (fun x => x.1 == "strconv.ErrRange") = [("strconv.ErrRange", Rows.laid_strconv_ErrRange)])
    (h : laidMet Tryz.prog laid W) (hs : W.ShapedOpen Tryz.prog) : TEnv W := by
  refine ⟨?_, ?_, ?_, iface_at En.sg En.st Tryz.underlying47 (one_of _ _ h3 h), iface_at En.rg En.rt Tryz.underlying47 (one_of _ _ h4 h)⟩
  · have e : (Rows.laid_internal_strconv_uint64pow10 : DataW Unit) = Lib.tabData .u64 Lib.pow10Tab := by kernel_rfl
    have h' := one_of _ _ h1 h
    rw [e] at h'
    exact Lib.tabIs_of_head En.p10g En.p10t Tryz.underlying201 Tryz.underlying171 (by kernel_rfl) (by kernel_rfl) h'
  · have e : (Rows.laid_foreman_table_kinds : DataW Unit) = .agg ([[], [105, 110, 116], [116, 101, 120, 116]].map fun z => .lit (.string z)) := by kernel_rfl
    have h' := one_of _ _ h2 h
    rw [e] at h'
    obtain ⟨ps, ⟨g', t', cs, fuel, p, q, hg', ht', hvar, hd, _, _⟩, _⟩ := h'
    obtain rfl := Option.some.inj (En.kg.symm.trans hg')
    obtain rfl := Option.some.inj (En.kt.symm.trans ht')
    have hc := cells_of_strs Tryz.underlying95 Tryz.underlying9 (by kernel_rfl) (by kernel_rfl) hd
    intro j hj
    rw [World.var?_cell En.kg hvar j, ← Array.getElem?_toList, hc]
    rcases j with _ | _ | _ | j
    · rfl
    · rfl
    · rfl
    · omega
  · exact Go.Proofs.cell_of_shapedOpen_int (t := 3) (zero := #[.int .i64 0]) hs (of_decide_eq_true (by kernel_rfl)) (by kernel_rfl) rfl (by kernel_rfl) (by kernel_rfl) Tryz.underlying3
end Go.Proofs.YtomgnjgaafnkiaaGreatDoor
