/- ops.made: Filter and Split. ops.Do at Filter and Split, whole. one at Filter. -/
import Derived.Test.YtpfkjejknlkkoaaGreatDoorOsoM23
import Derived.Test.YtpfkjejknlkkoaaGreatDoorOsoM13
import Derived.Test.YtpfkjejknlkkoaaGreatDoorOsoM27
import Derived.Test.YtpfkjejknlkkoaaGreatDoorOsoM24
set_option linter.unusedSimpArgs false
set_option linter.unusedVariables false
namespace Go.Proofs.YtpfkjejknlkkoaaGreatDoor
open Go.RowKit Go.BigFrame
attribute [local go_sem] bs_size bs_extract bs_append bs_toList
attribute [local go_sem] KW.cell
theorem filter_take {p : List Vl → Bool} {rs : List (List Vl)} {n : Nat} (h : n < rs.length) : (rs.take (n + 1)).filter p = if p rs[n] = true then (rs.take n).filter p ++ [rs[n]] else (rs.take n).filter p := by
 rw [List.take_succ_eq_append_getElem h, List.filter_append]
 cases hp : p rs[n] <;> simp [hp]
theorem apart_of {u v : Value} (h : ∀ g, u.ownBlock = some g → v.ownBlock ≠ some g) : u.ownBlock = none ∨ u.ownBlock ≠ v.ownBlock := by
 cases hu : u.ownBlock with
 | none => exact .inl rfl
 | some g => exact .inr fun e => h g hu e.symm
theorem apart_flip {u v : Value} (h : ∀ g, u.ownBlock = some g → v.ownBlock ≠ some g) : ∀ g, v.ownBlock = some g → u.ownBlock ≠ some g := fun g hg hu => h g hu hg
theorem apart_grown {w W : World} {base gw n cap H : Nat} {v v' : Value} {rs : List (List Vl)} (h : ∀ g, v.ownBlock = some g → v'.ownBlock ≠ some g) (hat : v.ownBlock = some gw ∨ gw = H) (hg : Gath w W base v' rs) (hH : W.heap.size ≤ H) : ∀ g, (Value.slice (some ⟨gw, 0, none⟩) n cap).ownBlock = some g → v'.ownBlock ≠ some g := fun g hg' => by
 have e : gw = g := by simpa [Value.ownBlock] using hg'
 subst e
 rcases hat with h1 | rfl
 ·exact h _ h1
 ·intro h2
  obtain ⟨us, _, hr, _⟩ := hg
  have := (hr.lt _ h2).2
  omega
theorem slice_toT (A : Option Addr) (m d n : Nat) (h : n ≤ d) (W : World) : (Instr.slice 87 (.slice A m d) none (some (.int .i64 (n : Int))) none).run Tryz.prog W = .ok (.slice A n d) W := by
 have hT := Tryz.underlying87
 have hl0 : (0 : Int) ≤ (n : Int) := by omega
 have hl1 : (n : Int) ≤ (d : Int) := by omega
 cases A with
 | none => go_simp
 | some a => go_simp
theorem tabs_two {w : World} {u v : Value} {l m : List (List Vl)} (hu : RowsIs w u l) (hv : RowsIs w v m) (n : Nat) (hn : n ≤ 2) (t : TypeId) : RdTabs (w.alloc (.cells #[u, v] t)) (some ⟨w.heap.size, 0, none⟩) ([l, m].take n) := by
 have hk : Keeps [] w (w.alloc (.cells #[u, v] t)) := (Keeps.refl _ _).alloc _
 refine tabs_at (us := [u, v].take n) (by simp) (Blk.new _ _ _).lt (fun j x hx => ?_) (fun i h1 h2 => ?_)
 ·rw [(Blk.new w t #[u, v]).cell j]
  rw [List.getElem?_take] at hx
  split at hx
  ·rename_i hj
   match j, hx with
   | 0, hx => simpa using hx
   | 1, hx => simpa using hx
   | j + 2, hx => simp at hx
  ·cases hx
 ·have hi : i < 2 := by simp at h1; omega
  match i, hi with
  | 0, _ => simpa using hu.keep hk
  | 1, _ => simpa using hv.keep hk
set_option maxHeartbeats 8000000 in
set_option maxRecDepth 40000 in
theorem made_1 (t : Tb) (no : Nat) (hno : no ≤ 2) (OA : Option Addr) (od : Nat) (b o : Nat) (nt ct : Nat) (A B : Option Addr) (c d : Nat) (hnt : 1 ≤ nt) (at_ retry lk ln rk rn : Int) (outs js cols : List Bs) (op lc lw rc rw' : Bs) (Ao : Option Addr) (co : Nat) (Ai : Option Addr) (ni ci : Nat) (Ac : Option Addr) (cc : Nat) (w : World)
  (hd0 : w.cell? ⟨b, o, none⟩ = some (.slice A t.cols.length c)) (hd1 : w.cell? ⟨b, o + 1, none⟩ = some (.slice B t.rows.length d)) (hT : TabIn w t A B c d)
  (hal : ∀ r ∈ t.rows, argOk ⟨lc, ⟨lk, ln, lw⟩⟩ t.cols r) (har : ∀ r ∈ t.rows, argOk ⟨rc, ⟨rk, rn, rw'⟩⟩ t.cols r) :
  Calls Tryz.prog 45 #[.agg #[.int .i64 at_, .int .i64 1, .slice Ao outs.length co, .slice Ai ni ci, .slice Ac cols.length cc, .string (bs op), .string (bs lc), .int .i64 lk, .int .i64 ln, .string (bs lw), .string (bs rc), .int .i64 rk, .int .i64 rn, .string (bs rw'), .int .i64 retry], .slice (some ⟨b, o, none⟩) nt ct, .slice OA no od] w fun e w' => MadeOut (.ok ([t.rows.filter (keepsJ (⟨at_, 1, outs, js, cols, op, ⟨lc, lk, ln, lw⟩, ⟨rc, rk, rn, rw'⟩, retry⟩ : Jb) t), t.rows.filter fun r => !keepsJ (⟨at_, 1, outs, js, cols, op, ⟨lc, lk, ln, lw⟩, ⟨rc, rk, rn, rw'⟩, retry⟩ : Jb) t r].take no)) e w' ∧ Keeps [] w w' := by
 obtain ⟨ir, hir, hrz0, hrz1, hrz2⟩ := info_parts rinfo
 have hP : Hid (∀ r, keepsJ (⟨at_, 1, outs, js, cols, op, ⟨lc, lk, ln, lw⟩, ⟨rc, rk, rn, rw'⟩, retry⟩ : Jb) t r = holdsB (argV ⟨lc, ⟨lk, ln, lw⟩⟩ t.cols r) op (argV ⟨rc, ⟨rk, rn, rw'⟩⟩ t.cols r)) := Lib.hid fun r => rfl
 obtain ⟨Pvy, hpy⟩ : ∃ p, keepsJ (⟨at_, 1, outs, js, cols, op, ⟨lc, lk, ln, lw⟩, ⟨rc, rk, rn, rw'⟩, retry⟩ : Jb) t = p := ⟨_, rfl⟩
 rw [hpy] at hP ⊢
 obtain ⟨Pvn, hpn⟩ : ∃ p : List Vl → Bool, (fun r => !Pvy r) = p := ⟨_, rfl⟩
 rw [hpn]
 have HPN : Hid (∀ r, Pvn r = !Pvy r) := Lib.hid fun r => by rw [← hpn]
 clear hpy hpn
 have hi1 : (0 : Int) < (nt : Int) := by omega
 have HT := Lib.hid hT
 have hlm := hT.lm
 have HAL := Lib.hid hal
 have HAR := Lib.hid har
 have hz0 : b < w.heap.size := World.block_lt_of_cell? _ _ hd0
 have HK0 : Hid (Keeps [] w ((w.alloc (.cells #[.int .i64 at_, .int .i64 1, .slice Ao outs.length co, .slice Ai ni ci, .slice Ac cols.length cc, .string (bs op), .string (bs lc), .int .i64 lk, .int .i64 ln, .string (bs lw), .string (bs rc), .int .i64 rk, .int .i64 rn, .string (bs rw'), .int .i64 retry] 36)).alloc (.cells #[.slice A t.cols.length c, .slice B t.rows.length d] 25))) := Lib.hid (((Keeps.refl _ _).alloc _).alloc _)
 have HBX := Lib.hid (Blk.alloc (Blk.new w 36 #[.int .i64 at_, .int .i64 1, .slice Ao outs.length co, .slice Ai ni ci, .slice Ac cols.length cc, .string (bs op), .string (bs lc), .int .i64 lk, .int .i64 ln, .string (bs lw), .string (bs rc), .int .i64 rk, .int .i64 rn, .string (bs rw'), .int .i64 retry]) (.cells #[.slice A t.cols.length c, .slice B t.rows.length d] 25))
 have HBT := Lib.hid (Blk.new (w.alloc (.cells #[.int .i64 at_, .int .i64 1, .slice Ao outs.length co, .slice Ai ni ci, .slice Ac cols.length cc, .string (bs op), .string (bs lc), .int .i64 lk, .int .i64 ln, .string (bs lw), .string (bs rc), .int .i64 rk, .int .i64 rn, .string (bs rw'), .int .i64 retry] 36)) 25 #[.slice A t.cols.length c, .slice B t.rows.length d])
 rw [size_alloc] at HBT
 clear hT hal har
 go_enter Tryz.func45, Tryz.ntmps45
 go_wp2
 obtain ⟨w2, hw2⟩ : ∃ w2, ((w.alloc (.cells #[.int .i64 at_, .int .i64 1, .slice Ao outs.length co, .slice Ai ni ci, .slice Ac cols.length cc, .string (bs op), .string (bs lc), .int .i64 lk, .int .i64 ln, .string (bs lw), .string (bs rc), .int .i64 rk, .int .i64 rn, .string (bs rw'), .int .i64 retry] 36)).alloc (.cells #[.slice A t.cols.length c, .slice B t.rows.length d] 25)) = w2 := ⟨_, rfl⟩
 rw [hw2] at HK0 HBX HBT ⊢
 obtain ⟨bx, hbx⟩ : ∃ bx, w.heap.size = bx := ⟨_, rfl⟩
 rw [hbx] at HBX HBT ⊢
 clear hw2 hbx
 go_loopw [9, 10, 30] (fun u1 u2 i wx => ∃ (m : Nat) (vy vn : Value), vy = u1 ∧ vn = u2 ∧ m ≤ t.rows.length ∧ i = .int .i64 m ∧ Hid (Gath w wx w2.heap.size vy ((t.rows.take m).filter Pvy)) ∧ Hid (Gath w wx w2.heap.size vn ((t.rows.take m).filter Pvn)) ∧ (∀ g, vy.ownBlock = some g → vn.ownBlock ≠ some g) ∧ Keeps [] w2 wx) (fun _ _ i _ => t.rows.length - (intOf i).toNat)
 case atStart => exact ⟨0, _, _, rfl, rfl, Nat.zero_le _, rfl, Gath.nil _ _ _, Gath.nil _ _ _, (fun g (h : (Value.slice none 0 0).ownBlock = some g) => by simp [Value.ownBlock] at h), Keeps.refl _ _⟩
 case round =>
  obtain ⟨m, vy, vn, rfl, rfl, hm, rfl, HGvy, HGvn, hapvy, hk⟩ := hrel
  have hapvn := apart_flip hapvy
  have HK := Lib.hid hk
  have HKW := Lib.hid (HK0.out.trans hk)
  clear hk
  by_cases hlt : m < t.rows.length
  ·obtain ⟨us, hul, hur, hui⟩ := HT.out.rows
   have hux : m < us.length := by omega
   have hrw := hui m hux hlt
   obtain ⟨b7, o7, hBe, _, hb7, hcs⟩ := hur.open' (by omega) (by have := HT.out.lm; omega)
   have d7 := hcs (m * 1) us[m] (by rw [Nat.mul_one]; exact List.getElem?_eq_getElem hux)
   rw [Nat.mul_one] at d7
   have hmem : t.rows[m] ∈ t.rows := List.getElem_mem hlt
   obtain ⟨r, hr⟩ : ∃ r, t.rows[m] = r := ⟨_, rfl⟩
   rw [hr] at hrw hmem
   have HRW := Lib.hid hrw
   obtain ⟨Ar, cr, hu, hcr, hrd⟩ := hrw
   rw [hu] at HRW d7
   have d8 := HKW.out.cell_of d7 (by simp)
   subst hBe
   have HAA : Hid (∀ W, Keeps [] wr W → Calls Tryz.prog 64 #[.agg #[.string (bs lc), .int .i64 lk, .int .i64 ln, .string (bs lw)], .slice A t.cols.length c, .slice Ar r.length cr] W fun e w' => e = .returned (vAgg (argV ⟨lc, ⟨lk, ln, lw⟩⟩ t.cols r)) ∧ Keeps [] W w') := Lib.hid fun W q => arg_any ⟨lc, ⟨lk, ln, lw⟩⟩ t.cols r A Ar c cr W (HT.out.cols.keep (HKW.out.trans q)) HT.out.ln (hrd.keep (HKW.out.trans q)) (HAL.out r hmem)
   have HAB : Hid (∀ W, Keeps [] wr W → Calls Tryz.prog 64 #[.agg #[.string (bs rc), .int .i64 rk, .int .i64 rn, .string (bs rw')], .slice A t.cols.length c, .slice Ar r.length cr] W fun e w' => e = .returned (vAgg (argV ⟨rc, ⟨rk, rn, rw'⟩⟩ t.cols r)) ∧ Keeps [] W w') := Lib.hid fun W q => arg_any ⟨rc, ⟨rk, rn, rw'⟩⟩ t.cols r A Ar c cr W (HT.out.cols.keep (HKW.out.trans q)) HT.out.ln (hrd.keep (HKW.out.trans q)) (HAR.out r hmem)
   have hpr := hP.out r
   obtain ⟨X, hX⟩ : ∃ X, argV ⟨lc, ⟨lk, ln, lw⟩⟩ t.cols r = X := ⟨_, rfl⟩
   obtain ⟨Y, hY⟩ : ∃ Y, argV ⟨rc, ⟨rk, rn, rw'⟩⟩ t.cols r = Y := ⟨_, rfl⟩
   rw [hX, hY] at hpr
   rw [hX] at HAA
   rw [hY] at HAB
   have HHO := Lib.hid (fun W => holds_any X op Y W)
   rw [← hpr] at HHO
   have hnr := HPN.out r
   clear hX hY hpr hu hul hur hui hcs d7
   obtain ⟨xk, xn, xw⟩ := X
   obtain ⟨yk, yn, yw⟩ := Y
   have HAA' : Hid (∀ W, Keeps [] wr W → Calls Tryz.prog 64 #[.agg #[.string (bs lc), .int .i64 lk, .int .i64 ln, .string (bs lw)], .slice A t.cols.length c, .slice Ar r.length cr] W fun e w' => e = .returned (.agg #[.int .i64 xk, .int .i64 xn, .string (bs xw)]) ∧ Keeps [] W w') := HAA
   have HAB' : Hid (∀ W, Keeps [] wr W → Calls Tryz.prog 64 #[.agg #[.string (bs rc), .int .i64 rk, .int .i64 rn, .string (bs rw')], .slice A t.cols.length c, .slice Ar r.length cr] W fun e w' => e = .returned (.agg #[.int .i64 yk, .int .i64 yn, .string (bs yw)]) ∧ Keeps [] W w') := HAB
   have HHO' : Hid (∀ W, Keeps [] wr W → Calls Tryz.prog 63 #[.agg #[.int .i64 xk, .int .i64 xn, .string (bs xw)], .string (bs op), .agg #[.int .i64 yk, .int .i64 yn, .string (bs yw)]] W fun e w' => e = .returned (.bool (Pvy r)) ∧ Keeps [] W w') := Lib.hid fun W _ => HHO.out W
   clear HAA HAB HHO
   have HBR := Lib.hid (HBX.out.keep HK.out (by simp))
   have HBS := Lib.hid (HBT.out.keep HK.out (by simp))
   have y5 : wr.cell? ⟨bx, 5, none⟩ = some (.string (bs op)) := HBR.out.cell 5
   have y6 : wr.cell? ⟨bx, 6, none⟩ = some (.string (bs lc)) := HBR.out.cell 6
   have y7 : wr.cell? ⟨bx, 7, none⟩ = some (.int .i64 lk) := HBR.out.cell 7
   have y8 : wr.cell? ⟨bx, 8, none⟩ = some (.int .i64 ln) := HBR.out.cell 8
   have y9 : wr.cell? ⟨bx, 9, none⟩ = some (.string (bs lw)) := HBR.out.cell 9
   have y10 : wr.cell? ⟨bx, 10, none⟩ = some (.string (bs rc)) := HBR.out.cell 10
   have y11 : wr.cell? ⟨bx, 11, none⟩ = some (.int .i64 rk) := HBR.out.cell 11
   have y12 : wr.cell? ⟨bx, 12, none⟩ = some (.int .i64 rn) := HBR.out.cell 12
   have y13 : wr.cell? ⟨bx, 13, none⟩ = some (.string (bs rw')) := HBR.out.cell 13
   have z0 : wr.cell? ⟨bx + 1, 0, none⟩ = some (.slice A t.cols.length c) := HBS.out.cell 0
   have hz1 : bx < wr.heap.size := HBR.out.lt
   have hz2 : bx + 1 < wr.heap.size := HBS.out.lt
   have hi0 : (0 : Int) ≤ (m : Int) := by omega
   have hi2 : (m : Int) < (t.rows.length : Int) := by omega
   cases hpv : Pvy r with
   | true =>
    rw [hpv] at HHO' hnr
    go_wp2_with fail
    refine wp_region_keeps (by kernel_rfl) (by kernel_rfl) ?_
    repeat (go_big_quiet_step (first | with_reducible exact KW.of HAA'.out _ | with_reducible exact KW.of HAB'.out _ | with_reducible exact KW.of HHO'.out _))
    refine wpQuiet_nil ?_
    intro w5 hk5
    obtain ⟨usvy, hgl, hgo, hgi⟩ := HGvy.out
    have HO5 := Lib.hid (own_keep hgo hk5 (fun _ _ => by simp))
    have HGI := Lib.hid hgi
    have HGO := Lib.hid (HGvn.out.keep hk5)
    have HGL := Lib.hid hgl
    have hz5 : w2.heap.size ≤ w5.heap.size := Nat.le_trans HK.out.size hk5.size
    have HK5 := Lib.hid (HK.out.trans hk5)
    have hqn := Lib.hid (show ((t.rows.take m).filter Pvy).length ≤ 4294967296 from Nat.le_trans (List.length_filter_le _ _) (by rw [List.length_take]; have := HT.out.lm; omega))
    have hft := Lib.hid (filter_take (p := Pvy) hlt)
    have hfo := Lib.hid (filter_take (p := Pvn) hlt)
    obtain ⟨qs, hqs⟩ : ∃ qs, (t.rows.take m).filter Pvy = qs := ⟨_, rfl⟩
    rw [hqs] at HO5 HGI HGL hqn hft
    have hbd := Lib.hid (show qs.length + 1 ≤ maxLen ∧ (qs.length + 1) * 24 ≤ 140737488355328 by have := hqn.out; simp only [maxLen]; omega)
    clear hgo hgi hgl hk5
    go_wp2_with (at_builtin; (refine wpList_append_lies _ rfl _ _ 23 rfl w2.heap.size 41 ir _ 1 24 Tryz.underlying23 hir hrz0 hrz1 hrz2 rfl (by decide) _ qs.length usvy rfl (HO5.out.alloc _) ⟨w5.heap.size, 0, none⟩ 1 1 [.slice Ar r.length cr] rfl rfl (World.news_of_block (heap_alloc_new _ _)) (by simp [Value.oneCell']) (by decide) hbd.out.1 hbd.out.2 (by simp; omega) _ rfl ?_); intro gw cap2 w8 hown8 hgrow8 hat8 hlt8)
    have HK8 := Lib.hid ((HK5.out.alloc (.cells #[.slice Ar r.length cr] 41)).grown hgrow8 (fun g hg => .inr (HO5.out.lt g hg).1))
    have HGN := Lib.hid (gath_snoc HGL.out HGI.out HRW.out hown8)
    have HGP := Lib.hid ((HGO.out.keep ((Keeps.refl [] w5).alloc _)).kept hgrow8 (apart_of (apart_flip hapvy)))
    have HAP := Lib.hid (apart_grown (n := qs.length + 1) (cap := cap2) hapvy hat8 HGO.out (by rw [size_alloc]; omega))
    clear hown8 hgrow8 hat8 hlt8
    go_wp2
    go_roundw
    case rel => exact ⟨m + 1, _, vn, rfl, rfl, by omega, by go_num, Lib.hid (by rw [hft.out, hr, hpv, if_pos rfl]; exact HGN.out), Lib.hid (by rw [hfo.out, hr, hnr, if_neg (by decide)]; exact HGP.out), HAP.out, HK8.out⟩
    case measure => simp [intOf]; omega
   | false =>
    rw [hpv] at HHO' hnr
    go_wp2_with fail
    refine wp_region_keeps (by kernel_rfl) (by kernel_rfl) ?_
    repeat (go_big_quiet_step (first | with_reducible exact KW.of HAA'.out _ | with_reducible exact KW.of HAB'.out _ | with_reducible exact KW.of HHO'.out _))
    refine wpQuiet_nil ?_
    intro w5 hk5
    obtain ⟨usvn, hgl, hgo, hgi⟩ := HGvn.out
    have HO5 := Lib.hid (own_keep hgo hk5 (fun _ _ => by simp))
    have HGI := Lib.hid hgi
    have HGO := Lib.hid (HGvy.out.keep hk5)
    have HGL := Lib.hid hgl
    have hz5 : w2.heap.size ≤ w5.heap.size := Nat.le_trans HK.out.size hk5.size
    have HK5 := Lib.hid (HK.out.trans hk5)
    have hqn := Lib.hid (show ((t.rows.take m).filter Pvn).length ≤ 4294967296 from Nat.le_trans (List.length_filter_le _ _) (by rw [List.length_take]; have := HT.out.lm; omega))
    have hft := Lib.hid (filter_take (p := Pvn) hlt)
    have hfo := Lib.hid (filter_take (p := Pvy) hlt)
    obtain ⟨qs, hqs⟩ : ∃ qs, (t.rows.take m).filter Pvn = qs := ⟨_, rfl⟩
    rw [hqs] at HO5 HGI HGL hqn hft
    have hbd := Lib.hid (show qs.length + 1 ≤ maxLen ∧ (qs.length + 1) * 24 ≤ 140737488355328 by have := hqn.out; simp only [maxLen]; omega)
    clear hgo hgi hgl hk5
    go_wp2_with (at_builtin; (refine wpList_append_lies _ rfl _ _ 23 rfl w2.heap.size 41 ir _ 1 24 Tryz.underlying23 hir hrz0 hrz1 hrz2 rfl (by decide) _ qs.length usvn rfl (HO5.out.alloc _) ⟨w5.heap.size, 0, none⟩ 1 1 [.slice Ar r.length cr] rfl rfl (World.news_of_block (heap_alloc_new _ _)) (by simp [Value.oneCell']) (by decide) hbd.out.1 hbd.out.2 (by simp; omega) _ rfl ?_); intro gw cap2 w8 hown8 hgrow8 hat8 hlt8)
    have HK8 := Lib.hid ((HK5.out.alloc (.cells #[.slice Ar r.length cr] 41)).grown hgrow8 (fun g hg => .inr (HO5.out.lt g hg).1))
    have HGN := Lib.hid (gath_snoc HGL.out HGI.out HRW.out hown8)
    have HGP := Lib.hid ((HGO.out.keep ((Keeps.refl [] w5).alloc _)).kept hgrow8 (apart_of (apart_flip hapvn)))
    have HAP := Lib.hid (apart_grown (n := qs.length + 1) (cap := cap2) hapvn hat8 HGO.out (by rw [size_alloc]; omega))
    clear hown8 hgrow8 hat8 hlt8
    go_wp2
    go_roundw
    case rel => exact ⟨m + 1, vy, _, rfl, rfl, by omega, by go_num, Lib.hid (by rw [hfo.out, hr, hpv, if_neg (by decide)]; exact HGP.out), Lib.hid (by rw [hft.out, hr, hnr, if_pos (by rfl)]; exact HGN.out), apart_flip HAP.out, HK8.out⟩
    case measure => simp [intOf]; omega
  ·have HB2 := Lib.hid (HGvy.out.is HKW.out)
   have HN2 := Lib.hid (HGvn.out.is HKW.out)
   obtain rfl : m = t.rows.length := by omega
   rw [List.take_length] at HB2 HN2
   clear HGvy HGvn
   obtain ⟨Ay, cy, hvy, _, _⟩ := HB2.out
   obtain ⟨An, cn, hvn, _, _⟩ := HN2.out
   subst hvy hvn
   have hlen : ([t.rows.filter Pvy, t.rows.filter Pvn].take no).length = no := by rw [List.length_take]; show min no 2 = no; omega
   have hsl := slice_toT (some ⟨wr.heap.size, 0, none⟩) 2 2 no hno
   have HRT := Lib.hid (tabs_two HB2.out HN2.out no hno 23)
   go_wp2
   go_ret2
   exact ⟨⟨some ⟨wr.heap.size, 0, none⟩, 2, by rw [hlen]; rfl, by rw [hlen]; exact hno, HRT.out⟩, HKW.out.alloc _⟩
set_option maxHeartbeats 8000000 in
set_option maxRecDepth 40000 in
theorem made_9 (t : Tb) (no : Nat) (hno : no ≤ 2) (OA : Option Addr) (od : Nat) (b o : Nat) (nt ct : Nat) (A B : Option Addr) (c d : Nat) (hnt : 1 ≤ nt) (at_ retry lk ln rk rn : Int) (outs js cols : List Bs) (op lc lw rc rw' : Bs) (Ao : Option Addr) (co : Nat) (Ai : Option Addr) (ni ci : Nat) (Ac : Option Addr) (cc : Nat) (w : World)
  (hd0 : w.cell? ⟨b, o, none⟩ = some (.slice A t.cols.length c)) (hd1 : w.cell? ⟨b, o + 1, none⟩ = some (.slice B t.rows.length d)) (hT : TabIn w t A B c d)
  (hal : ∀ r ∈ t.rows, argOk ⟨lc, ⟨lk, ln, lw⟩⟩ t.cols r) (har : ∀ r ∈ t.rows, argOk ⟨rc, ⟨rk, rn, rw'⟩⟩ t.cols r) :
  Calls Tryz.prog 45 #[.agg #[.int .i64 at_, .int .i64 9, .slice Ao outs.length co, .slice Ai ni ci, .slice Ac cols.length cc, .string (bs op), .string (bs lc), .int .i64 lk, .int .i64 ln, .string (bs lw), .string (bs rc), .int .i64 rk, .int .i64 rn, .string (bs rw'), .int .i64 retry], .slice (some ⟨b, o, none⟩) nt ct, .slice OA no od] w fun e w' => MadeOut (.ok ([t.rows.filter (keepsJ (⟨at_, 9, outs, js, cols, op, ⟨lc, lk, ln, lw⟩, ⟨rc, rk, rn, rw'⟩, retry⟩ : Jb) t), t.rows.filter fun r => !keepsJ (⟨at_, 9, outs, js, cols, op, ⟨lc, lk, ln, lw⟩, ⟨rc, rk, rn, rw'⟩, retry⟩ : Jb) t r].take no)) e w' ∧ Keeps [] w w' := by
 obtain ⟨ir, hir, hrz0, hrz1, hrz2⟩ := info_parts rinfo
 have hP : Hid (∀ r, keepsJ (⟨at_, 9, outs, js, cols, op, ⟨lc, lk, ln, lw⟩, ⟨rc, rk, rn, rw'⟩, retry⟩ : Jb) t r = holdsB (argV ⟨lc, ⟨lk, ln, lw⟩⟩ t.cols r) op (argV ⟨rc, ⟨rk, rn, rw'⟩⟩ t.cols r)) := Lib.hid fun r => rfl
 obtain ⟨Pvy, hpy⟩ : ∃ p, keepsJ (⟨at_, 9, outs, js, cols, op, ⟨lc, lk, ln, lw⟩, ⟨rc, rk, rn, rw'⟩, retry⟩ : Jb) t = p := ⟨_, rfl⟩
 rw [hpy] at hP ⊢
 obtain ⟨Pvn, hpn⟩ : ∃ p : List Vl → Bool, (fun r => !Pvy r) = p := ⟨_, rfl⟩
 rw [hpn]
 have HPN : Hid (∀ r, Pvn r = !Pvy r) := Lib.hid fun r => by rw [← hpn]
 clear hpy hpn
 have hi1 : (0 : Int) < (nt : Int) := by omega
 have HT := Lib.hid hT
 have hlm := hT.lm
 have HAL := Lib.hid hal
 have HAR := Lib.hid har
 have hz0 : b < w.heap.size := World.block_lt_of_cell? _ _ hd0
 have HK0 : Hid (Keeps [] w ((w.alloc (.cells #[.int .i64 at_, .int .i64 9, .slice Ao outs.length co, .slice Ai ni ci, .slice Ac cols.length cc, .string (bs op), .string (bs lc), .int .i64 lk, .int .i64 ln, .string (bs lw), .string (bs rc), .int .i64 rk, .int .i64 rn, .string (bs rw'), .int .i64 retry] 36)).alloc (.cells #[.slice A t.cols.length c, .slice B t.rows.length d] 25))) := Lib.hid (((Keeps.refl _ _).alloc _).alloc _)
 have HBX := Lib.hid (Blk.alloc (Blk.new w 36 #[.int .i64 at_, .int .i64 9, .slice Ao outs.length co, .slice Ai ni ci, .slice Ac cols.length cc, .string (bs op), .string (bs lc), .int .i64 lk, .int .i64 ln, .string (bs lw), .string (bs rc), .int .i64 rk, .int .i64 rn, .string (bs rw'), .int .i64 retry]) (.cells #[.slice A t.cols.length c, .slice B t.rows.length d] 25))
 have HBT := Lib.hid (Blk.new (w.alloc (.cells #[.int .i64 at_, .int .i64 9, .slice Ao outs.length co, .slice Ai ni ci, .slice Ac cols.length cc, .string (bs op), .string (bs lc), .int .i64 lk, .int .i64 ln, .string (bs lw), .string (bs rc), .int .i64 rk, .int .i64 rn, .string (bs rw'), .int .i64 retry] 36)) 25 #[.slice A t.cols.length c, .slice B t.rows.length d])
 rw [size_alloc] at HBT
 clear hT hal har
 go_enter Tryz.func45, Tryz.ntmps45
 go_wp2
 obtain ⟨w2, hw2⟩ : ∃ w2, ((w.alloc (.cells #[.int .i64 at_, .int .i64 9, .slice Ao outs.length co, .slice Ai ni ci, .slice Ac cols.length cc, .string (bs op), .string (bs lc), .int .i64 lk, .int .i64 ln, .string (bs lw), .string (bs rc), .int .i64 rk, .int .i64 rn, .string (bs rw'), .int .i64 retry] 36)).alloc (.cells #[.slice A t.cols.length c, .slice B t.rows.length d] 25)) = w2 := ⟨_, rfl⟩
 rw [hw2] at HK0 HBX HBT ⊢
 obtain ⟨bx, hbx⟩ : ∃ bx, w.heap.size = bx := ⟨_, rfl⟩
 rw [hbx] at HBX HBT ⊢
 clear hw2 hbx
 go_loopw [9, 10, 30] (fun u1 u2 i wx => ∃ (m : Nat) (vy vn : Value), vy = u1 ∧ vn = u2 ∧ m ≤ t.rows.length ∧ i = .int .i64 m ∧ Hid (Gath w wx w2.heap.size vy ((t.rows.take m).filter Pvy)) ∧ Hid (Gath w wx w2.heap.size vn ((t.rows.take m).filter Pvn)) ∧ (∀ g, vy.ownBlock = some g → vn.ownBlock ≠ some g) ∧ Keeps [] w2 wx) (fun _ _ i _ => t.rows.length - (intOf i).toNat)
 case atStart => exact ⟨0, _, _, rfl, rfl, Nat.zero_le _, rfl, Gath.nil _ _ _, Gath.nil _ _ _, (fun g (h : (Value.slice none 0 0).ownBlock = some g) => by simp [Value.ownBlock] at h), Keeps.refl _ _⟩
 case round =>
  obtain ⟨m, vy, vn, rfl, rfl, hm, rfl, HGvy, HGvn, hapvy, hk⟩ := hrel
  have hapvn := apart_flip hapvy
  have HK := Lib.hid hk
  have HKW := Lib.hid (HK0.out.trans hk)
  clear hk
  by_cases hlt : m < t.rows.length
  ·obtain ⟨us, hul, hur, hui⟩ := HT.out.rows
   have hux : m < us.length := by omega
   have hrw := hui m hux hlt
   obtain ⟨b7, o7, hBe, _, hb7, hcs⟩ := hur.open' (by omega) (by have := HT.out.lm; omega)
   have d7 := hcs (m * 1) us[m] (by rw [Nat.mul_one]; exact List.getElem?_eq_getElem hux)
   rw [Nat.mul_one] at d7
   have hmem : t.rows[m] ∈ t.rows := List.getElem_mem hlt
   obtain ⟨r, hr⟩ : ∃ r, t.rows[m] = r := ⟨_, rfl⟩
   rw [hr] at hrw hmem
   have HRW := Lib.hid hrw
   obtain ⟨Ar, cr, hu, hcr, hrd⟩ := hrw
   rw [hu] at HRW d7
   have d8 := HKW.out.cell_of d7 (by simp)
   subst hBe
   have HAA : Hid (∀ W, Keeps [] wr W → Calls Tryz.prog 64 #[.agg #[.string (bs lc), .int .i64 lk, .int .i64 ln, .string (bs lw)], .slice A t.cols.length c, .slice Ar r.length cr] W fun e w' => e = .returned (vAgg (argV ⟨lc, ⟨lk, ln, lw⟩⟩ t.cols r)) ∧ Keeps [] W w') := Lib.hid fun W q => arg_any ⟨lc, ⟨lk, ln, lw⟩⟩ t.cols r A Ar c cr W (HT.out.cols.keep (HKW.out.trans q)) HT.out.ln (hrd.keep (HKW.out.trans q)) (HAL.out r hmem)
   have HAB : Hid (∀ W, Keeps [] wr W → Calls Tryz.prog 64 #[.agg #[.string (bs rc), .int .i64 rk, .int .i64 rn, .string (bs rw')], .slice A t.cols.length c, .slice Ar r.length cr] W fun e w' => e = .returned (vAgg (argV ⟨rc, ⟨rk, rn, rw'⟩⟩ t.cols r)) ∧ Keeps [] W w') := Lib.hid fun W q => arg_any ⟨rc, ⟨rk, rn, rw'⟩⟩ t.cols r A Ar c cr W (HT.out.cols.keep (HKW.out.trans q)) HT.out.ln (hrd.keep (HKW.out.trans q)) (HAR.out r hmem)
   have hpr := hP.out r
   obtain ⟨X, hX⟩ : ∃ X, argV ⟨lc, ⟨lk, ln, lw⟩⟩ t.cols r = X := ⟨_, rfl⟩
   obtain ⟨Y, hY⟩ : ∃ Y, argV ⟨rc, ⟨rk, rn, rw'⟩⟩ t.cols r = Y := ⟨_, rfl⟩
   rw [hX, hY] at hpr
   rw [hX] at HAA
   rw [hY] at HAB
   have HHO := Lib.hid (fun W => holds_any X op Y W)
   rw [← hpr] at HHO
   have hnr := HPN.out r
   clear hX hY hpr hu hul hur hui hcs d7
   obtain ⟨xk, xn, xw⟩ := X
   obtain ⟨yk, yn, yw⟩ := Y
   have HAA' : Hid (∀ W, Keeps [] wr W → Calls Tryz.prog 64 #[.agg #[.string (bs lc), .int .i64 lk, .int .i64 ln, .string (bs lw)], .slice A t.cols.length c, .slice Ar r.length cr] W fun e w' => e = .returned (.agg #[.int .i64 xk, .int .i64 xn, .string (bs xw)]) ∧ Keeps [] W w') := HAA
   have HAB' : Hid (∀ W, Keeps [] wr W → Calls Tryz.prog 64 #[.agg #[.string (bs rc), .int .i64 rk, .int .i64 rn, .string (bs rw')], .slice A t.cols.length c, .slice Ar r.length cr] W fun e w' => e = .returned (.agg #[.int .i64 yk, .int .i64 yn, .string (bs yw)]) ∧ Keeps [] W w') := HAB
   have HHO' : Hid (∀ W, Keeps [] wr W → Calls Tryz.prog 63 #[.agg #[.int .i64 xk, .int .i64 xn, .string (bs xw)], .string (bs op), .agg #[.int .i64 yk, .int .i64 yn, .string (bs yw)]] W fun e w' => e = .returned (.bool (Pvy r)) ∧ Keeps [] W w') := Lib.hid fun W _ => HHO.out W
   clear HAA HAB HHO
   have HBR := Lib.hid (HBX.out.keep HK.out (by simp))
   have HBS := Lib.hid (HBT.out.keep HK.out (by simp))
   have y5 : wr.cell? ⟨bx, 5, none⟩ = some (.string (bs op)) := HBR.out.cell 5
   have y6 : wr.cell? ⟨bx, 6, none⟩ = some (.string (bs lc)) := HBR.out.cell 6
   have y7 : wr.cell? ⟨bx, 7, none⟩ = some (.int .i64 lk) := HBR.out.cell 7
   have y8 : wr.cell? ⟨bx, 8, none⟩ = some (.int .i64 ln) := HBR.out.cell 8
   have y9 : wr.cell? ⟨bx, 9, none⟩ = some (.string (bs lw)) := HBR.out.cell 9
   have y10 : wr.cell? ⟨bx, 10, none⟩ = some (.string (bs rc)) := HBR.out.cell 10
   have y11 : wr.cell? ⟨bx, 11, none⟩ = some (.int .i64 rk) := HBR.out.cell 11
   have y12 : wr.cell? ⟨bx, 12, none⟩ = some (.int .i64 rn) := HBR.out.cell 12
   have y13 : wr.cell? ⟨bx, 13, none⟩ = some (.string (bs rw')) := HBR.out.cell 13
   have z0 : wr.cell? ⟨bx + 1, 0, none⟩ = some (.slice A t.cols.length c) := HBS.out.cell 0
   have hz1 : bx < wr.heap.size := HBR.out.lt
   have hz2 : bx + 1 < wr.heap.size := HBS.out.lt
   have hi0 : (0 : Int) ≤ (m : Int) := by omega
   have hi2 : (m : Int) < (t.rows.length : Int) := by omega
   cases hpv : Pvy r with
   | true =>
    rw [hpv] at HHO' hnr
    go_wp2_with fail
    refine wp_region_keeps (by kernel_rfl) (by kernel_rfl) ?_
    repeat (go_big_quiet_step (first | with_reducible exact KW.of HAA'.out _ | with_reducible exact KW.of HAB'.out _ | with_reducible exact KW.of HHO'.out _))
    refine wpQuiet_nil ?_
    intro w5 hk5
    obtain ⟨usvy, hgl, hgo, hgi⟩ := HGvy.out
    have HO5 := Lib.hid (own_keep hgo hk5 (fun _ _ => by simp))
    have HGI := Lib.hid hgi
    have HGO := Lib.hid (HGvn.out.keep hk5)
    have HGL := Lib.hid hgl
    have hz5 : w2.heap.size ≤ w5.heap.size := Nat.le_trans HK.out.size hk5.size
    have HK5 := Lib.hid (HK.out.trans hk5)
    have hqn := Lib.hid (show ((t.rows.take m).filter Pvy).length ≤ 4294967296 from Nat.le_trans (List.length_filter_le _ _) (by rw [List.length_take]; have := HT.out.lm; omega))
    have hft := Lib.hid (filter_take (p := Pvy) hlt)
    have hfo := Lib.hid (filter_take (p := Pvn) hlt)
    obtain ⟨qs, hqs⟩ : ∃ qs, (t.rows.take m).filter Pvy = qs := ⟨_, rfl⟩
    rw [hqs] at HO5 HGI HGL hqn hft
    have hbd := Lib.hid (show qs.length + 1 ≤ maxLen ∧ (qs.length + 1) * 24 ≤ 140737488355328 by have := hqn.out; simp only [maxLen]; omega)
    clear hgo hgi hgl hk5
    go_wp2_with (at_builtin; (refine wpList_append_lies _ rfl _ _ 23 rfl w2.heap.size 41 ir _ 1 24 Tryz.underlying23 hir hrz0 hrz1 hrz2 rfl (by decide) _ qs.length usvy rfl (HO5.out.alloc _) ⟨w5.heap.size, 0, none⟩ 1 1 [.slice Ar r.length cr] rfl rfl (World.news_of_block (heap_alloc_new _ _)) (by simp [Value.oneCell']) (by decide) hbd.out.1 hbd.out.2 (by simp; omega) _ rfl ?_); intro gw cap2 w8 hown8 hgrow8 hat8 hlt8)
    have HK8 := Lib.hid ((HK5.out.alloc (.cells #[.slice Ar r.length cr] 41)).grown hgrow8 (fun g hg => .inr (HO5.out.lt g hg).1))
    have HGN := Lib.hid (gath_snoc HGL.out HGI.out HRW.out hown8)
    have HGP := Lib.hid ((HGO.out.keep ((Keeps.refl [] w5).alloc _)).kept hgrow8 (apart_of (apart_flip hapvy)))
    have HAP := Lib.hid (apart_grown (n := qs.length + 1) (cap := cap2) hapvy hat8 HGO.out (by rw [size_alloc]; omega))
    clear hown8 hgrow8 hat8 hlt8
    go_wp2
    go_roundw
    case rel => exact ⟨m + 1, _, vn, rfl, rfl, by omega, by go_num, Lib.hid (by rw [hft.out, hr, hpv, if_pos rfl]; exact HGN.out), Lib.hid (by rw [hfo.out, hr, hnr, if_neg (by decide)]; exact HGP.out), HAP.out, HK8.out⟩
    case measure => simp [intOf]; omega
   | false =>
    rw [hpv] at HHO' hnr
    go_wp2_with fail
    refine wp_region_keeps (by kernel_rfl) (by kernel_rfl) ?_
    repeat (go_big_quiet_step (first | with_reducible exact KW.of HAA'.out _ | with_reducible exact KW.of HAB'.out _ | with_reducible exact KW.of HHO'.out _))
    refine wpQuiet_nil ?_
    intro w5 hk5
    obtain ⟨usvn, hgl, hgo, hgi⟩ := HGvn.out
    have HO5 := Lib.hid (own_keep hgo hk5 (fun _ _ => by simp))
    have HGI := Lib.hid hgi
    have HGO := Lib.hid (HGvy.out.keep hk5)
    have HGL := Lib.hid hgl
    have hz5 : w2.heap.size ≤ w5.heap.size := Nat.le_trans HK.out.size hk5.size
    have HK5 := Lib.hid (HK.out.trans hk5)
    have hqn := Lib.hid (show ((t.rows.take m).filter Pvn).length ≤ 4294967296 from Nat.le_trans (List.length_filter_le _ _) (by rw [List.length_take]; have := HT.out.lm; omega))
    have hft := Lib.hid (filter_take (p := Pvn) hlt)
    have hfo := Lib.hid (filter_take (p := Pvy) hlt)
    obtain ⟨qs, hqs⟩ : ∃ qs, (t.rows.take m).filter Pvn = qs := ⟨_, rfl⟩
    rw [hqs] at HO5 HGI HGL hqn hft
    have hbd := Lib.hid (show qs.length + 1 ≤ maxLen ∧ (qs.length + 1) * 24 ≤ 140737488355328 by have := hqn.out; simp only [maxLen]; omega)
    clear hgo hgi hgl hk5
    go_wp2_with (at_builtin; (refine wpList_append_lies _ rfl _ _ 23 rfl w2.heap.size 41 ir _ 1 24 Tryz.underlying23 hir hrz0 hrz1 hrz2 rfl (by decide) _ qs.length usvn rfl (HO5.out.alloc _) ⟨w5.heap.size, 0, none⟩ 1 1 [.slice Ar r.length cr] rfl rfl (World.news_of_block (heap_alloc_new _ _)) (by simp [Value.oneCell']) (by decide) hbd.out.1 hbd.out.2 (by simp; omega) _ rfl ?_); intro gw cap2 w8 hown8 hgrow8 hat8 hlt8)
    have HK8 := Lib.hid ((HK5.out.alloc (.cells #[.slice Ar r.length cr] 41)).grown hgrow8 (fun g hg => .inr (HO5.out.lt g hg).1))
    have HGN := Lib.hid (gath_snoc HGL.out HGI.out HRW.out hown8)
    have HGP := Lib.hid ((HGO.out.keep ((Keeps.refl [] w5).alloc _)).kept hgrow8 (apart_of (apart_flip hapvn)))
    have HAP := Lib.hid (apart_grown (n := qs.length + 1) (cap := cap2) hapvn hat8 HGO.out (by rw [size_alloc]; omega))
    clear hown8 hgrow8 hat8 hlt8
    go_wp2
    go_roundw
    case rel => exact ⟨m + 1, vy, _, rfl, rfl, by omega, by go_num, Lib.hid (by rw [hfo.out, hr, hpv, if_neg (by decide)]; exact HGP.out), Lib.hid (by rw [hft.out, hr, hnr, if_pos (by rfl)]; exact HGN.out), apart_flip HAP.out, HK8.out⟩
    case measure => simp [intOf]; omega
  ·have HB2 := Lib.hid (HGvy.out.is HKW.out)
   have HN2 := Lib.hid (HGvn.out.is HKW.out)
   obtain rfl : m = t.rows.length := by omega
   rw [List.take_length] at HB2 HN2
   clear HGvy HGvn
   obtain ⟨Ay, cy, hvy, _, _⟩ := HB2.out
   obtain ⟨An, cn, hvn, _, _⟩ := HN2.out
   subst hvy hvn
   have hlen : ([t.rows.filter Pvy, t.rows.filter Pvn].take no).length = no := by rw [List.length_take]; show min no 2 = no; omega
   have hsl := slice_toT (some ⟨wr.heap.size, 0, none⟩) 2 2 no hno
   have HRT := Lib.hid (tabs_two HB2.out HN2.out no hno 23)
   go_wp2
   go_ret2
   exact ⟨⟨some ⟨wr.heap.size, 0, none⟩, 2, by rw [hlen]; rfl, by rw [hlen]; exact hno, HRT.out⟩, HKW.out.alloc _⟩
end Go.Proofs.YtpfkjejknlkkoaaGreatDoor
namespace Go.Proofs.YtpfkjejknlkkoaaGreatDoor
open Go.RowKit
theorem row_len {t : Tb} (h : rightB t = true) : ∀ r ∈ t.rows, r.length = t.cols.length := fun r hr => by
 have := (rightB_parts.1 h).2.2 r hr
 unfold rowB at this
 simp only [Bool.and_eq_true, decide_eq_true_eq] at this
 exact this.1
theorem colIx_lt {l : List Cl} {nm : Bs} {k : Nat} (h : colIx l nm = some k) : k < l.length := (List.findIdx?_eq_some_iff_getElem.1 h).1
theorem col_kind {t : Tb} (h : rightB t = true) {k : Nat} (hk : k < t.cols.length) : (t.cols.getD k zC).kind = 1 ∨ (t.cols.getD k zC).kind = 2 := by
 rw [List.getD_eq_getElem?_getD, List.getElem?_eq_getElem hk]
 exact (okCol_of (rightB_parts.1 h).1 hk).2
theorem argOk_left {a : Ar} {t : Tb} {k : Nat} (hr : rightB t = true) (hk : colIx t.cols a.col = some k) : ∀ r ∈ t.rows, argOk a t.cols r := fun r hm => .inr ⟨k, hk, by rw [row_len hr r hm]; exact colIx_lt hk⟩
theorem argOk_kind {a : Ar} {t : Tb} (hr : rightB t = true) (hk : kindI a t.cols ≠ 0) : ∀ r ∈ t.rows, argOk a t.cols r := fun r hm => by
 by_cases hc : a.col = []
 ·exact .inl hc
 ·unfold kindI at hk
  rw [if_neg hc] at hk
  cases h : colIx t.cols a.col with
  | none => rw [h] at hk; exact absurd rfl hk
  | some k => exact argOk_left hr h r hm
theorem RdTbs.first {w : World} {A : Option Addr} {ts : List Tb} {t : Tb} {k : Nat} (h : RdTbs w A ts) (hk : k < ts.length) (ht : ts[k] = t) (hb : TbB t) : ∃ b o A1 c1 A2 c2, A = some ⟨b, o, none⟩ ∧ w.cell? ⟨b, o + k * 2, none⟩ = some (.slice A1 t.cols.length c1) ∧ w.cell? ⟨b, o + k * 2 + 1, none⟩ = some (.slice A2 t.rows.length c2) ∧ TabIn w t A1 A2 c1 c2 := by
 obtain ⟨us, hul, hur, hui⟩ := h
 obtain ⟨b, o, hA, _, _, hcs⟩ := hur.open' (by omega) (by omega)
 have d0 := hcs _ _ (flat2_at us k (by omega)).1
 have d1 := hcs _ _ (flat2_at us k (by omega)).2
 obtain ⟨⟨A1, c1, e1, h1, h2⟩, ⟨A2, c2, e2, h3, h4⟩⟩ := hui k (by omega) hk
 rw [ht] at e1 h1 h2 e2 h3 h4
 rw [e1] at d0
 rw [e2, ← Nat.add_assoc] at d1
 exact ⟨b, o, A1, c1, A2, c2, hA, d0, d1, ⟨h2, h1, h4, h3, hb.names, hb.ln, hb.lm, hb.lr⟩⟩
theorem cmp_parts {j : Jb} {a : List Cl} {out : List (List Cl)} (h : comparedJ j a = .ok out) : ∃ k, colIx a j.left.col = some k ∧ kindI j.right a = (a.getD k zC).kind := by
 unfold comparedJ at h
 split at h
 ·cases h
 ·cases hk : colIx a j.left.col with
  | none => rw [hk] at h; cases h
  | some k =>
   rw [hk] at h
   simp only at h
   split at h
   ·cases h
   ·rename_i h2
    exact ⟨k, rfl, Decidable.not_not.1 h2⟩
theorem sizes_of {j : Jb} {ins : List (List Cl)} {out : List (List Cl)} (h : colsJ j ins = .ok out) : ins.length = (sizesN j.code).1 := by
 unfold colsJ at h
 split at h
 ·cases h
 ·rename_i h2
  simp only [not_or, Decidable.not_not] at h2
  exact h2.2.1
set_option maxRecDepth 40000 in
theorem do_cmp (j : Jb) (hcode : j.code = 1 ∨ j.code = 9) (Ao : Option Addr) (co : Nat) (Ai : Option Addr) (ni ci : Nat) (Ac : Option Addr) (cc : Nat) (ins : List Tb) (AT : Option Addr) (ct : Nat) (w : World) (hE : OEnv w) (hJ : JobIn w j Ao co Ac cc) (hI : RdTbs w AT ins) (hB : ∀ t ∈ ins, TbB t) (hl : ins.length ≤ 4294967296) :
  Calls Tryz.prog 27 #[jAgg j Ao co Ai ni ci Ac cc, .slice AT ins.length ct] w fun e w' => DoOut (doJ j ins) e w' ∧ Keeps [] w w' := by
 refine do_any j Ao co Ai ni ci Ac cc ins AT ct w hI hB hl (fun W q AH ch hH => ?_) (fun out hr hc W q OA od => ?_)
 ·refine cols_any j Ao co Ai ni ci Ac cc (ins.map (·.cols)) AH ch W (hE.quiet q).c (hJ.quiet q) hH (fun l hm => ?_) (by omega) (fun h => by omega)
  obtain ⟨t, ht, rfl⟩ := List.mem_map.1 hm
  exact (hB t ht).ln
 ·have h1 : ins.length = 1 := by
   have := sizes_of hc
   rw [List.length_map] at this
   rw [this]
   rcases hcode with h | h <;> rw [h] <;> rfl
  have hol := cols_len hc
  have hol2 : out.length ≤ 2 := by rw [hol]; split <;> omega
  obtain ⟨t, rfl⟩ : ∃ t, ins = [t] := by
   match ins, h1 with
   | [t], _ => exact ⟨t, rfl⟩
  have hrt : rightB t = true := hr t (by simp)
  have hcj : comparedJ j t.cols = .ok out := by
   unfold colsJ at hc
   split at hc
   ·cases hc
   ·exact hc
  obtain ⟨k, hk, hkr⟩ := cmp_parts hcj
  have hal := argOk_left (a := j.left) hrt hk
  have har := argOk_kind (a := j.right) hrt (by
   rw [hkr]
   rcases col_kind hrt (colIx_lt hk) with h | h <;> rw [h] <;> decide)
  obtain ⟨b, o, A1, c1, A2, c2, rfl, d0, d1, hT⟩ := (hI.keep q).first (k := 0) (by simp) rfl (hB t (by simp))
  rw [Nat.zero_mul, Nat.add_zero] at d0 d1
  have hmj : madeJ j [t] out = .ok ([t.rows.filter (keepsJ j t), t.rows.filter fun r => !keepsJ j t r].take out.length) := by
   rw [madeJ_of (by omega) (by omega) (by omega)]
   unfold madeO
   rw [if_pos hcode]
   rfl
  rw [hmj]
  obtain ⟨at_, code, outs, js, cols, op, ⟨lc, lk, ln, lw⟩, ⟨rc, rk, rn, rw'⟩, retry⟩ := j
  rcases hcode with rfl | rfl
  ·exact made_1 t out.length hol2 OA od b o 1 ct A1 A2 c1 c2 (by omega) at_ retry lk ln rk rn outs js cols op lc lw rc rw' Ao co Ai ni ci Ac cc W d0 d1 hT hal har
  ·exact made_9 t out.length hol2 OA od b o 1 ct A1 A2 c1 c2 (by omega) at_ retry lk ln rk rn outs js cols op lc lw rc rw' Ao co Ai ni ci Ac cc W d0 d1 hT hal har
end Go.Proofs.YtpfkjejknlkkoaaGreatDoor
namespace Go.Proofs.YtpfkjejknlkkoaaGreatDoor
open Go.RowKit
theorem row_pos {t : Tb} (h : rightB t = true) : ∀ r ∈ t.rows, 1 ≤ r.length := fun r hr => by
 rw [row_len h r hr]
 have := (rightB_parts.1 h).1
 unfold colsB at this
 simp only [Bool.and_eq_true, decide_eq_true_eq] at this
 exact this.1.1
end Go.Proofs.YtpfkjejknlkkoaaGreatDoor
