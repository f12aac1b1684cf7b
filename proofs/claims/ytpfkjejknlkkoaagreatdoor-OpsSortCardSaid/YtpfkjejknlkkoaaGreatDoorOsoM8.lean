/- ops: picked. slices.Equal at columns. ops.Cols, of every code but Join's; Group's by a contract given. -/
import Derived.Test.YtpfkjejknlkkoaaGreatDoorOsoM7
import Derived.Test.YtpfkjejknlkkoaaGreatDoorOsoM5
import Derived.Test.YtpfkjejknlkkoaaGreatDoorOsoM4
set_option linter.unusedSimpArgs false
set_option linter.unusedVariables false
namespace Go.Proofs.YtpfkjejknlkkoaaGreatDoor
open Go.RowKit Go.BigFrame
attribute [local go_sem] bs_size bs_extract bs_append bs_toList
theorem slice_toS (A : Option Addr) (m d n : Nat) (h : n ≤ d) (W : World) : (Instr.slice 30 (.slice A m d) none (some (.int .i64 (n : Int))) none).run Tryz.prog W = .ok (.slice A n d) W := by
 have hT := Tryz.underlying30
 have hl0 : (0 : Int) ≤ (n : Int) := by omega
 have hl1 : (n : Int) ≤ (d : Int) := by omega
 cases A with
 | none => go_simp
 | some a => go_simp
theorem rdS_take {w : World} {A : Option Addr} {l : List Bs} {n : Nat} (h : Rd w [] 1 A l.length (strs l)) (hn : n ≤ l.length) : Rd w [] 1 A (l.take n).length (strs (l.take n)) := by
 refine ⟨by rw [strs_length, Nat.mul_one], fun h0 => ?_⟩
 obtain ⟨ad, e, hb, hlt, hc⟩ := h.2 (by rw [List.length_take] at h0; omega)
 refine ⟨ad, e, hb, hlt, fun j u hu => hc j u ?_⟩
 unfold strs at hu ⊢
 rw [List.map_take, List.getElem?_take] at hu
 split at hu
 ·exact hu
 ·cases hu
theorem cinfo' : (Tryz.prog.info? 39).map (fun i => (i.zero, i.size, i.bytes)) = some (some (.agg #[.string ⟨#[]⟩, .int .i64 0]), 2, 24) := by kernel_rfl
theorem csCells_snoc (q : List Cl) (v : Cl) : csCells (q ++ [v]) = csCells q ++ [.string (bs v.name), .int .i64 v.kind] := by simp [csCells, cCells]
theorem pickGo_at (a : List Cl) (l : List Bs) (m : Nat) (h : m < l.length) (out : List Cl) : pickGo a (l.take m) (l.drop m) out = match colIx a l[m] with
  | none => .error 7
  | some k => if l[m] ∈ l.take m then .error 9 else pickGo a (l.take (m + 1)) (l.drop (m + 1)) (out ++ [a.getD k zC]) := by
 rw [List.drop_eq_getElem_cons h]
 conv => lhs; unfold pickGo
 rw [List.take_succ_eq_append_getElem h]
 cases colIx a l[m] <;> rfl
set_option maxHeartbeats 8000000 in
theorem picked_any (j : Jb) (a : List Cl) (Ao : Option Addr) (co : Nat) (Ai : Option Addr) (ni ci : Nat) (Ac : Option Addr) (cc : Nat) (A : Option Addr) (c : Nat) (w : World) (hJ : JobIn w j Ao co Ac cc) (hA : Rd w [] 2 A a.length (csCells a)) (hc : a.length ≤ c) (hl : a.length ≤ 4294967296) :
  Calls Tryz.prog 60 #[jAgg j Ao co Ai ni ci Ac cc, .slice A a.length c] w fun e w' => ColsOut (pickedJ j a) e w' ∧ Keeps [] w w' := by
 obtain ⟨ic, hic, hcz0, hcz1, hcz2⟩ := info_parts cinfo'
 have HF0 := Lib.hid (fun (nm : Bs) W (q : Keeps [] w W) => find_any a nm A c W (hA.keep q) hl)
 have HA := Lib.hid hA
 have HJ := Lib.hid hJ.cols
 have hjc := hJ.cc
 have hjl := hJ.lc
 obtain ⟨R, hR⟩ : ∃ R, pickedJ j a = R := ⟨_, rfl⟩
 rw [hR]
 have HR : Hid (R = if j.cols.length = 0 ∨ 6 < j.cols.length then .error 1 else match pickGo a [] j.cols [] with
  | .error e => .error e
  | .ok out => .ok [if j.code = 4 then a else out]) := Lib.hid (by
  rw [← hR]
  unfold pickedJ
  split
  ·rfl
  ·cases pickGo a [] j.cols [] <;> rfl)
 clear hR hJ hA
 obtain ⟨at_, code, outs, ins, cols, op, ⟨lc, lk, ln, lw⟩, ⟨rc, rk, rn, rw'⟩, retry⟩ := j
 simp only at HR HJ hjc hjl
 have HK0 : Hid (Keeps [] w (w.alloc (.cells #[.int .i64 at_, .int .i64 code, .slice Ao outs.length co, .slice Ai ni ci, .slice Ac cols.length cc, .string (bs op), .string (bs lc), .int .i64 lk, .int .i64 ln, .string (bs lw), .string (bs rc), .int .i64 rk, .int .i64 rn, .string (bs rw'), .int .i64 retry] 36))) := Lib.hid ((Keeps.refl _ _).alloc _)
 have HBX := Lib.hid (Blk.new w 36 #[.int .i64 at_, .int .i64 code, .slice Ao outs.length co, .slice Ai ni ci, .slice Ac cols.length cc, .string (bs op), .string (bs lc), .int .i64 lk, .int .i64 ln, .string (bs lw), .string (bs rc), .int .i64 rk, .int .i64 rn, .string (bs rw'), .int .i64 retry])
 show Calls _ _ #[.agg #[.int .i64 at_, .int .i64 code, .slice Ao outs.length co, .slice Ai ni ci, .slice Ac cols.length cc, .string (bs op), .string (bs lc), .int .i64 lk, .int .i64 ln, .string (bs lw), .string (bs rc), .int .i64 rk, .int .i64 rn, .string (bs rw'), .int .i64 retry], .slice A a.length c] w _
 by_cases h0 : cols.length = 0
 ·have t0 : ((cols.length : Int) == 0) = true := by rw [h0]; rfl
  have HR2 : Hid (R = .error 1) := Lib.hid (by rw [HR.out, if_pos (.inl h0)])
  clear HR h0
  go_enter Tryz.func60, Tryz.ntmps60
  go_wp2
  go_ret2
  exact ⟨by rw [HR2.out]; rfl, HK0.out⟩
 ·have t0 : ((cols.length : Int) == 0) = false := by rw [beq_eq_false_iff_ne]; omega
  by_cases h6 : 6 < cols.length
  ·have t6 : decide ((6 : Int) < (cols.length : Int)) = true := decide_eq_true (by omega)
   have HR2 : Hid (R = .error 1) := Lib.hid (by rw [HR.out, if_pos (.inr h6)])
   clear HR h0 h6
   go_enter Tryz.func60, Tryz.ntmps60
   go_wp2
   go_ret2
   exact ⟨by rw [HR2.out]; rfl, HK0.out⟩
  ·have t6 : decide ((6 : Int) < (cols.length : Int)) = false := decide_eq_false (by omega)
   have hR3 : R = match pickGo a [] cols [] with
    | .error e => .error e
    | .ok out => .ok [if code = 4 then a else out] := by
    rw [HR.out, if_neg (by omega)]
   have HR3 := Lib.hid hR3
   obtain ⟨b, o, rfl, _, hb, hcs⟩ := HJ.out.open' (by omega) (by decide)
   have HCS := Lib.hid hcs
   have hpos : 0 < cols.length := by omega
   clear HR h0 hR3 hcs
   go_enter Tryz.func60, Tryz.ntmps60
   go_wp2
   obtain ⟨w2, hw2⟩ : ∃ w2, (w.alloc (.cells #[.int .i64 at_, .int .i64 code, .slice Ao outs.length co, .slice Ai ni ci, .slice (some ⟨b, o, none⟩) cols.length cc, .string (bs op), .string (bs lc), .int .i64 lk, .int .i64 ln, .string (bs lw), .string (bs rc), .int .i64 rk, .int .i64 rn, .string (bs rw'), .int .i64 retry] 36)) = w2 := ⟨_, rfl⟩
   rw [hw2] at HK0 HBX ⊢
   obtain ⟨bx, hbx⟩ : ∃ bx, w.heap.size = bx := ⟨_, rfl⟩
   rw [hbx] at HBX ⊢
   clear hw2 hbx
   go_loopw [6, 24] (fun u i wx => ∃ (m : Nat) (q : List Cl) (v : Value), v = u ∧ m ≤ cols.length ∧ q.length = m ∧ i = .int .i64 m ∧ wx.ownsRow w2.heap.size 39 2 v m (csCells q) ∧ Hid (pickGo a (cols.take m) (cols.drop m) q = pickGo a [] cols []) ∧ Keeps [] w2 wx) (fun _ i _ => cols.length - (intOf i).toNat)
   case atStart => exact ⟨0, [], _, rfl, Nat.zero_le _, rfl, rfl, World.ownsRow_nil _ _ _ _, by rw [List.take_zero, List.drop_zero]; exact rfl, Keeps.refl _ _⟩
   case round =>
    obtain ⟨m, q, v, rfl, hm, hq, rfl, hown, HPG, hk⟩ := hrel
    have HQ := Lib.hid hq
    have HO := Lib.hid hown
    have HK := Lib.hid hk
    have HKW := Lib.hid (HK0.out.trans hk)
    clear hq hown hk
    by_cases hlt : m < cols.length
    ·have d0 := HKW.out.cell_of (HCS.out m _ (strs_at' cols m hlt)) (by simp)
     have y4 : wr.cell? ⟨bx, 4, none⟩ = some (.slice (some ⟨b, o, none⟩) cols.length cc) := HK.out.cell_of (HBX.out.cell 4) (by simp)
     have hst := pickGo_at a cols m hlt q
     rw [HPG.out] at hst
     have HST := Lib.hid hst
     have HCT := Lib.hid (fun W (z : Keeps [] w W) => contains_any (cols.take m) (cols[m]) (some ⟨b, o, none⟩) cc W (rdS_take (HJ.out.keep z) hm) (by rw [List.length_take]; omega))
     have hml : (cols.take m).length = m := by rw [List.length_take]; omega
     rw [hml] at HCT
     have hsl := slice_toS (some ⟨b, o, none⟩) cols.length cc m (by omega)
     have HF := Lib.hid (HF0.out cols[m])
     clear hst hml
     generalize cols[m] = nm at *
     cases hci : colIx a nm with
     | none =>
      rw [hci] at HF HST
      have HR4 : Hid (R = .error 7) := Lib.hid (by rw [HR3.out, HST.out])
      clear hci
      go_wp2_with fail
      refine (HF.out _ HKW.out).mono ?_
      rintro e w5 ⟨rfl, hk5⟩
      simp only [optI]
      go_wp2
      go_ret2
      exact ⟨by rw [HR4.out]; rfl, HKW.out.trans hk5⟩
     | some k =>
      rw [hci] at HF HST
      have hkl : k < a.length := (List.findIdx?_eq_some_iff_getElem.1 hci).1
      have hgd : a.getD k zC = a[k] := by rw [List.getD_eq_getElem?_getD, List.getElem?_eq_getElem hkl]; rfl
      obtain ⟨b4, o4, hAe, _, hb4, hcs⟩ := HA.out.open' (by omega) (by omega)
      subst hAe
      have d1 := hcs (k * 2) _ (csCells_at a k hkl).1
      have d2 := hcs (k * 2 + 1) _ (csCells_at a k hkl).2
      rw [← Nat.add_assoc] at d2
      have hi0 : ((k : Int) < 0) = False := eq_false (by omega)
      have hi1 : (0 : Int) ≤ (k : Int) := by omega
      have hi2 : (k : Int) < (a.length : Int) := by omega
      by_cases hin : nm ∈ cols.take m
      ·rw [decide_eq_true hin] at HCT
       have HR4 : Hid (R = .error 9) := Lib.hid (by rw [HR3.out, HST.out]; simp only; rw [if_pos hin])
       clear hci hin hcs hgd d1 d2
       go_wp2_with fail
       refine (HF.out _ HKW.out).mono ?_
       rintro e w5 ⟨rfl, hk5⟩
       simp only [optI]
       have y5 := hk5.cell_of y4 (by simp)
       go_wp2_with (go_at_call 84; refine (HCT.out _ (HKW.out.trans hk5)).mono ?_; rintro e w6 ⟨rfl, rfl⟩)
       go_ret2
       exact ⟨by rw [HR4.out]; rfl, HKW.out.trans hk5⟩
      ·rw [decide_eq_false hin] at HCT
       have HPG2 : Hid (pickGo a (cols.take (m + 1)) (cols.drop (m + 1)) (q ++ [a[k]]) = pickGo a [] cols []) := Lib.hid (by rw [HST.out]; simp only; rw [if_neg hin, hgd])
       have HD1 := Lib.hid d1
       have HD2 := Lib.hid d2
       clear hci hin hcs hgd d1 d2
       generalize a[k] = cl at *
       go_wp2_with fail
       refine (HF.out _ HKW.out).mono ?_
       rintro e w5 ⟨rfl, hk5⟩
       simp only [optI]
       have y5 := hk5.cell_of y4 (by simp)
       have e1 := (HKW.out.trans hk5).cell_of HD1.out (by simp)
       have e2 := (HKW.out.trans hk5).cell_of HD2.out (by simp)
       have HO5 := Lib.hid (own_keep HO.out hk5 (fun _ _ => by simp))
       have hz5 : w2.heap.size ≤ w5.heap.size := Nat.le_trans HK.out.size hk5.size
       have HK5 := Lib.hid (HK.out.trans hk5)
       have HCT5 := Lib.hid (HCT.out _ (HKW.out.trans hk5))
       have hbd := Lib.hid (show m + 1 ≤ maxLen ∧ (m + 1) * 24 ≤ 140737488355328 by simp only [maxLen]; omega)
       clear hk5 y4
       go_wp2_with (first | (go_at_call 84; refine HCT5.out.mono ?_; rintro e w6 ⟨rfl, rfl⟩) | (at_builtin; refine wpList_append_lies _ rfl _ _ 22 rfl w2.heap.size 39 ic _ 2 24 Tryz.underlying22 hic hcz0 hcz1 hcz2 rfl (by decide) _ m (csCells q) rfl (HO5.out.alloc _) ⟨w5.heap.size, 0, none⟩ 1 1 [.string (bs cl.name), .int .i64 cl.kind] rfl rfl (World.news_of_block (heap_alloc_new _ _)) (by simp [Value.oneCell']) (by decide) hbd.out.1 hbd.out.2 (by simp; omega) _ rfl ?_; intro gw cap2 w8 hown8 hgrow8 hat8 hlt8))
       have HK8 := Lib.hid ((HK5.out.alloc (.cells #[.string (bs cl.name), .int .i64 cl.kind] 39)).grown hgrow8 (fun g hg => .inr (HO5.out.lt g hg).1))
       rw [← csCells_snoc] at hown8
       have HO8 := Lib.hid hown8
       clear hown8 hgrow8 hat8 hlt8
       go_wp2
       go_roundw
       case rel => exact ⟨m + 1, q ++ [cl], _, rfl, by omega, by simp [HQ.out], by go_num, HO8.out, HPG2, HK8.out⟩
       case measure => simp [intOf]; omega
    ·obtain rfl : m = cols.length := by omega
     have hpg := HPG.out
     rw [List.drop_length] at hpg
     have HR4 : Hid (R = .ok [if code = 4 then a else q]) := Lib.hid (by rw [HR3.out, ← hpg]; rfl)
     clear hpg HPG
     have y1 : wr.cell? ⟨bx, 1, none⟩ = some (.int .i64 code) := HK.out.cell_of (HBX.out.cell 1) (by simp)
     by_cases h4 : code = 4
     ·have t4 : (code == 4) = true := by rw [h4]; rfl
      have HR5 : Hid (R = .ok [a]) := Lib.hid (by rw [HR4.out, if_pos h4])
      have HRO := Lib.hid (heads_one (HA.out.keep HKW.out) hc 22)
      clear h4
      go_wp2
      go_ret2
      exact ⟨by rw [HR5.out]; exact ⟨_, _, rfl, Nat.le_refl _, HRO.out⟩, HKW.out.alloc _⟩
     ·have t4 : (code == 4) = false := by rw [beq_eq_false_iff_ne]; exact h4
      have HR5 : Hid (R = .ok [q]) := Lib.hid (by rw [HR4.out, if_neg h4])
      obtain ⟨Aq, cq, hv, hcq, hrd⟩ : ∃ A c, v = .slice A q.length c ∧ q.length ≤ c ∧ Rd wr [] 2 A q.length (csCells q) := by
       have h := HO.out
       rcases h.2 with ⟨hv, h0⟩ | ⟨g, cap, cur, hv, hb, hh, hc, r⟩
       ·omega
       ·exact ⟨_, cap, by rw [HQ.out]; exact hv, by rw [HQ.out]; exact hc, by rw [HQ.out]; exact Rd.of_own (hv ▸ h) (fun _ _ => by simp)⟩
      subst hv
      have HRO := Lib.hid (heads_one hrd hcq 22)
      clear h4 hrd
      go_wp2
      go_ret2
      exact ⟨by rw [HR5.out]; exact ⟨_, _, rfl, Nat.le_refl _, HRO.out⟩, HKW.out.alloc _⟩
end Go.Proofs.YtpfkjejknlkkoaaGreatDoor
namespace Go.Proofs.YtpfkjejknlkkoaaGreatDoor
open Go.RowKit
attribute [local go_sem] bs_size bs_extract bs_append bs_toList
set_option maxHeartbeats 2000000 in
theorem equalC_any (l m : List Cl) (A B : Option Addr) (c d : Nat) (w : World) (hA : Rd w [] 2 A l.length (csCells l)) (hB : Rd w [] 2 B m.length (csCells m)) (hl : l.length ≤ 4294967296) (hm : m.length ≤ 4294967296) :
  Calls Tryz.prog 31 #[.slice A l.length c, .slice B m.length d] w fun e w' => e = .returned (.bool (decide (l = m))) ∧ Keeps [] w w' := by
 have HA := Lib.hid hA
 have HB := Lib.hid hB
 clear hA hB
 by_cases hlen : l.length = m.length
 ·have t1 : ((l.length : Int) != (m.length : Int)) = false := by rw [hlen]; simp
  have t2 : (l.length != m.length) = false := by rw [hlen]; simp
  have HL := Lib.hid hlen
  clear hlen
  go_enter Tryz.func31, Tryz.ntmps31
  go_wp2
  go_loopw [13] (fun i wr => ∃ n : Nat, n ≤ l.length ∧ i = .int .i64 n ∧ Hid (l.take n = m.take n) ∧ Keeps [] w wr) (fun i _ => l.length - (intOf i).toNat)
  case atStart => exact ⟨0, Nat.zero_le _, rfl, by rw [List.take_zero, List.take_zero]; exact rfl, Keeps.refl _ _⟩
  case round =>
   obtain ⟨n, hn, rfl, hno, hk⟩ := hrel
   by_cases hlt : n < l.length
   ·have hlt2 : n < m.length := by rw [← HL.out]; exact hlt
    obtain ⟨b, o, rfl, _, hb, hc⟩ := (HA.out.keep hk).open' (by omega) (by omega)
    obtain ⟨b2, o2, rfl, _, hb2, hc2⟩ := (HB.out.keep hk).open' (by omega) (by omega)
    have d1 := hc (n * 2) _ (csCells_at l n hlt).1
    have d2 := hc (n * 2 + 1) _ (csCells_at l n hlt).2
    have e1 := hc2 (n * 2) _ (csCells_at m n hlt2).1
    have e2 := hc2 (n * 2 + 1) _ (csCells_at m n hlt2).2
    rw [← Nat.add_assoc] at d2 e2
    have hi0 : (0 : Int) ≤ (n : Int) := by omega
    have hi1 : (n : Int) < (l.length : Int) := by omega
    have hi2 : (n : Int) < (m.length : Int) := by omega
    have hst : l.take (n + 1) = l.take n ++ [l[n]] := List.take_succ_eq_append_getElem hlt
    have hst2 : m.take (n + 1) = m.take n ++ [m[n]] := List.take_succ_eq_append_getElem hlt2
    have hdif : l[n] ≠ m[n] → decide (l = m) = false := fun h => by
     rw [decide_eq_false_iff_not]
     rintro rfl
     exact h rfl
    have hq := cNeq l[n] m[n]
    generalize l[n] = x at *
    generalize m[n] = y at *
    clear hc hc2
    by_cases hxy : x = y
    ·have hno' : Hid (l.take (n + 1) = m.take (n + 1)) := Lib.hid (by rw [hst, hst2, hno.out, hxy])
     rw [decide_eq_true hxy] at hq
     clear hst hst2 hdif hxy
     go_wp2_with fail
     go_quiet (fail)
     go_wp2
     go_roundw
     case rel => exact ⟨n + 1, by omega, by go_num, hno', hk.drewN _⟩
     case measure => simp [intOf]; omega
    ·have HD := Lib.hid (hdif hxy)
     rw [decide_eq_false hxy] at hq
     clear hst hst2 hdif hxy
     go_wp2_with fail
     go_quiet (fail)
     go_wp2
     go_ret
     exact ⟨by rw [HD.out]; rfl, hk.drewN _⟩
   ·have hfin : Hid (decide (l = m) = true) := Lib.hid (by
     have h := hno.out
     rw [List.take_of_length_le (by omega), List.take_of_length_le (by rw [← HL.out]; omega)] at h
     exact decide_eq_true h)
    go_wp2
    go_ret
    exact ⟨by rw [hfin.out]; rfl, hk⟩
 ·have t1 : ((l.length : Int) != (m.length : Int)) = true := by rw [bne_iff_ne]; omega
  have t2 : (l.length != m.length) = true := by rw [bne_iff_ne]; exact hlen
  have HD : Hid (decide (l = m) = false) := Lib.hid (by rw [decide_eq_false_iff_not]; rintro rfl; exact hlen rfl)
  clear hlen
  go_enter Tryz.func31, Tryz.ntmps31
  go_wp2
  go_ret
  exact ⟨by rw [HD.out]; rfl, Keeps.refl _ _⟩
end Go.Proofs.YtpfkjejknlkkoaaGreatDoor
namespace Go.Proofs.YtpfkjejknlkkoaaGreatDoor
open Go.RowKit Go.BigFrame
attribute [local go_sem] bs_size bs_extract bs_append bs_toList
attribute [local go_sem] KW.cell
theorem ColsOut.split {R : Except Int (List (List Cl))} {e : Ending} {w : World} (h : ColsOut R e w) : ∃ u v, e = .returned (.tuple #[u, v]) ∧ ColsOut R (.returned (.tuple #[u, v])) w := by
 cases R with
 | error x => exact ⟨_, _, h, rfl⟩
 | ok out =>
  obtain ⟨B, d, rfl, h1, h2⟩ := h
  exact ⟨_, _, rfl, B, d, rfl, h1, h2⟩
theorem RdHeads.first {w : World} {A : Option Addr} {ls : List (List Cl)} (h : RdHeads w A ls) (h0 : 0 < ls.length) (hl : ls.length ≤ 4294967296) : ∃ b o B d, A = some ⟨b, o, none⟩ ∧ b < w.heap.size ∧ w.cell? ⟨b, o, none⟩ = some (.slice B (ls.getD 0 []).length d) ∧ (ls.getD 0 []).length ≤ d ∧ Rd w [] 2 B (ls.getD 0 []).length (csCells (ls.getD 0 [])) := by
 obtain ⟨us, h1, h2, h3⟩ := h
 obtain ⟨b, o, rfl, _, hb, hc⟩ := h2.open' (by omega) (by omega)
 obtain ⟨B, d, hu, hd, hB⟩ := h3 0 (by omega) h0
 have hg : ls.getD 0 [] = ls[0] := by rw [List.getD_eq_getElem?_getD, List.getElem?_eq_getElem h0]; rfl
 refine ⟨b, o, B, d, rfl, hb, ?_, by rw [hg]; exact hd, by rw [hg]; exact hB⟩
 rw [hg, ← hu]
 exact hc 0 _ (List.getElem?_eq_getElem (by omega))
theorem RdHeads.second {w : World} {b o : Nat} {ls : List (List Cl)} (h : RdHeads w (some ⟨b, o, none⟩) ls) (h0 : 1 < ls.length) (hl : ls.length ≤ 4294967296) : ∃ B d, w.cell? ⟨b, o + 1, none⟩ = some (.slice B (ls.getD 1 []).length d) ∧ (ls.getD 1 []).length ≤ d ∧ Rd w [] 2 B (ls.getD 1 []).length (csCells (ls.getD 1 [])) := by
 obtain ⟨us, h1, h2, h3⟩ := h
 obtain ⟨b2, o2, he, _, hb, hc⟩ := h2.open' (by omega) (by omega)
 cases he
 obtain ⟨B, d, hu, hd, hB⟩ := h3 1 (by omega) h0
 have hg : ls.getD 1 [] = ls[1] := by rw [List.getD_eq_getElem?_getD, List.getElem?_eq_getElem h0]; rfl
 refine ⟨B, d, ?_, by rw [hg]; exact hd, by rw [hg]; exact hB⟩
 rw [hg, ← hu]
 exact hc 1 _ (List.getElem?_eq_getElem (by omega))
set_option maxHeartbeats 4000000 in
theorem cols_1 (at_ retry lk ln rk rn : Int) (outs js cols : List Bs) (op lc lw rc rw' : Bs) (Ao : Option Addr) (co : Nat) (Ai : Option Addr) (ni ci : Nat) (Ac : Option Addr) (cc : Nat) (ins : List (List Cl)) (AH : Option Addr) (ch : Nat) (w : World) (hH : RdHeads w AH ins) (hi : ins.length = 1) (ho : outs.length = 1)
  (hf : ∀ A d W, (ins.getD 0 []).length ≤ d → Rd w [] 2 A (ins.getD 0 []).length (csCells (ins.getD 0 [])) → Keeps [] w W → Calls Tryz.prog 58 #[jAgg (⟨at_, 1, outs, js, cols, op, ⟨lc, lk, ln, lw⟩, ⟨rc, rk, rn, rw'⟩, retry⟩ : Jb) Ao co Ai ni ci Ac cc, .slice A (ins.getD 0 []).length d] W fun e w' => ColsOut (comparedJ (⟨at_, 1, outs, js, cols, op, ⟨lc, lk, ln, lw⟩, ⟨rc, rk, rn, rw'⟩, retry⟩ : Jb) (ins.getD 0 [])) e w' ∧ Keeps [] W w') :
  Calls Tryz.prog 44 #[.agg #[.int .i64 at_, .int .i64 1, .slice Ao outs.length co, .slice Ai ni ci, .slice Ac cols.length cc, .string (bs op), .string (bs lc), .int .i64 lk, .int .i64 ln, .string (bs lw), .string (bs rc), .int .i64 rk, .int .i64 rn, .string (bs rw'), .int .i64 retry], .slice AH ins.length ch] w fun e w' => ColsOut (comparedJ (⟨at_, 1, outs, js, cols, op, ⟨lc, lk, ln, lw⟩, ⟨rc, rk, rn, rw'⟩, retry⟩ : Jb) (ins.getD 0 [])) e w' ∧ Keeps [] w w' := by
 obtain ⟨b, o, A, d, rfl, hb, hd0, hd, hA⟩ := hH.first (by omega) (by omega)
 have HF := Lib.hid (fun W => hf A d W hd hA)
 clear hf hA hH
 generalize comparedJ (⟨at_, 1, outs, js, cols, op, ⟨lc, lk, ln, lw⟩, ⟨rc, rk, rn, rw'⟩, retry⟩ : Jb) (ins.getD 0 []) = R at *
 have HF' : Hid (∀ W, Keeps [] w W → Calls Tryz.prog 58 #[.agg #[.int .i64 at_, .int .i64 1, .slice Ao outs.length co, .slice Ai ni ci, .slice Ac cols.length cc, .string (bs op), .string (bs lc), .int .i64 lk, .int .i64 ln, .string (bs lw), .string (bs rc), .int .i64 rk, .int .i64 rn, .string (bs rw'), .int .i64 retry], .slice A (ins.getD 0 []).length d] W fun e w' => ColsOut R e w' ∧ Keeps [] W w') := HF
 clear HF
 generalize (ins.getD 0 []).length = n at *
 have HS : Hid (∀ W, Calls Tryz.prog 57 #[.int .i64 1] W fun e W' => e = .returned (.tuple #[.int .i64 1, .int .i64 1]) ∧ W = W') := Lib.hid fun W => by
  have h := sizes_any 1 W
  rw [show sizesN 1 = (1, 1) by decide] at h
  exact h
 rw [hi]
 rw [ho] at HF' ⊢
 clear hi ho
 go_enter Tryz.func44, Tryz.ntmps44
 go_wp2_with (go_at_call 57; refine (HS.out _).mono ?_; rintro e w6 ⟨rfl, rfl⟩)
 refine (HF'.out _ ((Keeps.refl _ _).alloc _)).mono ?_
 rintro e w3 ⟨hco, hk3⟩
 obtain ⟨u, v, rfl, hco⟩ := hco.split
 have HCO := Lib.hid hco
 have HK3 := Lib.hid (((Keeps.refl _ _).alloc _).trans hk3)
 clear hk3 hco
 go_wp2
 go_ret2
 exact ⟨HCO.out, HK3.out⟩
set_option maxHeartbeats 4000000 in
theorem cols_9 (at_ retry lk ln rk rn : Int) (outs js cols : List Bs) (op lc lw rc rw' : Bs) (Ao : Option Addr) (co : Nat) (Ai : Option Addr) (ni ci : Nat) (Ac : Option Addr) (cc : Nat) (ins : List (List Cl)) (AH : Option Addr) (ch : Nat) (w : World) (hH : RdHeads w AH ins) (hi : ins.length = 1) (ho : outs.length = 2)
  (hf : ∀ A d W, (ins.getD 0 []).length ≤ d → Rd w [] 2 A (ins.getD 0 []).length (csCells (ins.getD 0 [])) → Keeps [] w W → Calls Tryz.prog 58 #[jAgg (⟨at_, 9, outs, js, cols, op, ⟨lc, lk, ln, lw⟩, ⟨rc, rk, rn, rw'⟩, retry⟩ : Jb) Ao co Ai ni ci Ac cc, .slice A (ins.getD 0 []).length d] W fun e w' => ColsOut (comparedJ (⟨at_, 9, outs, js, cols, op, ⟨lc, lk, ln, lw⟩, ⟨rc, rk, rn, rw'⟩, retry⟩ : Jb) (ins.getD 0 [])) e w' ∧ Keeps [] W w') :
  Calls Tryz.prog 44 #[.agg #[.int .i64 at_, .int .i64 9, .slice Ao outs.length co, .slice Ai ni ci, .slice Ac cols.length cc, .string (bs op), .string (bs lc), .int .i64 lk, .int .i64 ln, .string (bs lw), .string (bs rc), .int .i64 rk, .int .i64 rn, .string (bs rw'), .int .i64 retry], .slice AH ins.length ch] w fun e w' => ColsOut (comparedJ (⟨at_, 9, outs, js, cols, op, ⟨lc, lk, ln, lw⟩, ⟨rc, rk, rn, rw'⟩, retry⟩ : Jb) (ins.getD 0 [])) e w' ∧ Keeps [] w w' := by
 obtain ⟨b, o, A, d, rfl, hb, hd0, hd, hA⟩ := hH.first (by omega) (by omega)
 have HF := Lib.hid (fun W => hf A d W hd hA)
 clear hf hA hH
 generalize comparedJ (⟨at_, 9, outs, js, cols, op, ⟨lc, lk, ln, lw⟩, ⟨rc, rk, rn, rw'⟩, retry⟩ : Jb) (ins.getD 0 []) = R at *
 have HF' : Hid (∀ W, Keeps [] w W → Calls Tryz.prog 58 #[.agg #[.int .i64 at_, .int .i64 9, .slice Ao outs.length co, .slice Ai ni ci, .slice Ac cols.length cc, .string (bs op), .string (bs lc), .int .i64 lk, .int .i64 ln, .string (bs lw), .string (bs rc), .int .i64 rk, .int .i64 rn, .string (bs rw'), .int .i64 retry], .slice A (ins.getD 0 []).length d] W fun e w' => ColsOut R e w' ∧ Keeps [] W w') := HF
 clear HF
 generalize (ins.getD 0 []).length = n at *
 have HS : Hid (∀ W, Calls Tryz.prog 57 #[.int .i64 9] W fun e W' => e = .returned (.tuple #[.int .i64 1, .int .i64 2]) ∧ W = W') := Lib.hid fun W => by
  have h := sizes_any 9 W
  rw [show sizesN 9 = (1, 2) by decide] at h
  exact h
 rw [hi]
 rw [ho] at HF' ⊢
 clear hi ho
 go_enter Tryz.func44, Tryz.ntmps44
 go_wp2_with (go_at_call 57; refine (HS.out _).mono ?_; rintro e w6 ⟨rfl, rfl⟩)
 refine (HF'.out _ ((Keeps.refl _ _).alloc _)).mono ?_
 rintro e w3 ⟨hco, hk3⟩
 obtain ⟨u, v, rfl, hco⟩ := hco.split
 have HCO := Lib.hid hco
 have HK3 := Lib.hid (((Keeps.refl _ _).alloc _).trans hk3)
 clear hk3 hco
 go_wp2
 go_ret2
 exact ⟨HCO.out, HK3.out⟩
set_option maxHeartbeats 4000000 in
theorem cols_2 (at_ retry lk ln rk rn : Int) (outs js cols : List Bs) (op lc lw rc rw' : Bs) (Ao : Option Addr) (co : Nat) (Ai : Option Addr) (ni ci : Nat) (Ac : Option Addr) (cc : Nat) (ins : List (List Cl)) (AH : Option Addr) (ch : Nat) (w : World) (hH : RdHeads w AH ins) (hi : ins.length = 1) (ho : outs.length = 1)
  (hf : ∀ A d W, (ins.getD 0 []).length ≤ d → Rd w [] 2 A (ins.getD 0 []).length (csCells (ins.getD 0 [])) → Keeps [] w W → Calls Tryz.prog 59 #[jAgg (⟨at_, 2, outs, js, cols, op, ⟨lc, lk, ln, lw⟩, ⟨rc, rk, rn, rw'⟩, retry⟩ : Jb) Ao co Ai ni ci Ac cc, .slice A (ins.getD 0 []).length d] W fun e w' => ColsOut (setJ (⟨at_, 2, outs, js, cols, op, ⟨lc, lk, ln, lw⟩, ⟨rc, rk, rn, rw'⟩, retry⟩ : Jb) (ins.getD 0 [])) e w' ∧ Keeps [] W w') :
  Calls Tryz.prog 44 #[.agg #[.int .i64 at_, .int .i64 2, .slice Ao outs.length co, .slice Ai ni ci, .slice Ac cols.length cc, .string (bs op), .string (bs lc), .int .i64 lk, .int .i64 ln, .string (bs lw), .string (bs rc), .int .i64 rk, .int .i64 rn, .string (bs rw'), .int .i64 retry], .slice AH ins.length ch] w fun e w' => ColsOut (setJ (⟨at_, 2, outs, js, cols, op, ⟨lc, lk, ln, lw⟩, ⟨rc, rk, rn, rw'⟩, retry⟩ : Jb) (ins.getD 0 [])) e w' ∧ Keeps [] w w' := by
 obtain ⟨b, o, A, d, rfl, hb, hd0, hd, hA⟩ := hH.first (by omega) (by omega)
 have HF := Lib.hid (fun W => hf A d W hd hA)
 clear hf hA hH
 generalize setJ (⟨at_, 2, outs, js, cols, op, ⟨lc, lk, ln, lw⟩, ⟨rc, rk, rn, rw'⟩, retry⟩ : Jb) (ins.getD 0 []) = R at *
 have HF' : Hid (∀ W, Keeps [] w W → Calls Tryz.prog 59 #[.agg #[.int .i64 at_, .int .i64 2, .slice Ao outs.length co, .slice Ai ni ci, .slice Ac cols.length cc, .string (bs op), .string (bs lc), .int .i64 lk, .int .i64 ln, .string (bs lw), .string (bs rc), .int .i64 rk, .int .i64 rn, .string (bs rw'), .int .i64 retry], .slice A (ins.getD 0 []).length d] W fun e w' => ColsOut R e w' ∧ Keeps [] W w') := HF
 clear HF
 generalize (ins.getD 0 []).length = n at *
 have HS : Hid (∀ W, Calls Tryz.prog 57 #[.int .i64 2] W fun e W' => e = .returned (.tuple #[.int .i64 1, .int .i64 1]) ∧ W = W') := Lib.hid fun W => by
  have h := sizes_any 2 W
  rw [show sizesN 2 = (1, 1) by decide] at h
  exact h
 rw [hi]
 rw [ho] at HF' ⊢
 clear hi ho
 go_enter Tryz.func44, Tryz.ntmps44
 go_wp2_with (go_at_call 57; refine (HS.out _).mono ?_; rintro e w6 ⟨rfl, rfl⟩)
 refine (HF'.out _ ((Keeps.refl _ _).alloc _)).mono ?_
 rintro e w3 ⟨hco, hk3⟩
 obtain ⟨u, v, rfl, hco⟩ := hco.split
 have HCO := Lib.hid hco
 have HK3 := Lib.hid (((Keeps.refl _ _).alloc _).trans hk3)
 clear hk3 hco
 go_wp2
 go_ret2
 exact ⟨HCO.out, HK3.out⟩
set_option maxHeartbeats 4000000 in
theorem cols_3 (at_ retry lk ln rk rn : Int) (outs js cols : List Bs) (op lc lw rc rw' : Bs) (Ao : Option Addr) (co : Nat) (Ai : Option Addr) (ni ci : Nat) (Ac : Option Addr) (cc : Nat) (ins : List (List Cl)) (AH : Option Addr) (ch : Nat) (w : World) (hH : RdHeads w AH ins) (hi : ins.length = 1) (ho : outs.length = 1)
  (hf : ∀ A d W, (ins.getD 0 []).length ≤ d → Rd w [] 2 A (ins.getD 0 []).length (csCells (ins.getD 0 [])) → Keeps [] w W → Calls Tryz.prog 60 #[jAgg (⟨at_, 3, outs, js, cols, op, ⟨lc, lk, ln, lw⟩, ⟨rc, rk, rn, rw'⟩, retry⟩ : Jb) Ao co Ai ni ci Ac cc, .slice A (ins.getD 0 []).length d] W fun e w' => ColsOut (pickedJ (⟨at_, 3, outs, js, cols, op, ⟨lc, lk, ln, lw⟩, ⟨rc, rk, rn, rw'⟩, retry⟩ : Jb) (ins.getD 0 [])) e w' ∧ Keeps [] W w') :
  Calls Tryz.prog 44 #[.agg #[.int .i64 at_, .int .i64 3, .slice Ao outs.length co, .slice Ai ni ci, .slice Ac cols.length cc, .string (bs op), .string (bs lc), .int .i64 lk, .int .i64 ln, .string (bs lw), .string (bs rc), .int .i64 rk, .int .i64 rn, .string (bs rw'), .int .i64 retry], .slice AH ins.length ch] w fun e w' => ColsOut (pickedJ (⟨at_, 3, outs, js, cols, op, ⟨lc, lk, ln, lw⟩, ⟨rc, rk, rn, rw'⟩, retry⟩ : Jb) (ins.getD 0 [])) e w' ∧ Keeps [] w w' := by
 obtain ⟨b, o, A, d, rfl, hb, hd0, hd, hA⟩ := hH.first (by omega) (by omega)
 have HF := Lib.hid (fun W => hf A d W hd hA)
 clear hf hA hH
 generalize pickedJ (⟨at_, 3, outs, js, cols, op, ⟨lc, lk, ln, lw⟩, ⟨rc, rk, rn, rw'⟩, retry⟩ : Jb) (ins.getD 0 []) = R at *
 have HF' : Hid (∀ W, Keeps [] w W → Calls Tryz.prog 60 #[.agg #[.int .i64 at_, .int .i64 3, .slice Ao outs.length co, .slice Ai ni ci, .slice Ac cols.length cc, .string (bs op), .string (bs lc), .int .i64 lk, .int .i64 ln, .string (bs lw), .string (bs rc), .int .i64 rk, .int .i64 rn, .string (bs rw'), .int .i64 retry], .slice A (ins.getD 0 []).length d] W fun e w' => ColsOut R e w' ∧ Keeps [] W w') := HF
 clear HF
 generalize (ins.getD 0 []).length = n at *
 have HS : Hid (∀ W, Calls Tryz.prog 57 #[.int .i64 3] W fun e W' => e = .returned (.tuple #[.int .i64 1, .int .i64 1]) ∧ W = W') := Lib.hid fun W => by
  have h := sizes_any 3 W
  rw [show sizesN 3 = (1, 1) by decide] at h
  exact h
 rw [hi]
 rw [ho] at HF' ⊢
 clear hi ho
 go_enter Tryz.func44, Tryz.ntmps44
 go_wp2_with (go_at_call 57; refine (HS.out _).mono ?_; rintro e w6 ⟨rfl, rfl⟩)
 refine (HF'.out _ ((Keeps.refl _ _).alloc _)).mono ?_
 rintro e w3 ⟨hco, hk3⟩
 obtain ⟨u, v, rfl, hco⟩ := hco.split
 have HCO := Lib.hid hco
 have HK3 := Lib.hid (((Keeps.refl _ _).alloc _).trans hk3)
 clear hk3 hco
 go_wp2
 go_ret2
 exact ⟨HCO.out, HK3.out⟩
set_option maxHeartbeats 4000000 in
theorem cols_4 (at_ retry lk ln rk rn : Int) (outs js cols : List Bs) (op lc lw rc rw' : Bs) (Ao : Option Addr) (co : Nat) (Ai : Option Addr) (ni ci : Nat) (Ac : Option Addr) (cc : Nat) (ins : List (List Cl)) (AH : Option Addr) (ch : Nat) (w : World) (hH : RdHeads w AH ins) (hi : ins.length = 1) (ho : outs.length = 1)
  (hf : ∀ A d W, (ins.getD 0 []).length ≤ d → Rd w [] 2 A (ins.getD 0 []).length (csCells (ins.getD 0 [])) → Keeps [] w W → Calls Tryz.prog 60 #[jAgg (⟨at_, 4, outs, js, cols, op, ⟨lc, lk, ln, lw⟩, ⟨rc, rk, rn, rw'⟩, retry⟩ : Jb) Ao co Ai ni ci Ac cc, .slice A (ins.getD 0 []).length d] W fun e w' => ColsOut (pickedJ (⟨at_, 4, outs, js, cols, op, ⟨lc, lk, ln, lw⟩, ⟨rc, rk, rn, rw'⟩, retry⟩ : Jb) (ins.getD 0 [])) e w' ∧ Keeps [] W w') :
  Calls Tryz.prog 44 #[.agg #[.int .i64 at_, .int .i64 4, .slice Ao outs.length co, .slice Ai ni ci, .slice Ac cols.length cc, .string (bs op), .string (bs lc), .int .i64 lk, .int .i64 ln, .string (bs lw), .string (bs rc), .int .i64 rk, .int .i64 rn, .string (bs rw'), .int .i64 retry], .slice AH ins.length ch] w fun e w' => ColsOut (pickedJ (⟨at_, 4, outs, js, cols, op, ⟨lc, lk, ln, lw⟩, ⟨rc, rk, rn, rw'⟩, retry⟩ : Jb) (ins.getD 0 [])) e w' ∧ Keeps [] w w' := by
 obtain ⟨b, o, A, d, rfl, hb, hd0, hd, hA⟩ := hH.first (by omega) (by omega)
 have HF := Lib.hid (fun W => hf A d W hd hA)
 clear hf hA hH
 generalize pickedJ (⟨at_, 4, outs, js, cols, op, ⟨lc, lk, ln, lw⟩, ⟨rc, rk, rn, rw'⟩, retry⟩ : Jb) (ins.getD 0 []) = R at *
 have HF' : Hid (∀ W, Keeps [] w W → Calls Tryz.prog 60 #[.agg #[.int .i64 at_, .int .i64 4, .slice Ao outs.length co, .slice Ai ni ci, .slice Ac cols.length cc, .string (bs op), .string (bs lc), .int .i64 lk, .int .i64 ln, .string (bs lw), .string (bs rc), .int .i64 rk, .int .i64 rn, .string (bs rw'), .int .i64 retry], .slice A (ins.getD 0 []).length d] W fun e w' => ColsOut R e w' ∧ Keeps [] W w') := HF
 clear HF
 generalize (ins.getD 0 []).length = n at *
 have HS : Hid (∀ W, Calls Tryz.prog 57 #[.int .i64 4] W fun e W' => e = .returned (.tuple #[.int .i64 1, .int .i64 1]) ∧ W = W') := Lib.hid fun W => by
  have h := sizes_any 4 W
  rw [show sizesN 4 = (1, 1) by decide] at h
  exact h
 rw [hi]
 rw [ho] at HF' ⊢
 clear hi ho
 go_enter Tryz.func44, Tryz.ntmps44
 go_wp2_with (go_at_call 57; refine (HS.out _).mono ?_; rintro e w6 ⟨rfl, rfl⟩)
 refine (HF'.out _ ((Keeps.refl _ _).alloc _)).mono ?_
 rintro e w3 ⟨hco, hk3⟩
 obtain ⟨u, v, rfl, hco⟩ := hco.split
 have HCO := Lib.hid hco
 have HK3 := Lib.hid (((Keeps.refl _ _).alloc _).trans hk3)
 clear hk3 hco
 go_wp2
 go_ret2
 exact ⟨HCO.out, HK3.out⟩
set_option maxHeartbeats 4000000 in
theorem cols_8 (at_ retry lk ln rk rn : Int) (outs js cols : List Bs) (op lc lw rc rw' : Bs) (Ao : Option Addr) (co : Nat) (Ai : Option Addr) (ni ci : Nat) (Ac : Option Addr) (cc : Nat) (ins : List (List Cl)) (AH : Option Addr) (ch : Nat) (w : World) (hH : RdHeads w AH ins) (hi : ins.length = 1) (ho : outs.length = 1)
  (hf : ∀ A d W, (ins.getD 0 []).length ≤ d → Rd w [] 2 A (ins.getD 0 []).length (csCells (ins.getD 0 [])) → Keeps [] w W → Calls Tryz.prog 62 #[jAgg (⟨at_, 8, outs, js, cols, op, ⟨lc, lk, ln, lw⟩, ⟨rc, rk, rn, rw'⟩, retry⟩ : Jb) Ao co Ai ni ci Ac cc, .slice A (ins.getD 0 []).length d] W fun e w' => ColsOut (groupedJ (⟨at_, 8, outs, js, cols, op, ⟨lc, lk, ln, lw⟩, ⟨rc, rk, rn, rw'⟩, retry⟩ : Jb) (ins.getD 0 [])) e w' ∧ Keeps [] W w') :
  Calls Tryz.prog 44 #[.agg #[.int .i64 at_, .int .i64 8, .slice Ao outs.length co, .slice Ai ni ci, .slice Ac cols.length cc, .string (bs op), .string (bs lc), .int .i64 lk, .int .i64 ln, .string (bs lw), .string (bs rc), .int .i64 rk, .int .i64 rn, .string (bs rw'), .int .i64 retry], .slice AH ins.length ch] w fun e w' => ColsOut (groupedJ (⟨at_, 8, outs, js, cols, op, ⟨lc, lk, ln, lw⟩, ⟨rc, rk, rn, rw'⟩, retry⟩ : Jb) (ins.getD 0 [])) e w' ∧ Keeps [] w w' := by
 obtain ⟨b, o, A, d, rfl, hb, hd0, hd, hA⟩ := hH.first (by omega) (by omega)
 have HF := Lib.hid (fun W => hf A d W hd hA)
 clear hf hA hH
 generalize groupedJ (⟨at_, 8, outs, js, cols, op, ⟨lc, lk, ln, lw⟩, ⟨rc, rk, rn, rw'⟩, retry⟩ : Jb) (ins.getD 0 []) = R at *
 have HF' : Hid (∀ W, Keeps [] w W → Calls Tryz.prog 62 #[.agg #[.int .i64 at_, .int .i64 8, .slice Ao outs.length co, .slice Ai ni ci, .slice Ac cols.length cc, .string (bs op), .string (bs lc), .int .i64 lk, .int .i64 ln, .string (bs lw), .string (bs rc), .int .i64 rk, .int .i64 rn, .string (bs rw'), .int .i64 retry], .slice A (ins.getD 0 []).length d] W fun e w' => ColsOut R e w' ∧ Keeps [] W w') := HF
 clear HF
 generalize (ins.getD 0 []).length = n at *
 have HS : Hid (∀ W, Calls Tryz.prog 57 #[.int .i64 8] W fun e W' => e = .returned (.tuple #[.int .i64 1, .int .i64 1]) ∧ W = W') := Lib.hid fun W => by
  have h := sizes_any 8 W
  rw [show sizesN 8 = (1, 1) by decide] at h
  exact h
 rw [hi]
 rw [ho] at HF' ⊢
 clear hi ho
 go_enter Tryz.func44, Tryz.ntmps44
 go_wp2_with (go_at_call 57; refine (HS.out _).mono ?_; rintro e w6 ⟨rfl, rfl⟩)
 refine (HF'.out _ ((Keeps.refl _ _).alloc _)).mono ?_
 rintro e w3 ⟨hco, hk3⟩
 obtain ⟨u, v, rfl, hco⟩ := hco.split
 have HCO := Lib.hid hco
 have HK3 := Lib.hid (((Keeps.refl _ _).alloc _).trans hk3)
 clear hk3 hco
 go_wp2
 go_ret2
 exact ⟨HCO.out, HK3.out⟩
end Go.Proofs.YtpfkjejknlkkoaaGreatDoor
