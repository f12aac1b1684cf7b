/- api.Tell of an api.Errno. The law's bare: an error without a place. The reference's Less. -/
import Derived.Test.YtpagiajlefejcaaGreatDoorTbrM17
import Derived.Laws.ResultCell
import Derived.Test.YtpagiajlefejcaaGreatDoorTbrM8
set_option linter.unusedSimpArgs false
set_option linter.unusedVariables false
namespace Go.Proofs.YtpagiajlefejcaaGreatDoor
open Go.RowKit Go.BigFrame
theorem tell_errno (e : Int) (w : World) (hE : ErrTy w) :
  Calls Tryz.prog 108 #[.iface 34 (.int .i64 e)] w fun ev w' => ev = .returned (.int .i64 e) ∧ Keeps [] w w' := by
 have hE' : ∀ o, (w.alloc o).cell? ⟨4, 0, none⟩ = some (.iface 307 (.agg #[.pointer (some ⟨14, 38, none⟩)])) := fun o => (World.cell?_alloc_lt w o ⟨4, 0, none⟩ (World.block_lt_of_cell? w ⟨4, 0, none⟩ hE)).trans hE
 have HE := Lib.hid hE'
 clear hE hE'
 go_enter Tryz.func108, Tryz.ntmps108
 go_wp2_with (go_at_call 160; refine (as_hit _ _ (.int .i64 0) _ (HE.out _) (by simp) (by simp)).mono ?_; rintro ev w' ⟨rfl, rfl⟩)
 go_ret
 refine ⟨by simp, ?_⟩
 repeat first | exact Keeps.refl _ _ | refine Keeps.alloc ?_ _ | refine Keeps.setCell ?_ (.inr (Nat.le_refl _)) _
end Go.Proofs.YtpagiajlefejcaaGreatDoor
namespace Go.Proofs.YtpagiajlefejcaaGreatDoor
open Go.RowKit Go.BigFrame
theorem ty_errA (e : Int) (w : World) : (Instr.typeAssert (.iface 34 (.int .i64 e)) 38 136 true).run Tryz.prog w = .ok (.tuple #[.pointer none, .bool false]) w := by kernel_rfl
theorem ty_errU (e : Int) (w : World) : (Instr.typeAssert (.iface 34 (.int .i64 e)) 38 215 true).run Tryz.prog w = .ok (.tuple #[.nilIface, .bool false]) w := run_typeAssert_lacksB Tryz.underlying215 (by kernel_rfl) (by kernel_rfl) _ _ w
set_option maxRecDepth 100000 in
set_option maxHeartbeats 4000000 in
theorem place_errno (e : Int) (w : World) (hE : ErrTy w) :
  Calls Tryz.prog 72 #[.iface 34 (.int .i64 e)] w fun ev w' => ev = .returned (.tuple #[.int .i64 e, .int .i64 (-1)]) ∧ Keeps [] w w' := by
 have HT := Lib.hid (tell_errno e w hE)
 have ha := ty_errA e
 have hu := ty_errU e
 clear hE
 go_enter Tryz.func72, Tryz.ntmps72
 go_wp2_with fail
 refine HT.out.mono ?_
 rintro ev W1 ⟨rfl, k1⟩
 have K1 := Lib.hid k1
 clear k1
 go_wp2
 refine wp_loop_rounds 1 ?_
 rw [rounds_succ]
 go_wp2
 go_ret2
 exact ⟨rfl, K1.out⟩
set_option maxRecDepth 100000 in
set_option maxHeartbeats 4000000 in
theorem is_errno (e : Int) (w : World) (hE : ErrTy w) : Calls Tryz.prog 27 #[.iface 34 (.int .i64 e), .agg #[.int .i64 e, .int .i64 (-1)]] w fun ev w' => ev = .returned (.bool true) ∧ Keeps [] w w' := by
 have k0 := (Keeps.refl [] w).alloc (.cells #[.int .i64 e, .int .i64 (-1)] 47)
 have hb := Blk.new w 47 #[.int .i64 e, .int .i64 (-1)]
 have HP := Lib.hid (place_errno e _ (hE.keep k0 (by simp)))
 have hee : (e == e) = true := by simp
 go_enter Tryz.func27, Tryz.ntmps27
 go_wp2_with fail
 refine HP.out.mono ?_
 rintro ev W1 ⟨rfl, k1⟩
 have b1 := hb.keep k1 (by simp)
 have c0 : W1.cell? ⟨w.heap.size, 0, none⟩ = some (.int .i64 e) := b1.cell 0
 have c1 : W1.cell? ⟨w.heap.size, 1, none⟩ = some (.int .i64 (-1)) := b1.cell 1
 have K1 := Lib.hid (k0.trans k1)
 clear hb b1 k0 k1
 go_wp2
 go_ret
 exact ⟨rfl, K1.out⟩
theorem bareF_any (e : Int) (w : World) : Calls Tryz.prog 63 #[.int .i64 e] w fun ev w' => ev = .returned (.agg #[.int .i64 e, .int .i64 (-1)]) ∧ Keeps [] w w' := by
 have hk := (Keeps.refl [] w).alloc (.cells #[.int .i64 e, .int .i64 (-1)] 47)
 have HK := Lib.hid hk
 clear hk
 go_enter Tryz.func63, Tryz.ntmps63
 go_wp2
 refine bodyPost_ret (v := .agg #[.int .i64 e, .int .i64 (-1)]) (by simp [results, Tryz.results63, go_sem]) rfl ⟨rfl, ?_⟩
 repeat first | exact Keeps.refl _ _ | refine Keeps.alloc ?_ _ | refine Keeps.setCell ?_ (.inr (Nat.le_refl _)) _
theorem bare_nil (w : World) : Calls Tryz.prog 22 #[.nilIface, .int .i64 0] w fun ev w' => ev = .returned (.bool true) ∧ Keeps [] w w' := by
 have HB := Lib.hid (bareF_any 0 w)
 go_enter Tryz.func22, Tryz.ntmps22
 go_wp2_with fail
 refine HB.out.mono ?_
 rintro ev W1 ⟨rfl, k1⟩
 go_wp2_with fail
 refine (is_nil W1).mono ?_
 rintro ev W2 ⟨rfl, k2⟩
 go_wp2
 go_ret
 exact ⟨rfl, k1.trans k2⟩
theorem bare_errno (e : Int) (w : World) (hE : ErrTy w) : Calls Tryz.prog 22 #[.iface 34 (.int .i64 e), .int .i64 e] w fun ev w' => ev = .returned (.bool true) ∧ Keeps [] w w' := by
 have HE := Lib.hid hE
 have HB := Lib.hid (bareF_any e w)
 clear hE
 go_enter Tryz.func22, Tryz.ntmps22
 go_wp2_with fail
 refine HB.out.mono ?_
 rintro ev W1 ⟨rfl, k1⟩
 go_wp2_with fail
 refine (is_errno e W1 (HE.out.keep k1 (by simp))).mono ?_
 rintro ev W2 ⟨rfl, k2⟩
 go_wp2
 go_ret
 exact ⟨rfl, k1.trans k2⟩
end Go.Proofs.YtpagiajlefejcaaGreatDoor
namespace Go.Proofs.YtpagiajlefejcaaGreatDoor
open Go.RowKit
attribute [local go_sem] bs_size bs_extract bs_append bs_toList
def rlessB (a b : Vl) : Bool := if a.kind = b.kind then (if a.kind = 1 then decide (a.num < b.num) else Op.bytesLess a.word b.word) else decide (a.kind = 1)
theorem bl_pre : ∀ (p x y : Bs), Op.bytesLess (p ++ x) (p ++ y) = Op.bytesLess x y
 | [], _, _ => rfl
 | b :: p, x, y => by
  have ih := bl_pre p x y
  rw [List.cons_append, List.cons_append]
  conv => lhs; unfold Op.bytesLess
  rw [ih]
  simp
theorem bl_at {s t : Bs} {n : Nat} (h : s.take n = t.take n) : Op.bytesLess s t = Op.bytesLess (s.drop n) (t.drop n) := by
 conv => lhs; rw [← List.take_append_drop n s, ← List.take_append_drop n t, h]
 exact bl_pre _ _ _
theorem bl_end {s t : Bs} {n : Nat} (hn : n ≤ s.length) (hm : n ≤ t.length) (h : s.take n = t.take n) (he : ¬ (n < s.length ∧ n < t.length)) : Op.bytesLess s t = decide (s.length < t.length) := by
 rw [bl_at h]
 by_cases hs : n < s.length
 ·have : n = t.length := by omega
  subst this
  rw [List.drop_length]
  cases s.drop t.length <;> simp [Op.bytesLess] <;> omega
 ·have : n = s.length := by omega
  subst this
  rw [List.drop_length]
  by_cases ht : s.length < t.length
  ·rw [List.drop_eq_getElem_cons ht, decide_eq_true ht]
   rfl
  ·have : t.length = s.length := by omega
   rw [← this, List.drop_length, decide_eq_false (by omega)]
   rfl
theorem bl_dif {s t : Bs} {n : Nat} (hn : n < s.length) (hm : n < t.length) (h : s.take n = t.take n) (he : s[n] ≠ t[n]) : Op.bytesLess s t = decide (s[n].toNat < t[n].toNat) := by
 rw [bl_at h, List.drop_eq_getElem_cons hn, List.drop_eq_getElem_cons hm]
 unfold Op.bytesLess
 have : (s[n] == t[n]) = false := by rw [beq_eq_false_iff_ne]; exact he
 rw [this, Bool.false_and, Bool.or_false]
 rfl
set_option maxHeartbeats 4000000 in
theorem rless_any (a b : Vl) (ha : a.word.length ≤ 1000000000) (hb : b.word.length ≤ 1000000000) (w : World) :
  Calls Tryz.prog 17 #[vAgg a, vAgg b] w fun e w' => e = .returned (.bool (rlessB a b)) ∧ Keeps [] w w' := by
 obtain ⟨k, n, s⟩ := a
 obtain ⟨k2, n2, s2⟩ := b
 simp only at ha hb
 show Calls _ _ #[.agg #[.int .i64 k, .int .i64 n, .string (bs s)], .agg #[.int .i64 k2, .int .i64 n2, .string (bs s2)]] w _
 obtain ⟨R, hR⟩ : ∃ R, rlessB ⟨k, n, s⟩ ⟨k2, n2, s2⟩ = R := ⟨_, rfl⟩
 rw [hR]
 by_cases h1 : k = k2
 ·subst h1
  have hb1 : (k != k) = false := by simp
  by_cases h2 : k = 1
  ·have hb2 : (k == 1) = true := by rw [h2]; rfl
   have HR : Hid (R = decide (n < n2)) := Lib.hid (hR.symm.trans ((if_pos rfl).trans (if_pos h2)))
   clear h2 hR
   go_enter Tryz.func17, Tryz.ntmps17
   go_wp2
   go_ret
   exact ⟨by rw [HR.out]; rfl, ((Keeps.refl _ _).alloc _).alloc _⟩
  ·have hb2 : (k == 1) = false := by rw [beq_eq_false_iff_ne]; exact h2
   have HR : Hid (R = Op.bytesLess s s2) := Lib.hid (hR.symm.trans ((if_pos rfl).trans (if_neg h2)))
   clear h2 hR
   have HK0 : Hid (Keeps [] w ((w.alloc (.cells #[.int .i64 k, .int .i64 n, .string (bs s)] 27)).alloc (.cells #[.int .i64 k, .int .i64 n2, .string (bs s2)] 27))) := Lib.hid (((Keeps.refl _ _).alloc _).alloc _)
   go_enter Tryz.func17, Tryz.ntmps17
   go_wp2
   have c2 : ((w.alloc (.cells #[.int .i64 k, .int .i64 n, .string (bs s)] 27)).alloc (.cells #[.int .i64 k, .int .i64 n2, .string (bs s2)] 27)).cell? ⟨w.heap.size, 2, none⟩ = some (.string (bs s)) := ((Blk.new _ _ _).alloc _).cell 2
   have d2 : ((w.alloc (.cells #[.int .i64 k, .int .i64 n, .string (bs s)] 27)).alloc (.cells #[.int .i64 k, .int .i64 n2, .string (bs s2)] 27)).cell? ⟨w.heap.size + 1, 2, none⟩ = some (.string (bs s2)) := by
    have h := (Blk.new (w.alloc (.cells #[.int .i64 k, .int .i64 n, .string (bs s)] 27)) 27 #[.int .i64 k, .int .i64 n2, .string (bs s2)]).cell 2
    rw [show (w.alloc (.cells #[.int .i64 k, .int .i64 n, .string (bs s)] 27)).heap.size = w.heap.size + 1 from Array.size_push _] at h
    exact h
   generalize ((w.alloc (.cells #[.int .i64 k, .int .i64 n, .string (bs s)] 27)).alloc (.cells #[.int .i64 k, .int .i64 n2, .string (bs s2)] 27)) = w2 at *
   generalize w.heap.size = bx at *
   go_loopw [5] (fun i wx => ∃ m : Nat, m ≤ s.length ∧ m ≤ s2.length ∧ i = .int .i64 m ∧ Hid (s.take m = s2.take m) ∧ Keeps [] w2 wx) (fun i _ => s.length - (intOf i).toNat)
   case atStart => exact ⟨0, Nat.zero_le _, Nat.zero_le _, rfl, by rw [List.take_zero, List.take_zero]; exact rfl, Keeps.refl _ _⟩
   case round =>
    obtain ⟨m, hm, hm2, rfl, hno, hk⟩ := hrel
    have e2 := hk.cell_of c2 (by simp)
    have f2 := hk.cell_of d2 (by simp)
    have HK := Lib.hid hk
    clear hk
    by_cases hlt : m < s.length
    ·have t1 : decide ((m : Int) < (s.length : Int)) = true := decide_eq_true (by omega)
     have t1' : decide (m < s.length) = true := decide_eq_true hlt
     by_cases hlt2 : m < s2.length
     ·have t2 : decide ((m : Int) < (s2.length : Int)) = true := decide_eq_true (by omega)
      have t2' : decide (m < s2.length) = true := decide_eq_true hlt2
      have hx : ((bs s)[m]'(by rw [bs_size]; exact hlt)) = s[m] := bs_get s m _
      have hy : ((bs s2)[m]'(by rw [bs_size]; exact hlt2)) = s2[m] := bs_get s2 m _
      have hdif : s[m] ≠ s2[m] → R = decide (s[m].toNat < s2[m].toNat) := fun h => by rw [HR.out, bl_dif hlt hlt2 hno.out h]
      have hsame : s[m] = s2[m] → Hid (s.take (m + 1) = s2.take (m + 1)) := fun h => Lib.hid (by rw [List.take_succ_eq_append_getElem hlt, List.take_succ_eq_append_getElem hlt2, hno.out, h])
      have hi0 : (0 : Int) ≤ (m : Int) := by omega
      have hi1 : (m : Int) < (s.length : Int) := by omega
      have hi2 : (m : Int) < (s2.length : Int) := by omega
      generalize s[m] = x at *
      generalize s2[m] = y at *
      by_cases hxy : x = y
      ·have t3 : ((x.toNat : Int) != (y.toNat : Int)) = false := by rw [hxy]; simp
       have t4 : (x.toNat != y.toNat) = false := by rw [hxy]; simp
       have hs := hsame hxy
       clear hdif hsame hxy
       go_wp2_with fail
       go_quiet (fail)
       go_wp2
       go_roundw
       case rel => exact ⟨m + 1, by omega, by omega, by go_num, hs, HK.out.drewN _⟩
       case measure => simp [intOf]; omega
      ·have hne : x.toNat ≠ y.toNat := fun h => hxy (UInt8.toNat_inj.1 h)
       have t3 : ((x.toNat : Int) != (y.toNat : Int)) = true := by rw [bne_iff_ne]; omega
       have t4 : (x.toNat != y.toNat) = true := by rw [bne_iff_ne]; exact hne
       have HD := Lib.hid (hdif hxy)
       clear hdif hsame hxy
       go_wp2_with fail
       go_quiet (fail)
       go_wp2_with fail
       go_quiet (fail)
       go_wp2
       go_ret
       exact ⟨by rw [HD.out]; exact congrArg (fun b => Ending.returned (.bool b)) (decide_eq_decide.2 (by omega)), ((HK0.out.trans HK.out).drewN _).drewN _⟩
     ·have t2 : decide ((m : Int) < (s2.length : Int)) = false := decide_eq_false (by omega)
      have t2' : decide (m < s2.length) = false := decide_eq_false hlt2
      have HD : Hid (R = decide (s.length < s2.length)) := Lib.hid (by rw [HR.out, bl_end hm hm2 hno.out (fun h => hlt2 h.2)])
      go_wp2
      go_ret
      exact ⟨by rw [HD.out]; exact congrArg (fun b => Ending.returned (.bool b)) (decide_eq_decide.2 (by omega)), HK0.out.trans HK.out⟩
    ·have t1 : decide ((m : Int) < (s.length : Int)) = false := decide_eq_false (by omega)
     have t1' : decide (m < s.length) = false := decide_eq_false hlt
     have HD : Hid (R = decide (s.length < s2.length)) := Lib.hid (by rw [HR.out, bl_end hm hm2 hno.out (fun h => hlt h.1)])
     go_wp2
     go_ret
     exact ⟨by rw [HD.out]; exact congrArg (fun b => Ending.returned (.bool b)) (decide_eq_decide.2 (by omega)), HK0.out.trans HK.out⟩
 ·have hb1 : (k != k2) = true := by rw [bne_iff_ne]; exact h1
  have HR : Hid (R = decide (k = 1)) := Lib.hid (hR.symm.trans (if_neg h1))
  clear h1 hR
  go_enter Tryz.func17, Tryz.ntmps17
  go_wp2
  go_ret
  exact ⟨by rw [HR.out]; rfl, ((Keeps.refl _ _).alloc _).alloc _⟩
end Go.Proofs.YtpagiajlefejcaaGreatDoor
