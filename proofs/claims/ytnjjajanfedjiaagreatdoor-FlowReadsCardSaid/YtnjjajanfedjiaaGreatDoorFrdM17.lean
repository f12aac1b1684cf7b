/- The reference's arg: plain: what it says agrees with the plain parser. The reference's low, dig, in. The reference's RightValue. -/
import Derived.Test.YtnjjajanfedjiaaGreatDoorFrdM16
import Derived.Lib.TrimByte
import Derived.Test.YtnjjajanfedjiaaGreatDoorProg
import Derived.Test.YtnjjajanfedjiaaGreatDoorFrdM1
import Derived.Test.YtnjjajanfedjiaaGreatDoorFrdM2
import Derived.Test.YtnjjajanfedjiaaGreatDoorFrdM7
set_option linter.unusedSimpArgs false
set_option linter.unusedVariables false
namespace Go.Proofs.YtnjjajanfedjiaaGreatDoor
def finX (x2 : Option (Int × Int)) (v : Vl) (q : List Tk) : Option (Int × Int) := if rvB v then x2 else badX x2 4 q
def finL (x3 : Option (Int × Int)) (q : List Tk) : List Tk := if x3.isNone then q.tail else q
theorem badX_ne (x : Option (Int × Int)) (e : Int) (l : List Tk) : ∃ y, badX x e l = some y := by
 cases x with
 | none => exact ⟨_, rfl⟩
 | some y => exact ⟨y, rfl⟩
theorem val_some {neg : Bool} {q : List Tk} {y : Int × Int} {v : Vl} {x3 : Option (Int × Int)} (h : x3 = some y) : Rl (val1P neg) q (some y) v (finL x3 q) x3 := by
 subst h
 exact rfl
theorem fin_rl {neg : Bool} {q : List Tk} {v : Vl} (h : val1P neg q = finP q v) : Rl (val1P neg) q none v (finL (finX none v q) q) (finX none v q) := by
 unfold finX
 by_cases hv : rvB v = true
 ·rw [if_pos hv]
  exact ⟨rfl, by rw [h]; unfold finP; rw [if_pos hv]; rfl⟩
 ·rw [if_neg hv]
  show val1P neg q = .error (4, (hdT q).at_)
  rw [h]
  unfold finP
  rw [if_neg hv]
  rfl
theorem bad_rl {neg : Bool} {q : List Tk} {v : Vl} {e : Int} (h : val1P neg q = failP e q) : Rl (val1P neg) q none v (finL (finX (badX none e q) v q) q) (finX (badX none e q) v q) := by
 have e1 : finX (badX none e q) v q = some (e, (hdT q).at_) := by
  unfold finX
  split <;> rfl
 rw [e1]
 exact h
theorem val_num {neg : Bool} {q : List Tk} {n : Int} (hk : (hdT q).kind = 2) (ha : Lib.atoiAll (hdT q).text = .ok n) : val1P neg q = finP q ⟨1, if neg then -n else n, []⟩ := by
 unfold val1P
 rw [hk, ha, if_neg (by simp), if_neg (by decide), if_pos rfl]
theorem val_ill {neg : Bool} {q : List Tk} (hk : (hdT q).kind = 2) (ha : ∀ n, Lib.atoiAll (hdT q).text ≠ .ok n) : val1P neg q = failP 4 q := by
 unfold val1P
 rw [hk, if_neg (by simp), if_neg (by decide), if_pos rfl]
 cases h : Lib.atoiAll (hdT q).text with
 | ok n => exact absurd h (ha n)
 | _ => rfl
theorem val_txt3 {q : List Tk} (hk : (hdT q).kind = 3) : val1P false q = finP q ⟨2, 0, midB (hdT q).text⟩ := by
 unfold val1P
 rw [hk, if_neg (by simp), if_pos rfl]
theorem val_else {neg : Bool} {q : List Tk} (h2 : (hdT q).kind ≠ 2) (h3 : (hdT q).kind = 3 → neg = true) : val1P neg q = failP 3 q := by
 unfold val1P
 cases neg with
 | true =>
  have : ((hdT q).kind != 2) = true := by rw [bne_iff_ne]; exact h2
  rw [this, if_pos (by decide)]
 | false =>
  rw [if_neg (by simp), if_neg (fun e => by cases h3 e), if_neg h2]
theorem value_rl {l : List Tk} {x : Option (Int × Int)} {v : Vl} {l' : List Tk} {x' : Option (Int × Int)} (h : Rl (val1P (x.isNone && seeP [45] l)) (if x.isNone && seeP [45] l then l.tail else l) x v l' x') : Rl valueP l x v l' x' := by
 cases x with
 | some y =>
  cases x' with
  | none => exact absurd h.1 (by simp)
  | some z => exact h
 | none =>
  have e : (Option.isNone (none : Option (Int × Int)) && seeP [45] l) = seeP [45] l := by simp
  rw [e] at h
  cases hs : seeP [45] l with
  | true =>
   rw [hs, if_pos rfl] at h
   have hv : valueP l = val1P true l.tail := by unfold valueP; rw [hs, if_pos rfl]
   cases x' with
   | none => exact ⟨rfl, hv.trans h.2⟩
   | some z => exact hv.trans h
  | false =>
   rw [hs, if_neg (by decide)] at h
   have hv : valueP l = val1P false l := by unfold valueP; rw [hs, if_neg (by decide)]
   cases x' with
   | none => exact ⟨rfl, hv.trans h.2⟩
   | some z => exact hv.trans h
theorem arg_rl {l : List Tk} {x : Option (Int × Int)} {v : Vl} {l' : List Tk} {x' : Option (Int × Int)} (hk : x = none → (hdT l).kind ≠ 1) (h : Rl valueP l x v l' x') : Rl argP l x ⟨[], v⟩ l' x' := by
 cases x with
 | some y =>
  cases x' with
  | none => exact absurd h.1 (by simp)
  | some z => injection (show (Except.error y : Except (Int × Int) (Vl × List Tk)) = .error z from h) with e; subst e; exact rfl
 | none =>
  have hv : argP l = (valueP l >>= fun p => .ok (⟨[], p.1⟩, p.2)) := by unfold argP; rw [if_neg (hk rfl)]
  cases x' with
  | none => exact ⟨rfl, by rw [hv, h.2]; rfl⟩
  | some z =>
   show argP l = _
   rw [hv, show valueP l = .error z from h]
   rfl
theorem arg_name {l : List Tk} {s : Bs} {l' : List Tk} {x' : Option (Int × Int)} (hk : (hdT l).kind = 1) (h : Rl nameP l none s l' x') : Rl argP l none ⟨s, zV⟩ l' x' := by
 have hv : argP l = (nameP l >>= fun p => .ok (⟨p.1, zV⟩, p.2)) := by unfold argP; rw [if_pos hk]
 cases x' with
 | none => exact ⟨rfl, by rw [hv, h.2]; rfl⟩
 | some z =>
  show argP l = _
  rw [hv, show nameP l = .error z from h]
  rfl
theorem trim_quoted {w : Bs} (h : (39 : UInt8) ∉ w) : Lib.trimB (39 :: (w ++ [39])) 39 = w := by
 unfold Lib.trimB
 have hr : Lib.trimRightB (39 :: (w ++ [39])) 39 = if w = [] then [] else 39 :: w := by
  unfold Lib.trimRightB
  by_cases e : w = []
  ·subst e; rfl
  ·rw [if_neg e]
   obtain ⟨c, hc⟩ : ∃ c, w.getLast? = some c := by
    cases hl : w.getLast? with
    | none => exact absurd (List.getLast?_eq_none_iff.1 hl) e
    | some c => exact ⟨c, rfl⟩
   obtain ⟨u, rfl⟩ := List.getLast?_eq_some_iff.1 hc
   have hc39 : c ≠ 39 := fun e => h (by simp [e])
   simp [hc39]
 rw [hr]
 unfold Lib.trimLeftB
 by_cases e : w = []
 ·subst e; rfl
 ·rw [if_neg e]
  cases w with
  | nil => exact absurd rfl e
  | cons c t =>
   have hc39 : (c == 39) = false := by rw [beq_eq_false_iff_ne]; intro e; exact h (by simp [e])
   simp [List.dropWhile, hc39]
theorem mid_quoted (w : Bs) : midB (39 :: (w ++ [39])) = w := by
 unfold midB
 simp
end Go.Proofs.YtnjjajanfedjiaaGreatDoor
namespace Go.Proofs.YtnjjajanfedjiaaGreatDoor
open Go.RowKit
attribute [local go_sem] bs_size bs_extract bs_append bs_toList
def lowB (b : UInt8) : Bool := decide (97 ≤ b.toNat) && decide (b.toNat ≤ 122)
theorem low_any (b : UInt8) (w : World) : Calls Tryz.prog 63 #[.int .u8 (b.toNat : Int)] w fun e w' => e = .returned (.bool (lowB b)) ∧ w = w' := by
 obtain ⟨R, hR⟩ : ∃ R, lowB b = R := ⟨_, rfl⟩
 rw [hR]
 have HR : Hid (R = (decide (97 ≤ b.toNat) && decide (b.toNat ≤ 122))) := Lib.hid hR.symm
 clear hR
 by_cases h1 : 97 ≤ b.toNat
 ·have t1 : (97 : Int) ≤ (b.toNat : Int) := by omega
  by_cases h2 : b.toNat ≤ 122
  ·have t2 : (b.toNat : Int) ≤ (122 : Int) := by omega
   go_enter Tryz.func63, Tryz.ntmps63
   go_wp2
   go_ret
   exact ⟨by rw [HR.out, decide_eq_true h1, decide_eq_true h2]; rfl, rfl⟩
  ·have t2 : ¬ (b.toNat : Int) ≤ (122 : Int) := by omega
   go_enter Tryz.func63, Tryz.ntmps63
   go_wp2
   go_ret
   exact ⟨by rw [HR.out, decide_eq_true h1, decide_eq_false h2]; rfl, rfl⟩
 ·have t1 : ¬ (97 : Int) ≤ (b.toNat : Int) := by omega
  go_enter Tryz.func63, Tryz.ntmps63
  go_wp2
  go_ret
  exact ⟨by rw [HR.out, decide_eq_false h1]; rfl, rfl⟩
def digB (b : UInt8) : Bool := decide (48 ≤ b.toNat) && decide (b.toNat ≤ 57)
theorem dig_any (b : UInt8) (w : World) : Calls Tryz.prog 64 #[.int .u8 (b.toNat : Int)] w fun e w' => e = .returned (.bool (digB b)) ∧ w = w' := by
 obtain ⟨R, hR⟩ : ∃ R, digB b = R := ⟨_, rfl⟩
 rw [hR]
 have HR : Hid (R = (decide (48 ≤ b.toNat) && decide (b.toNat ≤ 57))) := Lib.hid hR.symm
 clear hR
 by_cases h1 : 48 ≤ b.toNat
 ·have t1 : (48 : Int) ≤ (b.toNat : Int) := by omega
  by_cases h2 : b.toNat ≤ 57
  ·have t2 : (b.toNat : Int) ≤ (57 : Int) := by omega
   go_enter Tryz.func64, Tryz.ntmps64
   go_wp2
   go_ret
   exact ⟨by rw [HR.out, decide_eq_true h1, decide_eq_true h2]; rfl, rfl⟩
  ·have t2 : ¬ (b.toNat : Int) ≤ (57 : Int) := by omega
   go_enter Tryz.func64, Tryz.ntmps64
   go_wp2
   go_ret
   exact ⟨by rw [HR.out, decide_eq_true h1, decide_eq_false h2]; rfl, rfl⟩
 ·have t1 : ¬ (48 : Int) ≤ (b.toNat : Int) := by omega
  go_enter Tryz.func64, Tryz.ntmps64
  go_wp2
  go_ret
  exact ⟨by rw [HR.out, decide_eq_false h1]; rfl, rfl⟩
theorem in_any (n lo hi : Int) (w : World) :
  Calls Tryz.prog 176 #[.int .i64 n, .int .i64 lo, .int .i64 hi] w fun ev w' => ev = .returned (.bool (decide (lo ≤ n ∧ n ≤ hi))) ∧ w = w' := by
 by_cases h1 : lo ≤ n
 ·by_cases h2 : n ≤ hi
  ·have hd : decide (lo ≤ n ∧ n ≤ hi) = true := decide_eq_true ⟨h1, h2⟩
   rw [hd]
   clear hd
   go_enter Tryz.func176, Tryz.ntmps176
   go_wp2
   go_ret
   exact ⟨rfl, rfl⟩
  ·have hd : decide (lo ≤ n ∧ n ≤ hi) = false := decide_eq_false fun h => h2 h.2
   rw [hd]
   clear hd
   go_enter Tryz.func176, Tryz.ntmps176
   go_wp2
   go_ret
   exact ⟨rfl, rfl⟩
 ·have hd : decide (lo ≤ n ∧ n ≤ hi) = false := decide_eq_false fun h => h1 h.1
  rw [hd]
  clear hd
  go_enter Tryz.func176, Tryz.ntmps176
  go_wp2
  go_ret
  exact ⟨rfl, rfl⟩
end Go.Proofs.YtnjjajanfedjiaaGreatDoor
namespace Go.Proofs.YtnjjajanfedjiaaGreatDoor
open Go.RowKit Go.Sort
attribute [local go_sem] bs_size bs_extract bs_append bs_toList
set_option maxHeartbeats 4000000 in
theorem rRightValue_any (v : Vl) (hs : v.word.length ≤ 1000000000) (w : World) :
  Calls Tryz.prog 149 #[vAgg v] w fun e w' => e = .returned (.bool (rvB v)) ∧ Keeps [] w w' := by
 obtain ⟨k, n, s⟩ := v
 simp only at hs
 show Calls _ _ #[.agg #[.int .i64 k, .int .i64 n, .string (bs s)]] w _
 obtain ⟨R, hR⟩ : ∃ R, rvB ⟨k, n, s⟩ = R := ⟨_, rfl⟩
 rw [hR]
 have hk0 : Keeps [] w (w.alloc (.cells #[.int .i64 k, .int .i64 n, .string (bs s)] 41)) := (Keeps.refl _ _).alloc _
 have HK0 := Lib.hid hk0
 clear hk0
 by_cases h1 : k = 1
 ·have hb1 : (k == 1) = true := by rw [h1]; rfl
  have HR : Hid (R = ((s == []) && decide (-1000000000 ≤ n) && decide (n ≤ 1000000000))) := Lib.hid (hR.symm.trans (if_pos h1))
  have HIN := Lib.hid (fun W => in_any n (-1000000000) 1000000000 W)
  by_cases hn : -1000000000 ≤ n ∧ n ≤ 1000000000
  ·rw [decide_eq_true hn] at HIN
   have hr2 : R = (s == []) := by rw [HR.out, decide_eq_true hn.1, decide_eq_true hn.2]; simp
   have HR2 := Lib.hid hr2
   clear h1 hR hr2 hn
   cases s with
   | nil =>
    go_enter Tryz.func149, Tryz.ntmps149
    go_wp2_with (go_at_call 176; refine (HIN.out _).mono ?_; rintro e w' ⟨rfl, rfl⟩)
    go_ret
    exact ⟨by rw [HR2.out]; rfl, HK0.out⟩
   | cons a t =>
    go_enter Tryz.func149, Tryz.ntmps149
    go_wp2_with (go_at_call 176; refine (HIN.out _).mono ?_; rintro e w' ⟨rfl, rfl⟩)
    go_ret
    exact ⟨by rw [HR2.out]; rfl, HK0.out⟩
  ·rw [decide_eq_false hn] at HIN
   have hr2 : R = false := by
    rw [HR.out]
    by_cases h2 : -1000000000 ≤ n
    ·rw [decide_eq_false (show ¬ n ≤ 1000000000 from fun h => hn ⟨h2, h⟩), Bool.and_false]
    ·rw [decide_eq_false h2, Bool.and_false, Bool.false_and]
   have HR2 := Lib.hid hr2
   clear h1 hR hr2 hn
   go_enter Tryz.func149, Tryz.ntmps149
   go_wp2_with (go_at_call 176; refine (HIN.out _).mono ?_; rintro e w' ⟨rfl, rfl⟩)
   go_ret
   exact ⟨by rw [HR2.out]; rfl, HK0.out⟩
 ·have hb1 : (k == 1) = false := by rw [beq_eq_false_iff_ne]; exact h1
  have HR : Hid (R = if k = 2 then decide (n = 0) && decide (s.length ≤ 16) && !s.any badB else false) := Lib.hid (hR.symm.trans (if_neg h1))
  clear h1 hR
  go_enter Tryz.func149, Tryz.ntmps149
  go_wp2
  have c0 : (w.alloc (.cells #[.int .i64 k, .int .i64 n, .string (bs s)] 41)).cell? ⟨w.heap.size, 0, none⟩ = some (.int .i64 k) := (Blk.new _ _ _).cell 0
  have c1 : (w.alloc (.cells #[.int .i64 k, .int .i64 n, .string (bs s)] 41)).cell? ⟨w.heap.size, 1, none⟩ = some (.int .i64 n) := (Blk.new _ _ _).cell 1
  have c2 : (w.alloc (.cells #[.int .i64 k, .int .i64 n, .string (bs s)] 41)).cell? ⟨w.heap.size, 2, none⟩ = some (.string (bs s)) := (Blk.new _ _ _).cell 2
  generalize (w.alloc (.cells #[.int .i64 k, .int .i64 n, .string (bs s)] 41)) = w2 at *
  generalize w.heap.size = bx at *
  go_loop [19] (fun i => ∃ m : Nat, m ≤ s.length ∧ i = .int .i64 m ∧ Hid (∀ j (hj : j < m) (h : j < s.length), badB s[j] = false)) (fun i => s.length - (intOf i).toNat)
  case atStart => exact ⟨0, Nat.zero_le _, rfl, fun j hj => absurd hj (by omega)⟩
  case round =>
   obtain ⟨m, hm, rfl, hno⟩ := hrel
   by_cases hlt : m < s.length
   ·have hbyte : ((bs s)[m]'(by rw [bs_size]; exact hlt)) = s[m] := bs_get s m _
    have hbad : badB s[m] = true → Hid (R = false) := fun h => Lib.hid (by
     rw [HR.out]
     split
     ·rw [List.any_eq_true.2 ⟨s[m], List.getElem_mem hlt, h⟩]; simp
     ·rfl)
    have hgood : badB s[m] = false → Hid (∀ j (hj : j < m + 1) (h : j < s.length), badB s[j] = false) := fun h => Lib.hid fun j hj hl => by
     by_cases hx : j < m
     ·exact hno.out j hx hl
     ·obtain rfl : j = m := by omega
      exact h
    have hib : (0 : Int) ≤ (m : Int) := by omega
    have hic : (m : Int) < (s.length : Int) := by omega
    generalize s[m] = b at *
    by_cases h32 : b.toNat < 32
    ·have t1 : decide ((b.toNat : Int) < 32) = true := decide_eq_true (by omega)
     have hf := hbad (by unfold badB; rw [decide_eq_true h32]; rfl)
     clear hbad hgood h32
     go_wp2
     go_ret
     exact ⟨by rw [hf.out]; rfl, HK0.out⟩
    ·have t1 : decide ((b.toNat : Int) < 32) = false := decide_eq_false (by omega)
     by_cases h126 : 126 < b.toNat
     ·have t2 : decide ((126 : Int) < (b.toNat : Int)) = true := decide_eq_true (by omega)
      have hf := hbad (by unfold badB; rw [decide_eq_true h126]; simp)
      clear hbad hgood h32 h126
      go_wp2
      go_ret
      exact ⟨by rw [hf.out]; rfl, HK0.out⟩
     ·have t2 : decide ((126 : Int) < (b.toNat : Int)) = false := decide_eq_false (by omega)
      by_cases h39 : b.toNat = 39
      ·have t3 : ((b.toNat : Int) == 39) = true := by rw [beq_iff_eq]; omega
       have hf := hbad (by unfold badB; rw [decide_eq_true h39]; simp)
       clear hbad hgood h32 h126 h39
       go_wp2
       go_ret
       exact ⟨by rw [hf.out]; rfl, HK0.out⟩
      ·have t3 : ((b.toNat : Int) == 39) = false := by rw [beq_eq_false_iff_ne]; omega
       have hg := hgood (by unfold badB; rw [decide_eq_false h39, decide_eq_false h126, decide_eq_false h32]; rfl)
       clear hbad hgood h32 h126 h39
       go_wp2
       go_round
       case rel => exact ⟨m + 1, by omega, by go_num, hg⟩
       case measure => simp [intOf]; omega
   ·have hany : s.any badB = false := by
     rw [List.any_eq_false]
     intro x hx
     obtain ⟨j, hj, rfl⟩ := List.getElem_of_mem hx
     rw [hno.out j (by omega) hj]; decide
    have HR2 : Hid (R = if k = 2 then decide (n = 0) && decide (s.length ≤ 16) else false) := Lib.hid (by rw [HR.out, hany]; simp)
    clear hany
    by_cases h2 : k = 2
    ·have t2 : (k == 2) = true := by rw [h2]; rfl
     by_cases h0 : n = 0
     ·have t0 : (n == 0) = true := by rw [h0]; rfl
      have HR3 : Hid (R = decide (s.length ≤ 16)) := Lib.hid (by rw [HR2.out, if_pos h2, decide_eq_true h0, Bool.true_and])
      clear h2 h0
      go_wp2
      go_ret
      exact ⟨by rw [HR3.out]; exact congrArg (fun b => Ending.returned (.bool b)) (decide_eq_decide.2 (by omega)), HK0.out⟩
     ·have t0 : (n == 0) = false := by rw [beq_eq_false_iff_ne]; exact h0
      have HR3 : Hid (R = false) := Lib.hid (by rw [HR2.out, if_pos h2, decide_eq_false h0, Bool.false_and])
      clear h2 h0
      go_wp2
      go_ret
      exact ⟨by rw [HR3.out]; rfl, HK0.out⟩
    ·have t2 : (k == 2) = false := by rw [beq_eq_false_iff_ne]; exact h2
     have HR3 : Hid (R = false) := Lib.hid (by rw [HR2.out, if_neg h2])
     clear h2
     go_wp2
     go_ret
     exact ⟨by rw [HR3.out]; rfl, HK0.out⟩
end Go.Proofs.YtnjjajanfedjiaaGreatDoor
