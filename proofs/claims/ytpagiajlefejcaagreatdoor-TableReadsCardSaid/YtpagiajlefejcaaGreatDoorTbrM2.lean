/- table.Name. table: RightValue, Less. table.RightCols; slices.IndexFunc, ContainsFunc at columns. -/
import Derived.Test.YtpagiajlefejcaaGreatDoorTbrM1
import Derived.Test.YtpagiajlefejcaaGreatDoorShTab
import Derived.Shelf.Strings.SlTrimAscii
import Derived.Lib.OthersKept
import Derived.RowKit
set_option linter.unusedSimpArgs false
set_option linter.unusedVariables false
namespace Go.Proofs.YtpagiajlefejcaaGreatDoor
open Go.RowKit
attribute [local go_sem] bs_size bs_extract bs_append bs_toList
theorem bs_lit' (k : Bs) : (bs k).data.toList = k := rfl
theorem indexByte_any (l : Bs) (c : UInt8) : decide (0 ≤ Lib.indexByte l c) = l.contains c := by
 induction l with
 | nil => rfl
 | cons b l ih =>
  have hge := Lib.indexByte_ge l c
  unfold Lib.indexByte
  rw [List.contains_cons]
  by_cases h : b = c
  ·subst h; simp
  ·have h1 : (b == c) = false := beq_eq_false_iff_ne.2 h
   have h2 : (c == b) = false := beq_eq_false_iff_ne.2 (Ne.symm h)
   rw [h1, h2, Bool.false_or, ← ih]
   simp only [Bool.false_eq_true, if_false]
   by_cases h3 : Lib.indexByte l c = -1
   ·rw [h3]; rfl
   ·have : (Lib.indexByte l c == -1) = false := beq_eq_false_iff_ne.2 h3
    rw [this, decide_eq_decide]
    simp only [Bool.false_eq_true, if_false]
    omega
theorem dropWhile_nil {p : UInt8 → Bool} (l : Bs) : (l.dropWhile p) = [] ↔ ∀ x ∈ l, p x = true := by
 induction l with
 | nil => simp
 | cons a l ih =>
  rw [List.dropWhile_cons]
  by_cases h : p a = true
  ·rw [if_pos h, ih]; simp [h]
  ·rw [if_neg h]; simp [h]
theorem dropWhile_mem {p : UInt8 → Bool} (l : Bs) (x : UInt8) (hx : x ∈ l) (hp : p x = false) : x ∈ l.dropWhile p := by
 induction l with
 | nil => cases hx
 | cons a l ih =>
  rw [List.dropWhile_cons]
  by_cases h : p a = true
  ·rw [if_pos h]
   rcases List.mem_cons.1 hx with rfl | hx
   ·rw [hp] at h; cases h
   ·exact ih hx
  ·rw [if_neg h]; exact hx
theorem trimS_nil (l cs : Bs) : (Lib.trimS l cs).isEmpty = l.all (cs.contains ·) := by
 rw [Bool.eq_iff_iff, List.isEmpty_iff, List.all_eq_true]
 unfold Lib.trimS Lib.trimLeftS Lib.trimRightS
 rw [dropWhile_nil]
 constructor
 ·intro h x hx
  cases hc : cs.contains x with
  | true => rfl
  | false =>
   have h2 := dropWhile_mem (p := (cs.contains ·)) l.reverse x (by simpa using hx) hc
   have h3 := h x (by simpa using h2)
   rw [hc] at h3; cases h3
 ·intro h x hx
  have h2 : x ∈ l.reverse.dropWhile (cs.contains ·) := by simpa using hx
  exact h x (by simpa using (List.dropWhile_sublist _).subset h2)
set_option maxRecDepth 100000 in
set_option maxHeartbeats 2000000 in
theorem name_any (s : Bs) (hs : s.length ≤ 1000000000) (w : World) :
  Calls Tryz.prog 14 #[.string (bs s)] w fun e w' => e = .returned (.bool (nameB s)) ∧ Keeps [] w w' := by
 obtain ⟨R, hR⟩ : ∃ R, nameB s = R := ⟨_, rfl⟩
 rw [hR]
 rcases s with _ | ⟨c, t⟩
 ·have HR := Lib.hid hR
  clear hR
  go_enter Tryz.func14, Tryz.ntmps14
  go_wp2
  go_ret
  exact ⟨by rw [← HR.out]; rfl, Keeps.refl _ _⟩
 ·have hi : ∀ W, Calls Tryz.prog 53 #[.string (bs letters), .int .u8 (((bs (c :: t))[0]'(by rw [bs_size]; simp)).toNat : Int)] W fun e w' => e = .returned (.int .i64 (Lib.indexByte letters c)) ∧ W = w' := fun W => by
   refine (Tryz.strings_IndexByte (bs letters) (((bs (c :: t))[0]'(by rw [bs_size]; simp)).toNat : Int) W).mono ?_
   rintro e w' ⟨rfl, rfl⟩
   refine ⟨?_, rfl⟩
   have e0 : ((bs (c :: t))[0]'(by rw [bs_size]; simp)) = c := rfl
   rw [e0, Int.toNat_natCast]
   have e1 : c.toNat.toUInt8 = c := by simp
   rw [e1]; rfl
  have hq := indexByte_any letters c
  generalize Lib.indexByte letters c = q at hi hq
  have ht := fun (W : World) => Any.strings_Trim_laid Tryz.lays160 (by kernel_rfl) (bs (c :: t)) (bs lettersDigits) W (by rw [bs_size]; omega) (by decide) (ascii_of_all (by decide))
  have hn := trimS_nil (c :: t) lettersDigits
  rw [bs_lit', bs_lit'] at ht
  generalize Lib.trimS (c :: t) lettersDigits = u at ht hn
  have HI := Lib.hid hi
  have HT := Lib.hid ht
  have HRR : Hid (R = (decide ((c :: t).length ≤ 10) && decide (0 ≤ q) && u.isEmpty)) := Lib.hid (hR.symm.trans (by unfold nameB; rw [hq, hn]; rfl))
  clear hi ht hn hq hR
  go_enter Tryz.func14, Tryz.ntmps14
  go_wp2_with (first | (go_at_call 53; refine (HI.out _).mono ?_; rintro e w5 ⟨rfl, rfl⟩) | (go_at_call 54; refine (HT.out _).mono ?_; rintro e w6 ⟨rfl, hb⟩))
  all_goals go_ret
  all_goals refine ⟨?_, by first | exact Keeps.of_below hb | exact Keeps.refl _ _⟩
  all_goals rw [HRR.out]
  all_goals refine congrArg (fun b => Ending.returned (.bool b)) (?_ : _ = _)
  all_goals first | rfl | (simp_all; done) | (simp_all; omega) | (simp_all; intros; omega)
end Go.Proofs.YtpagiajlefejcaaGreatDoor
namespace Go.Proofs.YtpagiajlefejcaaGreatDoor
open Go.RowKit
attribute [local go_sem] bs_size bs_extract bs_append bs_toList
def badR (r : Nat) : Bool := decide (r < 32) || decide (126 < r) || decide (r = 39)
theorem decode_big (s : ByteArray) (pos : Nat) (h : 128 ≤ (s.get! (pos + 0)).toNat) : 128 ≤ (Utf8.decode s pos).1 := by
 unfold Utf8.decode
 simp only [Utf8.runeError, ge_iff_le]
 split
 ·omega
 ·repeat' split
  all_goals simp only [Bool.and_eq_true, decide_eq_true_eq] at *
  all_goals omega
theorem badRune_any (r : Nat) (hr : r < 2147483648) (w : World) :
    Calls Tryz.prog 49 #[.int .i32 (r : Int)] w fun e w' => e = .returned (.bool (badR r)) ∧ w = w' := by
  have h1 : decide ((r : Int) < 32) = decide (r < 32) := by rw [decide_eq_decide]; omega
  have h2 : decide ((126 : Int) < (r : Int)) = decide (126 < r) := by rw [decide_eq_decide]; omega
  have h3 : ((r : Int) == 39) = decide (r = 39) := by rw [Bool.eq_iff_iff]; simp; omega
  have hb : Hid (badR r = (decide (r < 32) || decide (126 < r) || decide (r = 39))) := rfl
  go_enter Tryz.func49, Tryz.ntmps49
  go_wp2
  all_goals go_ret
  all_goals refine ⟨?_, rfl⟩
  all_goals rw [hb.out]
  all_goals first
    | rfl
    | (show Ending.returned (.bool true) = .returned (.bool _)
       congr 2
       simp_all)
theorem getE (s : Bs) (pos : Nat) (h : pos < s.length) : (bs s).get! (pos + 0) = s[pos] := by
 rw [Nat.add_zero]
 show s.toArray[pos]! = _
 rw [getElem!_pos s.toArray pos (by simpa using h)]
 simp
theorem iterAt_other {w : World} {k j : Nat} (s : ByteArray) (p : Nat) (h : j ≠ k) : (w.iterAt k s p).heap[j]? = w.heap[j]? := by
 unfold World.iterAt
 simp [Ne.symm h]
set_option maxHeartbeats 2000000 in
theorem indexFunc_bad (s : Bs) (w : World) :
  Calls Tryz.prog 167 #[.string (bs s), .func (.func 49) #[] #[], .bool true] w fun e w' => (∃ n : Int, e = .returned (.int .i64 n) ∧ decide (0 ≤ n) = s.any badB) ∧ Keeps [] w w' := by
 go_enter Tryz.func167, Tryz.ntmps167
 go_wp2
 have hit0 : (w.iter (bs s) 0).heap[w.heap.size]? = some (.stringIter (bs s) 0) := World.iter_heap _ _ _
 have hk0 : Keeps [] w (w.iter (bs s) 0) := (Keeps.refl [] w).alloc _
 have HIT0 := Lib.hid hit0
 have HK0 := Lib.hid hk0
 clear hit0 hk0
 go_loopw [11] (fun _ wr => ∃ pos : Nat, pos ≤ s.length ∧ Hid (∀ j (hj : j < pos) (hl : j < s.length), badB s[j] = false) ∧ wr.heap[w.heap.size]? = some (.stringIter (bs s) pos) ∧ Keeps [] w wr) (fun _ wr => s.length - wr.iterPos w.heap.size)
 case atStart => exact ⟨0, Nat.zero_le _, fun j hj => absurd hj (by omega), HIT0.out, HK0.out⟩
 case round =>
  clear HIT0 HK0
  obtain ⟨pos, hpos, hno, hit, hkr⟩ := hrel
  have hlt : w.heap.size < wr.heap.size := (Array.getElem?_eq_some_iff.1 hit).1
  by_cases hp : pos < s.length
  ·have hp' : pos < (bs s).size := by rw [bs_size]; exact hp
   have hnx : ∀ ty, (Instr.next (.pointer (some ⟨w.heap.size, 0, none⟩)) true ty).run Tryz.prog wr = _ := fun ty => Lib.run_next_any_at wr w.heap.size (bs s) pos ty hit hp'
   have hit2 := Lib.iterAt_heap wr w.heap.size (bs s) pos (pos + (Utf8.decode (bs s) pos).2) hit
   have hk2 : Keeps [] w (wr.iterAt w.heap.size (bs s) (pos + (Utf8.decode (bs s) pos).2)) := hkr.trans' (L' := [w.heap.size]) ⟨rfl, rfl, by rw [Lib.iterAt_size]; exact Nat.le_refl _, fun k hk hn => iterAt_other _ _ (by simpa using hn)⟩ (fun x hx hl => by simp at hx; omega)
   have hge := getE s pos hp
   have hr31 : (Utf8.decode (bs s) pos).1 < 2147483648 := by have := decode_le (bs s) pos; omega
   have hip : wr.iterPos w.heap.size = pos := iterPos_of hit
   have HIP := Lib.hid hip
   by_cases hA : (s[pos]).toNat < 128
   ·have hd : Utf8.decode (bs s) pos = (s[pos].toNat, 1) := decode_ascii (bs s) pos hp' (by rw [bs_get]; exact hA)
    rw [hd] at hnx hit2 hk2
    have HIT2 := Lib.hid hit2
    have HK2 := Lib.hid hk2
    generalize hb : s[pos] = b at *
    have HB := Lib.hid hb
    clear hit2 hk2 hb hd hge hr31 hit hkr hip
    cases hbad : badB b with
    | true =>
     have hr : badR b.toNat = true := hbad
     have hbr := fun W => badRune_any b.toNat (by omega) W
     rw [hr] at hbr
     have HBR := Lib.hid hbr
     have hany : s.any badB = true := List.any_eq_true.2 ⟨s[pos], List.getElem_mem hp, by rw [HB.out]; exact hbad⟩
     have HANY := Lib.hid hany
     clear hr hbr hbad hany
     go_wp2_with (go_at_call 49; refine (HBR.out _).mono ?_; rintro e w5 ⟨rfl, rfl⟩)
     go_ret
     exact ⟨⟨(pos : Int), rfl, by rw [HANY.out]; simp⟩, HK2.out⟩
    | false =>
     have hr : badR b.toNat = false := hbad
     have hbr := fun W => badRune_any b.toNat (by omega) W
     rw [hr] at hbr
     have HBR := Lib.hid hbr
     have hno' : Hid (∀ j (hj : j < pos + 1) (hl : j < s.length), badB s[j] = false) := fun j hj hl => by
      by_cases h : j < pos
      ·exact hno.out j h hl
      ·obtain rfl : j = pos := by omega
       exact (congrArg badB HB.out).trans hbad
     clear hr hbr hbad hno
     go_wp2_with (go_at_call 49; refine (HBR.out _).mono ?_; rintro e w5 ⟨rfl, rfl⟩)
     go_roundw
     case rel => exact ⟨pos + 1, by omega, hno', HIT2.out, HK2.out⟩
     case measure => rw [iterPos_of HIT2.out, HIP.out]; omega
   ·have hbig := decode_big (bs s) pos (by rw [hge]; omega)
    have hbad : badB s[pos] = true := by unfold badB; simp; omega
    have hany : s.any badB = true := List.any_eq_true.2 ⟨s[pos], List.getElem_mem hp, hbad⟩
    generalize Utf8.decode (bs s) pos = dd at *
    have hr : badR dd.1 = true := by unfold badR; simp; omega
    have hbr := fun W => badRune_any dd.1 hr31 W
    rw [hr] at hbr
    have HBR := Lib.hid hbr
    have HANY := Lib.hid hany
    have HK2 := Lib.hid hk2
    clear hr hbr hbad hany hk2 hit2 hge hip hit hkr
    go_wp2_with (go_at_call 49; refine (HBR.out _).mono ?_; rintro e w5 ⟨rfl, rfl⟩)
    go_ret
    exact ⟨⟨(pos : Int), rfl, by rw [HANY.out]; simp⟩, HK2.out⟩
  ·have hnx : ∀ ty, (Instr.next (.pointer (some ⟨w.heap.size, 0, none⟩)) true ty).run Tryz.prog wr = _ := fun ty => Lib.run_next_end_at wr w.heap.size (bs s) pos ty hit (by rw [bs_size]; exact hp)
   have hany : s.any badB = false := by
    rw [List.any_eq_false]
    intro x hx
    obtain ⟨j, hj, rfl⟩ := List.getElem_of_mem hx
    rw [hno.out j (by omega) hj]; decide
   have HANY := Lib.hid hany
   have HKR := Lib.hid hkr
   clear hany hkr hit
   go_wp2
   go_ret
   exact ⟨⟨-1, rfl, by rw [HANY.out]; rfl⟩, HKR.out⟩
theorem containsBad_any (s : Bs) (w : World) :
  Calls Tryz.prog 48 #[.string (bs s), .func (.func 49) #[] #[]] w fun e w' => e = .returned (.bool (s.any badB)) ∧ Keeps [] w w' := by
 have HI := Lib.hid (indexFunc_bad s)
 have h1 : Calls Tryz.prog 114 #[.string (bs s), .func (.func 49) #[] #[]] w fun e w' => (∃ n : Int, e = .returned (.int .i64 n) ∧ decide (0 ≤ n) = s.any badB) ∧ Keeps [] w w' := by
  go_enter Tryz.func114, Tryz.ntmps114
  go_wp2_with (go_at_call 167; refine (HI.out _).mono ?_; rintro e w5 ⟨⟨n, rfl, hn⟩, hk⟩)
  have HN := Lib.hid hn
  clear hn
  go_ret
  exact ⟨⟨n, rfl, HN.out⟩, hk⟩
 have H1 := Lib.hid h1
 clear h1
 go_enter Tryz.func48, Tryz.ntmps48
 go_wp2_with fail
 refine H1.out.mono ?_
 rintro e w5 ⟨⟨n, rfl, hn⟩, hk⟩
 have HN := Lib.hid hn
 clear hn
 go_wp2
 go_ret
 exact ⟨by rw [← HN.out]; rfl, hk⟩
theorem rightValue_any (v : Vl) (w : World) :
  Calls Tryz.prog 8 #[vAgg v] w fun e w' => e = .returned (.bool (rvB v)) ∧ Keeps [] w w' := by
 obtain ⟨k, n, s⟩ := v
 show Calls _ _ #[.agg #[.int .i64 k, .int .i64 n, .string (bs s)]] w _
 have HC := Lib.hid (containsBad_any s)
 obtain ⟨R, hR⟩ : ∃ R, rvB ⟨k, n, s⟩ = R := ⟨_, rfl⟩
 rw [hR]
 by_cases h1 : k = 1
 ·have hb1 : (k == 1) = true := by rw [h1]; rfl
  have HR : Hid (R = ((s == []) && decide (-1000000000 ≤ n) && decide (n ≤ 1000000000))) := Lib.hid (hR.symm.trans (if_pos h1))
  clear h1 hR
  go_enter Tryz.func8, Tryz.ntmps8
  go_wp2
  all_goals go_ret
  all_goals refine ⟨?_, (Keeps.refl _ _).alloc _⟩
  all_goals rw [HR.out]
  all_goals refine congrArg (fun b => Ending.returned (.bool b)) (?_ : _ = _)
  all_goals first | rfl | (simp_all; done) | (simp_all; omega) | (simp_all; intros; omega) | (simp_all; intros; exfalso; omega)
 ·have hb1 : (k == 1) = false := by rw [beq_eq_false_iff_ne]; exact h1
  by_cases h2 : k = 2
  ·have hb2 : (k == 2) = true := by rw [h2]; rfl
   have HR : Hid (R = (decide (n = 0) && decide (s.length ≤ 16) && !s.any badB)) := Lib.hid (hR.symm.trans ((if_neg h1).trans (if_pos h2)))
   clear h1 h2 hR
   go_enter Tryz.func8, Tryz.ntmps8
   go_wp2_with (go_at_call 48; refine (HC.out _).mono ?_; rintro e w5 ⟨rfl, hk⟩)
   all_goals go_ret
   all_goals refine ⟨?_, by first | exact (((Keeps.refl _ _).alloc _).trans hk) | exact ((Keeps.refl _ _).alloc _)⟩
   all_goals rw [HR.out]
   all_goals refine congrArg (fun b => Ending.returned (.bool b)) (?_ : _ = _)
   all_goals first | rfl | (simp_all; done) | (simp_all; omega) | (simp_all; intros; omega) | (simp_all; intros; exfalso; omega)
  ·have hb2 : (k == 2) = false := by rw [beq_eq_false_iff_ne]; exact h2
   have HR : Hid (R = false) := Lib.hid (hR.symm.trans ((if_neg h1).trans (if_neg h2)))
   clear h1 h2 hR
   go_enter Tryz.func8, Tryz.ntmps8
   go_wp2
   go_ret
   exact ⟨by rw [HR.out]; rfl, (Keeps.refl _ _).alloc _⟩
end Go.Proofs.YtpagiajlefejcaaGreatDoor
namespace Go.Proofs.YtpagiajlefejcaaGreatDoor
open Go.RowKit
attribute [local go_sem] bs_size bs_extract bs_append bs_toList
def findIxC (p : Cl → Bool) (l : List Cl) : Int := match l.findIdx? p with | some i => (i : Int) | none => -1
theorem findIxC_hit {p : Cl → Bool} {l : List Cl} {k : Nat} (h : k < l.length) (hn : ∀ j (hj : j < k), p (l[j]'(by omega)) = false) (hp : p l[k] = true) : findIxC p l = (k : Int) := by
 unfold findIxC
 have : l.findIdx? p = some k := by
  rw [List.findIdx?_eq_some_iff_getElem]
  exact ⟨h, hp, fun j hj => by rw [hn j hj]; simp⟩
 rw [this]
theorem findIxC_none {p : Cl → Bool} {l : List Cl} (hn : ∀ j (hj : j < l.length), p l[j] = false) : findIxC p l = -1 := by
 unfold findIxC
 have : l.findIdx? p = none := by
  rw [List.findIdx?_eq_none_iff]
  intro x hx
  obtain ⟨j, hj, rfl⟩ := List.getElem_of_mem hx
  simp [hn j hj]
 rw [this]
theorem findIxC_any (p : Cl → Bool) (l : List Cl) : decide (0 ≤ findIxC p l) = l.any p := by
 rw [Bool.eq_iff_iff, decide_eq_true_iff, List.any_eq_true]
 unfold findIxC
 cases h : l.findIdx? p with
 | none =>
  rw [List.findIdx?_eq_none_iff] at h
  simp
  intro x hx
  simpa using h x hx
 | some i =>
  rw [List.findIdx?_eq_some_iff_getElem] at h
  obtain ⟨hi, hp, _⟩ := h
  simp
  exact ⟨_, List.getElem_mem hi, hp⟩
def PredC (k : Nat) (cap : Array Value) (p : Cl → Bool) (l : List Cl) (w : World) : Prop :=
 ∀ c ∈ l, ∀ W, Keeps [] w W → Calls Tryz.prog k (#[cAgg c] ++ cap) W fun e W' => e = .returned (.bool (p c)) ∧ Keeps [] W W'
set_option maxHeartbeats 2000000 in
theorem indexFuncC_any (k : Nat) (cap : Array Value) (he : ∀ args w, (callFunc k args).run Tryz.prog w = .ok (.enter k args) w) (p : Cl → Bool) (l : List Cl) (A : Option Addr) (c : Nat) (w : World) (hR : Rd w [] 2 A l.length (csCells l)) (hl : l.length ≤ 4294967296) (hf : PredC k cap p l w) :
  Calls Tryz.prog 115 #[.slice A l.length c, .func (.func k) #[] cap] w fun e w' => e = .returned (.int .i64 (findIxC p l)) ∧ Keeps [] w w' := by
 have HR := Lib.hid hR
 have HF := Lib.hid hf
 clear hR hf
 go_enter Tryz.func115, Tryz.ntmps115
 go_wp2
 go_loopw [8] (fun i wr => ∃ n : Nat, n ≤ l.length ∧ i = .int .i64 n ∧ Hid (∀ j (hj : j < n) (hl : j < l.length), p l[j] = false) ∧ Keeps [] w wr) (fun i _ => l.length - (intOf i).toNat)
 case atStart => exact ⟨0, Nat.zero_le _, rfl, fun j hj => absurd hj (by omega), Keeps.refl _ _⟩
 case round =>
  obtain ⟨n, hn, rfl, hno, hk⟩ := hrel
  by_cases hlt : n < l.length
  ·obtain ⟨b, o, rfl, _, hb, hc⟩ := (HR.out.keep hk).open' (by omega) (by omega)
   have d1 := hc (n * 2) _ (csCells_at l n hlt).1
   have d2 := hc (n * 2 + 1) _ (csCells_at l n hlt).2
   rw [← Nat.add_assoc] at d2
   have HH := HF.out l[n] (List.getElem_mem hlt) wr hk
   generalize hx : l[n] = x at *
   have HX := Lib.hid hx
   have HH' := Lib.hid HH
   clear HH hc hx
   cases hp : p x with
   | true =>
    have hfin : findIxC p l = (n : Int) := findIxC_hit hlt (fun j hj => hno j hj (by omega)) ((congrArg p HX.out).trans hp)
    rw [hp] at HH'
    have HP := Lib.hid hfin
    clear hfin hp
    go_wp2_with fail
    refine HH'.out.mono ?_
    rintro e W2 ⟨rfl, hk2⟩
    go_wp2
    go_ret
    exact ⟨by rw [HP.out]; rfl, hk.trans hk2⟩
   | false =>
    have hno' : Hid (∀ j (hj : j < n + 1) (hl : j < l.length), p l[j] = false) := fun j hj hl => by
     by_cases h : j < n
     ·exact hno j h hl
     ·obtain rfl : j = n := by omega
      exact (congrArg p HX.out).trans hp
    rw [hp] at HH'
    clear hp
    go_wp2_with fail
    refine HH'.out.mono ?_
    rintro e W2 ⟨rfl, hk2⟩
    go_wp2
    go_roundw
    case rel => exact ⟨n + 1, by omega, by go_num, hno', hk.trans hk2⟩
    case measure => simp [intOf]; omega
  ·have hfin : Hid (findIxC p l = -1) := findIxC_none fun j hj => hno j (by omega) hj
   go_wp2
   go_ret
   exact ⟨by rw [hfin.out]; rfl, hk⟩
theorem containsFuncC_any (k : Nat) (cap : Array Value) (he : ∀ args w, (callFunc k args).run Tryz.prog w = .ok (.enter k args) w) (p : Cl → Bool) (l : List Cl) (A : Option Addr) (c : Nat) (w : World) (hR : Rd w [] 2 A l.length (csCells l)) (hl : l.length ≤ 4294967296) (hf : PredC k cap p l w) :
  Calls Tryz.prog 51 #[.slice A l.length c, .func (.func k) #[] cap] w fun e w' => e = .returned (.bool (l.any p)) ∧ Keeps [] w w' := by
 have HC := Lib.hid (indexFuncC_any k cap he p l A c w hR hl hf)
 clear hR hf he
 rw [← findIxC_any]
 go_enter Tryz.func51, Tryz.ntmps51
 go_wp2_with (go_at_call 115; refine HC.out.mono ?_; rintro e W2 ⟨rfl, hk2⟩)
 go_ret
 exact ⟨rfl, hk2⟩
theorem rdC_take {w : World} {L : List Nat} {A : Option Addr} {l : List Cl} {k : Nat} (h : Rd w L 2 A l.length (csCells l)) (hk : k ≤ l.length) : Rd w L 2 A (l.take k).length (csCells (l.take k)) := by
 refine ⟨csCells_length _, fun h0 => ?_⟩
 obtain ⟨ad, e, hb, hlt, hc⟩ := h.2 (by rw [List.length_take] at h0; omega)
 refine ⟨ad, e, hb, hlt, fun j u hu => hc j u ?_⟩
 have hs : csCells l = csCells (l.take k) ++ csCells (l.drop k) := by rw [← csCells_append, List.take_append_drop]
 rw [hs, List.getElem?_append_left (List.getElem?_eq_some_iff.1 hu).1]
 exact hu
theorem nameIs_any (c d : Cl) (b : Nat) (w : World) (hb : w.cell? ⟨b, 0, none⟩ = some (.string (bs c.name))) :
  Calls Tryz.prog 52 #[cAgg d, .pointer (some ⟨b, 0, none⟩)] w fun e w' => e = .returned (.bool (d.name == c.name)) ∧ Keeps [] w w' := by
 have hlt := World.block_lt_of_cell? _ _ hb
 have hb' : (w.alloc (.cells #[.string (bs d.name), .int .i64 d.kind] 109)).cell? ⟨b, 0, none⟩ = some (.string (bs c.name)) := ((Keeps.refl [] w).alloc _).cell_of hb (by simp)
 show Calls _ _ #[.agg #[.string (bs d.name), .int .i64 d.kind], .pointer (some ⟨b, 0, none⟩)] w _
 clear hb hlt
 go_enter Tryz.func52, Tryz.ntmps52
 go_wp2
 go_ret
 exact ⟨rfl, (Keeps.refl _ _).alloc _⟩
theorem colsB_false {l : List Cl} {n : Nat} (h : n < l.length) (hb : okCol l n = false) : colsB l = false := by
 unfold colsB
 have : (List.range l.length).all (okCol l) = false := by
  rw [List.all_eq_false]
  exact ⟨n, List.mem_range.2 h, by rw [hb]; decide⟩
 rw [this, Bool.and_false]
set_option maxRecDepth 100000 in
set_option maxHeartbeats 4000000 in
theorem rightCols_any (l : List Cl) (A : Option Addr) (c : Nat) (w : World) (hR : Rd w [] 2 A l.length (csCells l)) (hc : l.length ≤ c) (hn : ∀ x ∈ l, x.name.length ≤ 1000000000) (hl : l.length ≤ 4294967296) :
  Calls Tryz.prog 10 #[.slice A l.length c] w fun e w' => e = .returned (.bool (colsB l)) ∧ Keeps [] w w' := by
 have HR := Lib.hid hR
 have HN := Lib.hid hn
 clear hR hn
 by_cases h1 : 1 ≤ l.length ∧ l.length ≤ 6
 ·have q1 : ¬ ((l.length : Int) < 1) := by omega
  have q2 : ¬ ((6 : Int) < (l.length : Int)) := by omega
  have HQ := Lib.hid h1
  clear h1
  go_enter Tryz.func10, Tryz.ntmps10
  go_wp2
  go_loopw [15] (fun i wr => ∃ n : Nat, n ≤ l.length ∧ i = .int .i64 n ∧ Hid (∀ j, j < n → okCol l j = true) ∧ Keeps [] w wr) (fun i _ => l.length - (intOf i).toNat)
  case atStart => exact ⟨0, Nat.zero_le _, rfl, fun j hj => absurd hj (by omega), Keeps.refl _ _⟩
  case round =>
   obtain ⟨n, hn, rfl, hno, hk⟩ := hrel
   by_cases hlt : n < l.length
   ·obtain ⟨b, o, rfl, _, hb, hcs⟩ := (HR.out.keep hk).open' (by omega) (by omega)
    have d1 := hcs (n * 2) _ (csCells_at l n hlt).1
    have d2 := hcs (n * 2 + 1) _ (csCells_at l n hlt).2
    rw [← Nat.add_assoc] at d2
    have hx1 := HN.out _ (List.getElem_mem hlt)
    have hok : okCol l n = (nameB l[n].name && (decide (l[n].kind = 1) || decide (l[n].kind = 2)) && !((l.take n).any fun d => d.name == l[n].name)) := by unfold okCol; rw [List.getElem?_eq_getElem hlt]
    generalize l[n] = x at *
    obtain ⟨nm, kd⟩ := x
    simp only at d1 d2 hx1 hok
    have hnm := name_any nm hx1
    have hcf := fun W (q : Keeps [] w W) (hx : W.cell? ⟨wr.heap.size, 0, none⟩ = some (.string (bs nm))) => containsFuncC_any 52 #[.pointer (some ⟨wr.heap.size, 0, none⟩)] (enters_of Tryz.func52 (by kernel_rfl) rfl) (fun d => d.name == nm) (l.take n) (some ⟨b, o, none⟩) c W (rdC_take (HR.out.keep q) (by omega)) (by rw [List.length_take]; omega) (fun d hd W2 q2 => nameIs_any ⟨nm, kd⟩ d wr.heap.size W2 (q2.cell_of hx (by simp)))
    have hlt2 : (l.take n).length = n := by rw [List.length_take]; omega
    rw [hlt2] at hcf
    have hbad : okCol l n = false → Hid (colsB l = false) := fun h => colsB_false hlt h
    have HBAD := Lib.hid hbad
    have HK2 := Lib.hid (hk.alloc (.cells #[.string (bs nm), .int .i64 kd] 109))
    have hnc : n ≤ c := by omega
    clear hcs hk hx1 hbad hlt2
    cases hb1 : nameB nm with
    | false =>
     rw [hb1] at hnm hok
     have HNM := Lib.hid hnm
     have HF := HBAD.out (by rw [hok]; rfl)
     clear hnm hcf hok hb1
     go_wp2_with (go_at_call 14; refine (HNM.out _).mono ?_; rintro e w5 ⟨rfl, hk5⟩)
     go_ret
     exact ⟨by rw [HF.out]; rfl, HK2.out.trans hk5⟩
    | true =>
     rw [hb1] at hnm hok
     have HNM := Lib.hid hnm
     clear hnm hb1
     by_cases hk12 : kd = 1 ∨ kd = 2
     ·have hokk : okCol l n = !((l.take n).any fun d => d.name == nm) := by rw [hok]; rcases hk12 with rfl | rfl <;> rfl
      clear hok
      cases hb2 : (l.take n).any (fun d => d.name == nm) with
      | true =>
       rw [hb2] at hcf hokk
       have HCF := Lib.hid hcf
       have HF := HBAD.out (by rw [hokk]; rfl)
       clear hcf hokk hb2
       rcases hk12 with rfl | rfl
       ·go_wp2_with (first | (go_at_call 14; refine (HNM.out _).mono ?_; rintro e w5 ⟨rfl, hk5⟩; have q0 := hk5.cell_of (p := ⟨wr.heap.size, 0, none⟩) (v := .string (bs nm)) (by simp) (by simp); have q1 := hk5.cell_of (p := ⟨wr.heap.size, 1, none⟩) (v := .int .i64 1) (by simp) (by simp)) | (go_at_call 51; refine (HCF.out _ (HK2.out.trans hk5) q0).mono ?_; rintro e w6 ⟨rfl, hk6⟩))
        go_ret
        exact ⟨by rw [HF.out]; rfl, (HK2.out.trans hk5).trans hk6⟩
       ·go_wp2_with (first | (go_at_call 14; refine (HNM.out _).mono ?_; rintro e w5 ⟨rfl, hk5⟩; have q0 := hk5.cell_of (p := ⟨wr.heap.size, 0, none⟩) (v := .string (bs nm)) (by simp) (by simp); have q1 := hk5.cell_of (p := ⟨wr.heap.size, 1, none⟩) (v := .int .i64 2) (by simp) (by simp)) | (go_at_call 51; refine (HCF.out _ (HK2.out.trans hk5) q0).mono ?_; rintro e w6 ⟨rfl, hk6⟩))
        go_ret
        exact ⟨by rw [HF.out]; rfl, (HK2.out.trans hk5).trans hk6⟩
      | false =>
       rw [hb2] at hcf hokk
       have HCF := Lib.hid hcf
       have hno' : Hid (∀ j, j < n + 1 → okCol l j = true) := fun j hj => by
        by_cases h : j < n
        ·exact hno.out j h
        ·obtain rfl : j = n := by omega
         rw [hokk]; rfl
       clear hcf hokk hb2
       rcases hk12 with rfl | rfl
       ·go_wp2_with (first | (go_at_call 14; refine (HNM.out _).mono ?_; rintro e w5 ⟨rfl, hk5⟩; have q0 := hk5.cell_of (p := ⟨wr.heap.size, 0, none⟩) (v := .string (bs nm)) (by simp) (by simp); have q1 := hk5.cell_of (p := ⟨wr.heap.size, 1, none⟩) (v := .int .i64 1) (by simp) (by simp)) | (go_at_call 51; refine (HCF.out _ (HK2.out.trans hk5) q0).mono ?_; rintro e w6 ⟨rfl, hk6⟩))
        go_roundw
        case rel => exact ⟨n + 1, by omega, by go_num, hno', (HK2.out.trans hk5).trans hk6⟩
        case measure => simp [intOf]; omega
       ·go_wp2_with (first | (go_at_call 14; refine (HNM.out _).mono ?_; rintro e w5 ⟨rfl, hk5⟩; have q0 := hk5.cell_of (p := ⟨wr.heap.size, 0, none⟩) (v := .string (bs nm)) (by simp) (by simp); have q1 := hk5.cell_of (p := ⟨wr.heap.size, 1, none⟩) (v := .int .i64 2) (by simp) (by simp)) | (go_at_call 51; refine (HCF.out _ (HK2.out.trans hk5) q0).mono ?_; rintro e w6 ⟨rfl, hk6⟩))
        go_roundw
        case rel => exact ⟨n + 1, by omega, by go_num, hno', (HK2.out.trans hk5).trans hk6⟩
        case measure => simp [intOf]; omega
     ·have hz1 : (kd != 1) = true := by rw [bne_iff_ne]; exact fun h => hk12 (.inl h)
      have hz2 : (kd != 2) = true := by rw [bne_iff_ne]; exact fun h => hk12 (.inr h)
      have hokk : okCol l n = false := by rw [hok]; have h1 : kd ≠ 1 := fun h => hk12 (.inl h); have h2 : kd ≠ 2 := fun h => hk12 (.inr h); simp [h1, h2]
      have HF := HBAD.out hokk
      clear hok hokk hcf hk12
      go_wp2_with (go_at_call 14; refine (HNM.out _).mono ?_; rintro e w5 ⟨rfl, hk5⟩; have q1 := hk5.cell_of (p := ⟨wr.heap.size, 1, none⟩) (v := .int .i64 kd) (by simp) (by simp))
      go_ret
      exact ⟨by rw [HF.out]; rfl, HK2.out.trans hk5⟩
   ·have hfin : Hid (colsB l = true) := by
     unfold colsB
     have h := HQ.out
     rw [decide_eq_true h.1, decide_eq_true h.2, Bool.and_self, Bool.true_and, List.all_eq_true]
     intro j hj
     exact hno.out j (by have := List.mem_range.1 hj; omega)
    go_wp2
    go_ret
    exact ⟨by rw [hfin.out]; rfl, hk⟩
 ·have hfin : Hid (colsB l = false) := by
   unfold colsB
   have : (decide (1 ≤ l.length) && decide (l.length ≤ 6)) = false := by
    rw [← Bool.not_eq_true, Bool.and_eq_true, decide_eq_true_iff, decide_eq_true_iff]
    exact h1
   rw [this, Bool.false_and]
   exact Lib.hid rfl
  by_cases h2 : l.length < 1
  ·have h2' : (l.length : Int) < 1 := by omega
   clear h1
   go_enter Tryz.func10, Tryz.ntmps10
   go_wp2
   go_ret
   exact ⟨by rw [hfin.out]; rfl, Keeps.refl _ _⟩
  ·have h2' : ¬ ((l.length : Int) < 1) := by omega
   have h3' : (6 : Int) < (l.length : Int) := by omega
   clear h1
   go_enter Tryz.func10, Tryz.ntmps10
   go_wp2
   go_ret
   exact ⟨by rw [hfin.out]; rfl, Keeps.refl _ _⟩
end Go.Proofs.YtpagiajlefejcaaGreatDoor
