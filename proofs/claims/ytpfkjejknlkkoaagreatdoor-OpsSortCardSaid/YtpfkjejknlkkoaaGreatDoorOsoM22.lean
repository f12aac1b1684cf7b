/- slices.stableCmpFunc and SortStableFunc at rows. table: Less. ops.sorted: its comparison, and itself. -/
import Derived.Test.YtpfkjejknlkkoaaGreatDoorOsoM21
import Derived.Test.YtpfkjejknlkkoaaGreatDoorOsoM4
import Derived.Test.YtpfkjejknlkkoaaGreatDoorOsoM2
import Derived.Test.YtpfkjejknlkkoaaGreatDoorOsoM7
import Derived.Test.YtpfkjejknlkkoaaGreatDoorOsoM5
set_option linter.unusedSimpArgs false
set_option linter.unusedVariables false
namespace Go.Proofs.YtpfkjejknlkkoaaGreatDoor
open Go.RowKit Go.BigFrame
attribute [local go_sem] bs_size bs_extract bs_append bs_toList KW.cell
set_option maxRecDepth 100000 in
set_option maxHeartbeats 8000000 in
theorem stable_any (y : World) (G : Nat) (rest : List Value) (n c : Nat) (hn : n ≤ 1000000) (kf : Nat) (cap : Array Value) (ci : SR → SR → Int) (S : SR → Prop) (hC : CmpC y G kf cap ci S) (l : List SR) (hS : ∀ z ∈ l, S z) (hl : l.length = n) (w : World) (h : SrSt y G rest l w) :
  Calls Tryz.prog 120 #[.slice (some ⟨G, 0, none⟩) n c, .int .i64 (n : Int), .func (.func kf) #[] cap] w fun e w' => e = .returned (.tuple #[]) ∧ SrSt y G rest (stS (sle ci) l) w' := by
 have HS := Lib.hid h
 have HSS := Lib.hid hS
 have HC := Lib.hid hC
 have HL := Lib.hid hl
 clear h hS hC hl
 go_enter Tryz.func120, Tryz.ntmps120
 go_wp2_with fail
 go_loopw [7, 8] (fun va vb wr => ∃ (X : List SR) (a b : Nat), va = .int .i64 (a : Int) ∧ vb = .int .i64 (b : Int) ∧ b = a + 20 ∧ Hid (X.length = a) ∧ a ≤ n ∧ Hid (X ++ chk (sle ci) 20 (l.drop a) = chk (sle ci) 20 l) ∧ Hid (SrSt y G rest (X ++ l.drop a) wr)) (fun _ vb _ => n + 40 - (intOf vb).toNat)
 case atStart => exact ⟨[], 0, 20, rfl, rfl, rfl, Lib.hid rfl, Nat.zero_le _, Lib.hid (by simp), Lib.hid (by simpa using HS.out)⟩
 case round =>
  clear HS
  obtain ⟨X, a, b, rfl, rfl, hb, HX, han, HE, HI⟩ := hrel
  by_cases hbn : b ≤ n
  ·have hbi : (b : Int) ≤ (n : Int) := by omega
   have hwb : IntKind.i64.wrap ((b : Int) + 20) = ((b + 20 : Nat) : Int) := by simp [IntKind.wrap, IntKind.bits, IntKind.signed]; omega
   have hxa := HX.out
   have hll := HL.out
   have HIN : Hid (Calls Tryz.prog 139 #[.slice (some ⟨G, 0, none⟩) n c, .int .i64 (a : Int), .int .i64 (b : Int), .func (.func kf) #[] cap] wr fun e w' => e = .returned (.tuple #[]) ∧ SrSt y G rest (X ++ (stS (sle ci) ((l.drop a).take 20) ++ l.drop b)) w') := Lib.hid (by
    have e : l.drop a = (l.drop a).take 20 ++ l.drop b := by
     have h1 := List.take_append_drop 20 (l.drop a)
     rw [List.drop_drop, ← hb] at h1
     exact h1.symm
    have h2 := HI.out
    rw [e] at h2
    exact insertion_any y G rest n c hn kf cap ci S HC.out X ((l.drop a).take 20) (l.drop b) (fun z hz => HSS.out z (List.mem_of_mem_drop (List.mem_of_mem_take hz))) (by rw [List.length_take, List.length_drop, List.length_drop]; omega) a b hxa.symm (by rw [List.length_take, List.length_drop]; omega) wr h2)
   have HN : Hid (∀ wx, SrSt y G rest (X ++ (stS (sle ci) ((l.drop a).take 20) ++ l.drop b)) wx → ∃ (X : List SR) (a2 b2 : Nat), (.int .i64 (b : Int) : Value) = .int .i64 (a2 : Int) ∧ (.int .i64 ((b + 20 : Nat) : Int) : Value) = .int .i64 (b2 : Int) ∧ b2 = a2 + 20 ∧ Hid (X.length = a2) ∧ a2 ≤ n ∧ Hid (X ++ chk (sle ci) 20 (l.drop a2) = chk (sle ci) 20 l) ∧ Hid (SrSt y G rest (X ++ l.drop a2) wx)) := Lib.hid (fun wx h => by
    refine ⟨X ++ stS (sle ci) ((l.drop a).take 20), b, b + 20, rfl, rfl, rfl, Lib.hid ?_, hbn, Lib.hid ?_, Lib.hid (by simpa using h)⟩
    ·rw [List.length_append, stS_len, List.length_take, List.length_drop]
     omega
    ·rw [← HE.out, chk_step (by decide) (l := l.drop a) (by rw [List.length_drop]; omega), List.drop_drop, ← hb]
     simp)
   clear hxa hll hb han
   go_wp2_with ((with_reducible refine HIN.out.mono ?_); rintro e w5 ⟨rfl, h5⟩)
   go_roundw
   case rel => exact HN.out _ h5
   case measure => simp [intOf]; omega
  ·have hbi : ¬ (b : Int) ≤ (n : Int) := by omega
   have hxa := HX.out
   have hll := HL.out
   have HIN : Hid (Calls Tryz.prog 139 #[.slice (some ⟨G, 0, none⟩) n c, .int .i64 (a : Int), .int .i64 (n : Int), .func (.func kf) #[] cap] wr fun e w' => e = .returned (.tuple #[]) ∧ SrSt y G rest (chk (sle ci) 20 l) w') := Lib.hid (by
    have h2 := insertion_any y G rest n c hn kf cap ci S HC.out X (l.drop a) [] (fun z hz => HSS.out z (List.mem_of_mem_drop hz)) (by rw [List.length_drop]; simp; omega) a n hxa.symm (by rw [List.length_drop]; omega) wr (by simpa using HI.out)
    rw [← HE.out, chk_small (l := l.drop a) (by rw [List.length_drop]; omega)]
    simpa using h2)
   clear hxa hll hb han HI HE HX hbn
   go_wp2_with ((with_reducible refine HIN.out.mono ?_); rintro e w5 ⟨rfl, h5⟩; have H5 := Lib.hid h5; clear h5)
   go_loopw [6, 7, 8, 9] (fun v6 _ _ _ wx => ∃ s : Nat, v6 = .int .i64 (s : Int) ∧ 20 ≤ s ∧ s ≤ 2000000 ∧ Hid (SrSt y G rest (chk (sle ci) s l) wx)) (fun v6 _ _ _ _ => n - (intOf v6).toNat)
   case atStart => exact ⟨20, rfl, Nat.le_refl _, by omega, H5⟩
   case round =>
    clear H5
    obtain ⟨s, rfl, hs20, hsm, HI⟩ := hrel
    obtain ⟨u, rfl⟩ : ∃ u : World, u = wr := ⟨_, rfl⟩
    by_cases hsn : s < n
    ·have hsi : (s : Int) < (n : Int) := by omega
     obtain ⟨d, hd⟩ : ∃ d, 2 * s = d := ⟨_, rfl⟩
     have hwd : IntKind.i64.wrap (2 * (s : Int)) = (d : Int) := by simp [IntKind.wrap, IntKind.bits, IntKind.signed]; omega
     have hwd2 : IntKind.i64.wrap ((s : Int) * 2) = (d : Int) := by simp [IntKind.wrap, IntKind.bits, IntKind.signed]; omega
     have HD := Lib.hid hd
     have HSD : Hid (20 ≤ s ∧ s < n) := Lib.hid ⟨hs20, hsn⟩
     clear hd hs20 hsm hsn
     go_wp2_with fail
     go_loopw [7, 8] (fun va vb wx => ∃ (X : List SR) (a b : Nat), va = .int .i64 (a : Int) ∧ vb = .int .i64 (b : Int) ∧ b = a + d ∧ Hid (X.length = a) ∧ a ≤ n ∧ Hid (X ++ chk (sle ci) d (l.drop a) = chk (sle ci) d l) ∧ Hid (SrSt y G rest (X ++ chk (sle ci) s (l.drop a)) wx)) (fun _ vb _ => n + 2 * d - (intOf vb).toNat)
     case atStart => exact ⟨[], 0, d, rfl, rfl, by omega, Lib.hid rfl, Nat.zero_le _, Lib.hid (by simp), Lib.hid (by simpa using HI.out)⟩
     case round =>
      clear HI
      obtain ⟨X, a, b, rfl, rfl, hb, HX, han, HE, HI⟩ := hrel
      obtain ⟨u2, rfl⟩ : ∃ u : World, u = wr := ⟨_, rfl⟩
      have hx := HX.out
      have hll := HL.out
      have hd := HD.out
      have hsd := HSD.out
      obtain ⟨m1, hm1⟩ : ∃ m1, a + s = m1 := ⟨_, rfl⟩
      have hwm : IntKind.i64.wrap ((a : Int) + (s : Int)) = (m1 : Int) := by simp [IntKind.wrap, IntKind.bits, IntKind.signed]; omega
      have hdl : (l.drop a).length = n - a := by rw [List.length_drop]; omega
      have hms : ∀ (q : List SR), (∀ z ∈ q, z ∈ l) → ∀ z ∈ stS (sle ci) q, S z := fun q hq z hz => HSS.out z (hq z ((stS_perm q).mem_iff.1 hz))
      by_cases hbn : b ≤ n
      ·have hbi : (b : Int) ≤ (n : Int) := by omega
       have hwb : IntKind.i64.wrap ((b : Int) + (d : Int)) = ((b + d : Nat) : Int) := by simp [IntKind.wrap, IntKind.bits, IntKind.signed]; omega
       obtain ⟨e1, e2⟩ := chk_two HC.out.ord (bs := s) (by omega) (l := l.drop a) (by omega)
       rw [hd, List.drop_drop, List.drop_drop, ← hb] at e1
       rw [hd, List.drop_drop] at e2
       have HME : Hid (Calls Tryz.prog 140 #[.slice (some ⟨G, 0, none⟩) n c, .int .i64 (a : Int), .int .i64 (m1 : Int), .int .i64 (b : Int), .func (.func kf) #[] cap] u2 fun e w' => e = .returned (.tuple #[]) ∧ SrSt y G rest (X ++ (stS (sle ci) ((l.drop a).take d) ++ chk (sle ci) s (l.drop b))) w') := Lib.hid (by
        have h2 := HI.out
        rw [e1] at h2
        rw [← e2]
        exact symTo y G rest n c hn kf cap ci S HC.out _ X _ _ _ (by rw [stS_len, List.length_take]; omega) (by rw [stS_len, List.length_take, List.length_drop]; omega) (Nat.lt_succ_self _) (hms _ fun z hz => List.mem_of_mem_drop (List.mem_of_mem_take hz)) (hms _ fun z hz => List.mem_of_mem_drop (List.mem_of_mem_take hz)) (stS_srt HC.out.ord _) (stS_srt HC.out.ord _) (by rw [stS_len, stS_len, chk_len, List.length_take, List.length_take, List.length_drop, List.length_drop, List.length_drop]; omega) a m1 b hx.symm (by rw [stS_len, List.length_take]; omega) (by rw [stS_len, stS_len, List.length_take, List.length_take, List.length_drop, List.length_drop]; omega) u2 h2)
       have HN : Hid (∀ wx, SrSt y G rest (X ++ (stS (sle ci) ((l.drop a).take d) ++ chk (sle ci) s (l.drop b))) wx → ∃ (X : List SR) (a2 b2 : Nat), (.int .i64 (b : Int) : Value) = .int .i64 (a2 : Int) ∧ (.int .i64 ((b + d : Nat) : Int) : Value) = .int .i64 (b2 : Int) ∧ b2 = a2 + d ∧ Hid (X.length = a2) ∧ a2 ≤ n ∧ Hid (X ++ chk (sle ci) d (l.drop a2) = chk (sle ci) d l) ∧ Hid (SrSt y G rest (X ++ chk (sle ci) s (l.drop a2)) wx)) := Lib.hid (fun wx h => by
        refine ⟨X ++ stS (sle ci) ((l.drop a).take d), b, b + d, rfl, rfl, rfl, Lib.hid ?_, hbn, Lib.hid ?_, Lib.hid (by simpa using h)⟩
        ·rw [List.length_append, stS_len, List.length_take]
         omega
        ·rw [← HE.out, chk_step (by omega) (l := l.drop a) (by omega), List.drop_drop, ← hb]
         simp)
       have HMS : Hid (n + 2 * d - (b + d) < n + 2 * d - b) := Lib.hid (by omega)
       clear hx hll hd hsd hm1 hdl hms e1 e2 hb han hbn
       go_wp2_with ((with_reducible refine HME.out.mono ?_); rintro e w5 ⟨rfl, h5⟩)
       go_roundw
       case rel => exact HN.out _ h5
       case measure => have := HMS.out; simp [intOf]; omega
      ·have hbi : ¬ (b : Int) ≤ (n : Int) := by omega
       have HN : Hid (∀ wx, SrSt y G rest (chk (sle ci) d l) wx → ∃ s2 : Nat, (.int .i64 (d : Int) : Value) = .int .i64 (s2 : Int) ∧ 20 ≤ s2 ∧ s2 ≤ 2000000 ∧ Hid (SrSt y G rest (chk (sle ci) s2 l) wx)) := Lib.hid (fun wx h => ⟨d, rfl, by omega, by omega, Lib.hid h⟩)
       have HMS : Hid (n - d < n - s) := Lib.hid (by omega)
       have hE := HE.out
       rw [chk_small (l := l.drop a) (by omega)] at hE
       by_cases hmn : m1 < n
       ·have hmi : (m1 : Int) < (n : Int) := by omega
        obtain ⟨e1, e2⟩ := chk_last HC.out.ord (bs := s) (by omega) (l := l.drop a) (by omega) (by omega)
        have HME : Hid (Calls Tryz.prog 140 #[.slice (some ⟨G, 0, none⟩) n c, .int .i64 (a : Int), .int .i64 (m1 : Int), .int .i64 (n : Int), .func (.func kf) #[] cap] u2 fun e w' => e = .returned (.tuple #[]) ∧ SrSt y G rest (chk (sle ci) d l) w') := Lib.hid (by
         have h2 := HI.out
         rw [e1] at h2
         have h3 := symTo y G rest n c hn kf cap ci S HC.out _ X (stS (sle ci) ((l.drop a).take s)) (stS (sle ci) ((l.drop a).drop s)) [] (by rw [stS_len, List.length_take]; omega) (by rw [stS_len, List.length_drop]; omega) (Nat.lt_succ_self _) (hms _ fun z hz => List.mem_of_mem_drop (List.mem_of_mem_take hz)) (hms _ fun z hz => List.mem_of_mem_drop (List.mem_of_mem_drop hz)) (stS_srt HC.out.ord _) (stS_srt HC.out.ord _) (by simp only [stS_len, List.length_take, List.length_drop, List.length_nil]; omega) a m1 n hx.symm (by rw [stS_len, List.length_take]; omega) (by simp only [stS_len, List.length_take, List.length_drop]; omega) u2 (by simpa using h2)
         rw [e2, List.append_nil, hE] at h3
         exact h3)
        clear hx hll hd hsd hm1 hdl hms e1 e2 hb han hbn hE hmn
        go_wp2_with ((with_reducible refine HME.out.mono ?_); rintro e w5 ⟨rfl, h5⟩)
        go_roundw
        case rel => exact HN.out _ h5
        case measure => have := HMS.out; simp [intOf]; omega
       ·have hmi : ¬ (m1 : Int) < (n : Int) := by omega
        have HF := HN.out u2 (by
         have h2 := HI.out
         rw [chk_small (l := l.drop a) (by omega), hE] at h2
         exact h2)
        have HF' := Lib.hid HF
        clear HF hx hll hd hsd hm1 hdl hms hb han hbn hE hmn
        go_wp2
        go_roundw
        case rel => exact HF'.out
        case measure => have := HMS.out; simp [intOf]; omega
    ·have hsi : ¬ (s : Int) < (n : Int) := by omega
     have HF : Hid (SrSt y G rest (stS (sle ci) l) u) := Lib.hid (by
      have h := HI.out
      rw [chk_small (by have := HL.out; omega)] at h
      exact h)
     clear hs20 hsm hsn HI
     go_wp2
     go_end0
     exact ⟨rfl, HF.out⟩
set_option maxHeartbeats 2000000 in
theorem sortStable_any (y : World) (G : Nat) (rest : List Value) (n c : Nat) (hn : n ≤ 1000000) (kf : Nat) (cap : Array Value) (ci : SR → SR → Int) (S : SR → Prop) (hC : CmpC y G kf cap ci S) (l : List SR) (hS : ∀ z ∈ l, S z) (hl : l.length = n) (w : World) (h : SrSt y G rest l w) :
  Calls Tryz.prog 91 #[.slice (some ⟨G, 0, none⟩) n c, .func (.func kf) #[] cap] w fun e w' => e = .returned (.tuple #[]) ∧ SrSt y G rest (stS (sle ci) l) w' := by
 have HST := Lib.hid (stable_any y G rest n c hn kf cap ci S hC l hS hl w h)
 clear h hS hC hl
 go_enter Tryz.func91, Tryz.ntmps91
 go_wp2_with ((with_reducible refine HST.out.mono ?_); rintro e w5 ⟨rfl, h5⟩)
 go_end0
 exact ⟨rfl, h5⟩
end Go.Proofs.YtpfkjejknlkkoaaGreatDoor
namespace Go.Proofs.YtpfkjejknlkkoaaGreatDoor
open Go.RowKit
attribute [local go_sem] bs_size bs_extract bs_append bs_toList
theorem less_any (a b : Vl) (w : World) :
  Calls Tryz.prog 12 #[vAgg a, vAgg b] w fun e w' => e = .returned (.bool (lessB a b)) ∧ Keeps [] w w' := by
 obtain ⟨k, n, s⟩ := a
 obtain ⟨k2, n2, s2⟩ := b
 show Calls _ _ #[.agg #[.int .i64 k, .int .i64 n, .string (bs s)], .agg #[.int .i64 k2, .int .i64 n2, .string (bs s2)]] w _
 obtain ⟨R, hR⟩ : ∃ R, lessB ⟨k, n, s⟩ ⟨k2, n2, s2⟩ = R := ⟨_, rfl⟩
 rw [hR]
 by_cases h1 : k = k2
 ·subst h1
  have hb1 : (k != k) = false := by simp
  by_cases h2 : k = 1
  ·have hb2 : (k == 1) = true := by rw [h2]; rfl
   have HR : Hid (R = decide (n < n2)) := Lib.hid (hR.symm.trans ((if_pos rfl).trans (if_pos h2)))
   clear h2 hR
   go_enter Tryz.func12, Tryz.ntmps12
   go_wp2
   go_ret
   exact ⟨by rw [HR.out]; rfl, ((Keeps.refl _ _).alloc _).alloc _⟩
  ·have hb2 : (k == 1) = false := by rw [beq_eq_false_iff_ne]; exact h2
   have HR : Hid (R = Op.bytesLess s s2) := Lib.hid (hR.symm.trans ((if_pos rfl).trans (if_neg h2)))
   clear h2 hR
   go_enter Tryz.func12, Tryz.ntmps12
   go_wp2
   go_ret
   exact ⟨by rw [HR.out]; rfl, ((Keeps.refl _ _).alloc _).alloc _⟩
 ·have hb1 : (k != k2) = true := by rw [bne_iff_ne]; exact h1
  have HR : Hid (R = decide (k < k2)) := Lib.hid (hR.symm.trans (if_neg h1))
  clear h1 hR
  go_enter Tryz.func12, Tryz.ntmps12
  go_wp2
  go_ret
  exact ⟨by rw [HR.out]; rfl, ((Keeps.refl _ _).alloc _).alloc _⟩
end Go.Proofs.YtpfkjejknlkkoaaGreatDoor
namespace Go.Proofs.YtpfkjejknlkkoaaGreatDoor
open Go.RowKit Go.BigFrame
attribute [local go_sem] bs_size bs_extract bs_append bs_toList KW.cell
theorem cmpK_cons (k : Nat) (ks : List Nat) (x z : List Vl) : cmpK (k :: ks) x z = if lessB (x.getD k zV) (z.getD k zV) = true then -1 else if lessB (z.getD k zV) (x.getD k zV) = true then 1 else cmpK ks x z := rfl
def SrOk (y : World) (G : Nat) (m : Nat) (x : SR) : Prop := x.n = x.row.length ∧ x.row.length ≤ x.c ∧ x.row.length = m ∧ Rd y [G] 3 x.A x.row.length (vsCells x.row)
set_option maxHeartbeats 4000000 in
set_option maxRecDepth 40000 in
theorem sortCmp_any (y : World) (G : Nat) (j : Jb) (t : Tb) (bj bt : Nat) (A : Option Addr) (c : Nat) (vb : Value) (Ac : Option Addr) (cc : Nat) (cs : Array Value)
  (hBj : Blk y bj 36 cs) (hcs : cs[4]? = some (.slice Ac j.cols.length cc)) (hnj : bj ≠ G)
  (hBt : Blk y bt 25 #[.slice A t.cols.length c, vb]) (hnt : bt ≠ G)
  (hAc : Rd y [G] 1 Ac j.cols.length (strs j.cols)) (hA : Rd y [G] 2 A t.cols.length (csCells t.cols)) (hl : t.cols.length ≤ 4294967296) (hlc : j.cols.length ≤ 4294967296)
  (hix : ∀ n ∈ j.cols, ∃ k, colIx t.cols n = some k) (x z : SR) (hx : SrOk y G t.cols.length x) (hz : SrOk y G t.cols.length z) (W : World) (hW : Keeps [G] y W) :
  Calls Tryz.prog 92 #[x.v, z.v, .pointer (some ⟨bj, 0, none⟩), .pointer (some ⟨bt, 0, none⟩)] W fun e W' => e = .returned (.int .i64 (cmpK (j.cols.map (ixOf t.cols)) x.row z.row)) ∧ Keeps [] W W' := by
 obtain ⟨xA, xn, xc, xr⟩ := x
 obtain ⟨zA, zn, zc, zr⟩ := z
 obtain ⟨hx1, hx2, hx3, hx4⟩ := hx
 obtain ⟨hz1, hz2, hz3, hz4⟩ := hz
 simp only at hx1 hx2 hx3 hx4 hz1 hz2 hz3 hz4
 subst hx1 hz1
 have HJ := Lib.hid (hBj.keep hW (by simpa using hnj))
 have HT := Lib.hid (hBt.keep hW (by simpa using hnt))
 have hno : ∀ x ∈ ([] : List Nat), x < W.heap.size → x ∈ [G] := fun x h => by cases h
 have HAC := Lib.hid ((hAc.keep hW).move hno)
 have HA := Lib.hid ((hA.keep hW).move hno)
 have HX := Lib.hid ((hx4.keep hW).move hno)
 have HZ := Lib.hid ((hz4.keep hW).move hno)
 have HIX := Lib.hid hix
 have HCS := Lib.hid hcs
 obtain ⟨R, hR⟩ : ∃ R, cmpK (j.cols.map (ixOf t.cols)) xr zr = R := ⟨_, rfl⟩
 rw [hR]
 have HR := Lib.hid hR
 have HLX := Lib.hid hx3
 have HLZ := Lib.hid hz3
 clear hBj hBt hAc hA hx4 hz4 hix hcs hno hR hW hx3 hz3
 show Calls _ _ #[.slice xA xr.length xc, .slice zA zr.length zc, .pointer (some ⟨bj, 0, none⟩), .pointer (some ⟨bt, 0, none⟩)] W _
 have d4 : W.cell? ⟨bj, 4, none⟩ = some (.slice Ac j.cols.length cc) := (HJ.out.cell 4).trans HCS.out
 go_enter Tryz.func92, Tryz.ntmps92
 go_wp2_with fail
 clear d4
 go_loopw [13] (fun i wr => ∃ n : Nat, n ≤ j.cols.length ∧ i = .int .i64 n ∧ Hid (cmpK ((j.cols.drop n).map (ixOf t.cols)) xr zr = R) ∧ Keeps [] W wr) (fun i _ => j.cols.length - (intOf i).toNat)
 case atStart => exact ⟨0, Nat.zero_le _, rfl, by rw [List.drop_zero]; exact HR, Keeps.refl _ _⟩
 case round =>
  clear HR
  obtain ⟨n, hn, rfl, HC, hk⟩ := hrel
  have HK := Lib.hid hk
  clear hk
  by_cases hlt : n < j.cols.length
  ·obtain ⟨b, o, hAe, _, hb, hc⟩ := (HAC.out.keep HK.out).open' (by omega) (by omega)
   subst hAe
   have d1 := hc n _ (strs_at' j.cols n hlt)
   have hdr : j.cols.drop n = j.cols[n] :: j.cols.drop (n + 1) := List.drop_eq_getElem_cons hlt
   obtain ⟨k, hk⟩ := HIX.out j.cols[n] (List.getElem_mem hlt)
   have hC := HC.out
   rw [hdr, List.map_cons, cmpK_cons] at hC
   have hxk : ixOf t.cols j.cols[n] = k := by unfold ixOf; rw [hk]; rfl
   rw [hxk] at hC
   have hkl : k < t.cols.length := by
    have := List.findIdx?_eq_some_iff_getElem.1 hk
    exact this.1
   generalize j.cols[n] = nm at *
   have HF := Lib.hid (fun W' (q : Keeps [] wr W') => find_any t.cols nm A c W' (HA.out.keep (HK.out.trans q)) hl)
   rw [hk] at HF
   have HF' : Hid (∀ W', Keeps [] wr W' → Calls Tryz.prog 66 #[.slice A t.cols.length c, .string (bs nm)] W' fun e w' => e = .returned (.int .i64 (k : Int)) ∧ Keeps [] W' w') := HF
   have hkx : k < xr.length := by have := HLX.out; omega
   have hkz : k < zr.length := by have := HLZ.out; omega
   obtain ⟨bx, ox, hxe, _, hbx, hcx⟩ := (HX.out.keep HK.out).open' (by omega) (by omega)
   obtain ⟨bz, oz, hze, _, hbz, hcz⟩ := (HZ.out.keep HK.out).open' (by omega) (by omega)
   subst hxe hze
   have x1 := hcx (k * 3) _ (vsCells_at xr k hkx).1
   have x2 := hcx (k * 3 + 1) _ (vsCells_at xr k hkx).2.1
   have x3 := hcx (k * 3 + 2) _ (vsCells_at xr k hkx).2.2
   rw [← Nat.add_assoc] at x2 x3
   have z1 := hcz (k * 3) _ (vsCells_at zr k hkz).1
   have z2 := hcz (k * 3 + 1) _ (vsCells_at zr k hkz).2.1
   have z3 := hcz (k * 3 + 2) _ (vsCells_at zr k hkz).2.2
   rw [← Nat.add_assoc] at z2 z3
   have gx : xr.getD k zV = xr[k] := by rw [List.getD_eq_getElem?_getD, List.getElem?_eq_getElem hkx]; rfl
   have gz : zr.getD k zV = zr[k] := by rw [List.getD_eq_getElem?_getD, List.getElem?_eq_getElem hkz]; rfl
   rw [gx, gz] at hC
   generalize xr[k] = vx at *
   generalize zr[k] = vz at *
   obtain ⟨vxk, vxn, vxw⟩ := vx
   obtain ⟨vzk, vzn, vzw⟩ := vz
   have HL1 : Hid (∀ W', Keeps [] wr W' → Calls Tryz.prog 12 #[.agg #[.int .i64 vxk, .int .i64 vxn, .string (bs vxw)], .agg #[.int .i64 vzk, .int .i64 vzn, .string (bs vzw)]] W' fun e w' => e = .returned (.bool (lessB ⟨vxk, vxn, vxw⟩ ⟨vzk, vzn, vzw⟩)) ∧ Keeps [] W' w') := Lib.hid fun W' _ => less_any ⟨vxk, vxn, vxw⟩ ⟨vzk, vzn, vzw⟩ W'
   have HL2 : Hid (∀ W', Keeps [] wr W' → Calls Tryz.prog 12 #[.agg #[.int .i64 vzk, .int .i64 vzn, .string (bs vzw)], .agg #[.int .i64 vxk, .int .i64 vxn, .string (bs vxw)]] W' fun e w' => e = .returned (.bool (lessB ⟨vzk, vzn, vzw⟩ ⟨vxk, vxn, vxw⟩)) ∧ Keeps [] W' w') := Lib.hid fun W' _ => less_any ⟨vzk, vzn, vzw⟩ ⟨vxk, vxn, vxw⟩ W'
   have hzb : bt < wr.heap.size := (HT.out.keep HK.out (by simp)).lt
   have y0 : wr.cell? ⟨bt, 0, none⟩ = some (.slice A t.cols.length c) := (HT.out.keep HK.out (by simp)).cell 0
   have hi0 : (0 : Int) ≤ (n : Int) := by omega
   have hi2 : (n : Int) < (j.cols.length : Int) := by omega
   have hk0 : (0 : Int) ≤ (k : Int) := by omega
   have hkx' : (k : Int) < (xr.length : Int) := by omega
   have hkz' : (k : Int) < (zr.length : Int) := by omega
   clear hcx hcz hc hdr HF gx gz hxk hk HC
   generalize lessB ⟨vxk, vxn, vxw⟩ ⟨vzk, vzn, vzw⟩ = b1 at *
   generalize lessB ⟨vzk, vzn, vzw⟩ ⟨vxk, vxn, vxw⟩ = b2 at *
   go_wp2_with fail
   refine (HF'.out wr (Keeps.refl _ _)).mono ?_
   rintro e w3 ⟨rfl, hk3⟩
   have x1 := hk3.cell_of x1 (by simp)
   have x2 := hk3.cell_of x2 (by simp)
   have x3 := hk3.cell_of x3 (by simp)
   have z1 := hk3.cell_of z1 (by simp)
   have z2 := hk3.cell_of z2 (by simp)
   have z3 := hk3.cell_of z3 (by simp)
   have hbx3 : bx < w3.heap.size := Nat.lt_of_lt_of_le hbx hk3.size
   have hbz3 : bz < w3.heap.size := Nat.lt_of_lt_of_le hbz hk3.size
   have HK3 := Lib.hid hk3
   have HL1' := Lib.hid (fun W' (q : Keeps [] w3 W') => HL1.out W' (HK3.out.trans q))
   clear hk3 HL1 d1
   cases b1 with
   | true =>
    have HC' : Hid (R = -1) := Lib.hid (by rw [if_pos rfl] at hC; exact hC.symm)
    clear hC
    go_wp2_with fail
    refine wp_region_keeps (by kernel_rfl) (by kernel_rfl) ?_
    repeat (go_big_quiet_step (first | with_reducible exact KW.of HL1'.out _))
    refine wpQuiet_nil ?_
    intro w5 hk5
    go_wp2
    go_ret
    exact ⟨by rw [HC'.out]; rfl, (HK.out.trans HK3.out).trans hk5⟩
   | false =>
    rw [if_neg (by decide)] at hC
    go_wp2_with fail
    refine wp_region_keeps (by kernel_rfl) (by kernel_rfl) ?_
    repeat (go_big_quiet_step (first | with_reducible exact KW.of HL1'.out _))
    refine wpQuiet_nil ?_
    intro w5 hk5
    have x1 := hk5.cell_of x1 (by simp)
    have x2 := hk5.cell_of x2 (by simp)
    have x3 := hk5.cell_of x3 (by simp)
    have z1 := hk5.cell_of z1 (by simp)
    have z2 := hk5.cell_of z2 (by simp)
    have z3 := hk5.cell_of z3 (by simp)
    have hbx5 : bx < w5.heap.size := Nat.lt_of_lt_of_le hbx3 hk5.size
    have hbz5 : bz < w5.heap.size := Nat.lt_of_lt_of_le hbz3 hk5.size
    have HK5 := Lib.hid (HK3.out.trans hk5)
    have HL2' := Lib.hid (fun W' (q : Keeps [] w5 W') => HL2.out W' (HK5.out.trans q))
    clear hk5 HL1' HL2
    cases b2 with
    | true =>
     have HC' : Hid (R = 1) := Lib.hid (by rw [if_pos rfl] at hC; exact hC.symm)
     clear hC
     go_wp2_with fail
     refine wp_region_keeps (by kernel_rfl) (by kernel_rfl) ?_
     repeat (go_big_quiet_step (first | with_reducible exact KW.of HL2'.out _))
     refine wpQuiet_nil ?_
     intro w6 hk6
     go_wp2
     go_ret
     exact ⟨by rw [HC'.out]; rfl, (HK.out.trans HK5.out).trans hk6⟩
    | false =>
     have HC' : Hid (cmpK ((j.cols.drop (n + 1)).map (ixOf t.cols)) xr zr = R) := Lib.hid (by rw [if_neg (by decide)] at hC; exact hC)
     clear hC
     go_wp2_with fail
     refine wp_region_keeps (by kernel_rfl) (by kernel_rfl) ?_
     repeat (go_big_quiet_step (first | with_reducible exact KW.of HL2'.out _))
     refine wpQuiet_nil ?_
     intro w6 hk6
     have HK6 := Lib.hid ((HK.out.trans HK5.out).trans hk6)
     clear hk6
     go_wp2
     go_roundw
     case rel => exact ⟨n + 1, by omega, by go_num, HC', HK6.out⟩
     case measure => simp [intOf]; omega
  ·have HC' : Hid (R = 0) := Lib.hid (by
    have h := HC.out
    rw [List.drop_eq_nil_of_le (by omega)] at h
    exact h.symm)
   go_wp2
   go_ret
   exact ⟨by rw [HC'.out]; rfl, HK.out⟩
end Go.Proofs.YtpfkjejknlkkoaaGreatDoor
