/- slices.symMergeCmpFunc at rows: one ahead. slices.symMergeCmpFunc at rows: one behind. slices.rotateCmpFunc at rows. -/
import Derived.Test.YtpfkjejknlkkoaaGreatDoorOsoM19
set_option linter.unusedSimpArgs false
set_option linter.unusedVariables false
namespace Go.Proofs.YtpfkjejknlkkoaaGreatDoor
open Go.RowKit Go.BigFrame
attribute [local go_sem] bs_size bs_extract bs_append bs_toList KW.cell
theorem seg_at {α : Type} (P A Q : List α) {i k : Nat} (hi : i = P.length + k) (hk : k < A.length) : (P ++ (A ++ Q))[i]? = some A[k] := by
 subst hi
 rw [List.getElem?_append_right (by omega), Nat.add_sub_cancel_left, List.getElem?_append_left hk, List.getElem?_eq_getElem hk]
theorem SrSt.get {y : World} {G : Nat} {rest : List Value} {l : List SR} {x : SR} {w : World} (h : SrSt y G rest l w) {i : Nat} (hi : l[i]? = some x) : w.cell? ⟨G, i, none⟩ = some (.slice x.A x.n x.c) := by
 refine (h.b.cell i).trans ?_
 have hl := (List.getElem?_eq_some_iff.1 hi).1
 unfold srCells
 rw [List.getElem?_toArray, List.getElem?_append_left (by rw [List.length_map]; exact hl), List.getElem?_map, hi]
 rfl
theorem half_val (i j h : Nat) (hl : i + j ≤ 4000000) (hh : (i + j) / 2 = h) : wrap64 (IntKind.u64.wrap ((i : Int) + (j : Int)) / 2) = (h : Int) := by
 have e1 : IntKind.u64.wrap ((i : Int) + (j : Int)) = (i : Int) + (j : Int) := by
  rw [IntKind.wrap_u64]
  omega
 have e2 : ((i : Int) + (j : Int)) / 2 = (h : Int) := by omega
 rw [e1, e2]
 unfold wrap64
 omega
set_option maxRecDepth 100000 in
set_option maxHeartbeats 16000000 in
theorem symOne_any (y : World) (G : Nat) (rest : List Value) (n c : Nat) (hn : n ≤ 1000000) (kf : Nat) (cap : Array Value) (ci : SR → SR → Int) (S : SR → Prop) (hC : CmpC y G kf cap ci S) (P : List SR) (x : SR) (B Q : List SR) (hSx : S x) (hS : ∀ z ∈ B, S z) (hB : 0 < B.length) (hsB : Srt (sle ci) B) (hlen : P.length + 1 + B.length + Q.length = n) (a m b : Nat) (ha : a = P.length) (hm : m = P.length + 1) (hb : b = P.length + 1 + B.length) (w : World) (h : SrSt y G rest (P ++ (x :: (B ++ Q))) w) :
  Calls Tryz.prog 140 #[.slice (some ⟨G, 0, none⟩) n c, .int .i64 (a : Int), .int .i64 (m : Int), .int .i64 (b : Int), .func (.func kf) #[] cap] w fun e w' => e = .returned (.tuple #[]) ∧ SrSt y G rest (P ++ (mg (sle ci) [x] B ++ Q)) w' := by
 have HS := Lib.hid h
 have HSS := Lib.hid hS
 have HSX := Lib.hid hSx
 have HSB := Lib.hid hsB
 have HC := Lib.hid hC
 have he := hC.he
 have hw1 : IntKind.i64.wrap ((m : Int) - (a : Int)) = 1 := by simp [IntKind.wrap, IntKind.bits, IntKind.signed]; omega
 have hst : a = P.length ∧ m = P.length + 1 ∧ b = P.length + 1 + B.length ∧ P.length + 1 + B.length + Q.length = n ∧ 0 < B.length := ⟨ha, hm, hb, hlen, hB⟩
 have HST := Lib.hid hst
 clear h hS hC hst ha hb hlen hm hB hSx hsB
 go_enter Tryz.func140, Tryz.ntmps140
 go_wp2_with fail
 clear hw1
 go_loopw [10, 11] (fun vi vj wr => ∃ i j : Nat, vi = .int .i64 (i : Int) ∧ vj = .int .i64 (j : Int) ∧ m ≤ i ∧ i ≤ j ∧ j ≤ b ∧ Hid (∀ k, i = m + k + 1 → ∀ hk : k < B.length, sle ci x B[k] = false) ∧ Hid (∀ k, j = m + k → ∀ hk : k < B.length, sle ci x B[k] = true) ∧ Hid (SrSt y G rest (P ++ (x :: (B ++ Q))) wr)) (fun vi vj _ => (intOf vj).toNat - (intOf vi).toNat)
 case atStart =>
  have hst := HST.out
  exact ⟨m, b, rfl, rfl, by omega, by omega, by omega, Lib.hid (fun k hk => absurd hk (by omega)), Lib.hid (fun k hk hk' => absurd hk (by omega)), HS⟩
 case round =>
  clear HS
  obtain ⟨i, j, rfl, rfl, hmi, hij, hjb, HL, HR, HI⟩ := hrel
  have hst := HST.out
  by_cases hlt : i < j
  ·have hlti : (i : Int) < (j : Int) := by omega
   obtain ⟨h, hh⟩ : ∃ h : Nat, (i + j) / 2 = h := ⟨_, rfl⟩
   have hwa : IntKind.i64.wrap ((i : Int) + (j : Int)) = ((i + j : Nat) : Int) := by simp [IntKind.wrap, IntKind.bits, IntKind.signed]; omega
   have HMID := Lib.hid (half_val i j h (by omega) hh)
   obtain ⟨k, hk⟩ : ∃ k, h - m = k := ⟨_, rfl⟩
   have hkB : k < B.length := by omega
   obtain ⟨z, hz⟩ : ∃ z, B[k] = z := ⟨_, rfl⟩
   have x1 : wr.cell? ⟨G, h, none⟩ = some (.slice z.A z.n z.c) := by
    have h1 := HI.out
    rw [show P ++ (x :: (B ++ Q)) = (P ++ [x]) ++ (B ++ Q) by simp] at h1
    refine h1.get ?_
    rw [seg_at (P ++ [x]) B Q (k := k) (by simp; omega) hkB, hz]
   have x2 : wr.cell? ⟨G, a, none⟩ = some (.slice x.A x.n x.c) := HI.out.at hst.1
   have lG : G < wr.heap.size := HI.out.b.lt
   have hhn : (h : Int) < (n : Int) := by omega
   have han : (a : Int) < (n : Int) := by omega
   have hwh : IntKind.i64.wrap ((h : Int) + 1) = ((h + 1 : Nat) : Int) := by simp [IntKind.wrap, IntKind.bits, IntKind.signed]; omega
   obtain ⟨r, hr⟩ : ∃ r, ci z x = r := ⟨_, rfl⟩
   have HCC : Hid (∀ W, Keeps [] wr W → Calls Tryz.prog kf (#[.slice z.A z.n z.c, .slice x.A x.n x.c] ++ cap) W fun e W' => e = .returned (.int .i64 r) ∧ Keeps [] W W') := Lib.hid (fun W kk => by
    rw [← hr]
    exact HC.out.c z x (HSS.out z (by rw [← hz]; exact List.getElem_mem hkB)) HSX.out W (HI.out.k.trans kk.of_nil))
   have hih : i ≤ h := by omega
   have hhj : h < j := by omega
   have HKK : Hid (∀ k', h = m + k' → k' = k) := Lib.hid (fun k' e => by omega)
   have HZ := Lib.hid hz
   have HR0 := Lib.hid hr
   by_cases hr0 : r < 0
   ·have HREL : Hid (∀ wx, Keeps [] wr wx → ∃ i2 j2 : Nat, (.int .i64 ((h + 1 : Nat) : Int) : Value) = .int .i64 (i2 : Int) ∧ (.int .i64 (j : Int) : Value) = .int .i64 (j2 : Int) ∧ m ≤ i2 ∧ i2 ≤ j2 ∧ j2 ≤ b ∧ Hid (∀ k, i2 = m + k + 1 → ∀ hk : k < B.length, sle ci x B[k] = false) ∧ Hid (∀ k, j2 = m + k → ∀ hk : k < B.length, sle ci x B[k] = true) ∧ Hid (SrSt y G rest (P ++ (x :: (B ++ Q))) wx)) := Lib.hid (fun wx kx => by
     refine ⟨h + 1, j, rfl, rfl, by omega, by omega, hjb, Lib.hid (fun k' e hk' => ?_), HR, Lib.hid (HI.out.keep kx)⟩
     obtain rfl := HKK.out k' (by omega)
     rw [HZ.out]
     exact sle_no (by rw [HR0.out]; exact hr0))
    have HMS : Hid (j - (h + 1) < j - i) := Lib.hid (by omega)
    clear HZ HR0 HKK hst hh hk hkB hz hr hih hhj hmi hij hjb
    go_upto_region 5 with (fail)
    rw [HMID.out]
    clear hwa
    refine wp_region_keeps (by kernel_rfl) (by kernel_rfl) ?_
    repeat (go_big_quiet_step (with_reducible exact KW.of HCC.out _))
    refine wpQuiet_nil ?_
    intro wx kx
    have HN := Lib.hid (HREL.out wx kx)
    clear x1 x2 lG kx
    go_wp2
    go_roundw
    case rel => exact HN.out
    case measure => simpa [intOf] using HMS.out
   ·have HREL : Hid (∀ wx, Keeps [] wr wx → ∃ i2 j2 : Nat, (.int .i64 (i : Int) : Value) = .int .i64 (i2 : Int) ∧ (.int .i64 (h : Int) : Value) = .int .i64 (j2 : Int) ∧ m ≤ i2 ∧ i2 ≤ j2 ∧ j2 ≤ b ∧ Hid (∀ k, i2 = m + k + 1 → ∀ hk : k < B.length, sle ci x B[k] = false) ∧ Hid (∀ k, j2 = m + k → ∀ hk : k < B.length, sle ci x B[k] = true) ∧ Hid (SrSt y G rest (P ++ (x :: (B ++ Q))) wx)) := Lib.hid (fun wx kx => by
     refine ⟨i, h, rfl, rfl, hmi, hih, by omega, HL, Lib.hid (fun k' e hk' => ?_), Lib.hid (HI.out.keep kx)⟩
     obtain rfl := HKK.out k' e
     rw [HZ.out]
     exact sle_yes (by rw [HR0.out]; exact hr0))
    have HMS : Hid (h - i < j - i) := Lib.hid (by omega)
    clear HZ HR0 HKK hst hh hk hkB hz hr hih hhj hmi hij hjb
    go_upto_region 5 with (fail)
    rw [HMID.out]
    clear hwa
    refine wp_region_keeps (by kernel_rfl) (by kernel_rfl) ?_
    repeat (go_big_quiet_step (with_reducible exact KW.of HCC.out _))
    refine wpQuiet_nil ?_
    intro wx kx
    have HN := Lib.hid (HREL.out wx kx)
    clear x1 x2 lG kx
    go_wp2
    go_roundw
    case rel => exact HN.out
    case measure => simpa [intOf] using HMS.out
  ·have hji : ¬ (i : Int) < (j : Int) := by omega
   obtain rfl : i = j := by omega
   obtain ⟨t, ht⟩ : ∃ t, i - m = t := ⟨_, rfl⟩
   obtain ⟨B1, hB1⟩ : ∃ L, B.take t = L := ⟨_, rfl⟩
   obtain ⟨B2, hB2⟩ : ∃ L, B.drop t = L := ⟨_, rfl⟩
   have hBB : B1 ++ B2 = B := by rw [← hB1, ← hB2, List.take_append_drop]
   have hl1 : B1.length = t := by rw [← hB1, List.length_take]; omega
   have h1 : ∀ z ∈ B1, sle ci x z = false := fun z hz => by
    rw [← hB1] at hz
    obtain ⟨q, hq, rfl⟩ := List.getElem_of_mem hz
    rw [List.length_take] at hq
    rw [List.getElem_take]
    have h2 := HL.out (t - 1) (by omega) (by omega)
    cases hx : sle ci x (B[q]'(by omega)) with
    | false => rfl
    | true =>
     have h3 : sle ci x (B[t - 1]'(by omega)) = true := by
      rcases Nat.lt_or_ge q (t - 1) with hlt2 | hge
      ·exact HC.out.ord.trans _ _ _ hx (List.pairwise_iff_getElem.1 HSB.out q (t - 1) (by omega) (by omega) hlt2)
      ·obtain rfl : q = t - 1 := by omega
       exact hx
     rw [h2] at h3; cases h3
   have h2 : ∀ z ∈ B2, sle ci x z = true := fun z hz => by
    rw [← hB2] at hz
    obtain ⟨q, hq, rfl⟩ := List.getElem_of_mem hz
    rw [List.length_drop] at hq
    rw [List.getElem_drop]
    have h3 := HR.out t (by omega) (by omega)
    rcases Nat.eq_zero_or_pos q with rfl | hpos
    ·exact h3
    ·exact HC.out.ord.trans _ _ _ h3 (List.pairwise_iff_getElem.1 HSB.out t (t + q) (by omega) (by omega) (by omega))
   have hmg : mg (sle ci) [x] B = B1 ++ x :: B2 := by rw [← hBB]; exact one_mg h1 h2
   have HMG := Lib.hid hmg
   have HI2 : Hid (SrSt y G rest (P ++ (B1.take 0 ++ (x :: (B1.drop 0 ++ (B2 ++ Q))))) wr) := Lib.hid (by
    have h := HI.out
    rw [← hBB] at h
    simpa using h)
   obtain ⟨i1, hi1⟩ : ∃ i1, a + t = i1 := ⟨_, rfl⟩
   have hwi : IntKind.i64.wrap ((i : Int) - 1) = (i1 : Int) := by simp [IntKind.wrap, IntKind.bits, IntKind.signed]; omega
   have HX : Hid (a = P.length ∧ i1 = a + B1.length ∧ a + 1 + B1.length ≤ n) := Lib.hid ⟨hst.1, by omega, by omega⟩
   clear hst ht hB1 hB2 hBB hl1 h1 h2 hmg hi1 hmi hij hjb HI HL HR
   go_wp2_with fail
   go_loopw [13] (fun v wx => ∃ k t : Nat, v = .int .i64 (k : Int) ∧ k = a + t ∧ t ≤ B1.length ∧ Hid (SrSt y G rest (P ++ (B1.take t ++ (x :: (B1.drop t ++ (B2 ++ Q))))) wx)) (fun v _ => i1 - (intOf v).toNat)
   case atStart => exact ⟨a, 0, rfl, rfl, Nat.zero_le _, HI2⟩
   case round =>
    clear HI2
    obtain ⟨p, t, rfl, hpt, htl, HI⟩ := hrel
    obtain ⟨u, rfl⟩ : ∃ u : World, u = wr := ⟨_, rfl⟩
    have hx := HX.out
    by_cases hlt2 : p < i1
    ·have hlti : (p : Int) < (i1 : Int) := by omega
     have htB : t < B1.length := by omega
     obtain ⟨z, hz⟩ : ∃ z, B1[t] = z := ⟨_, rfl⟩
     obtain ⟨q, hq⟩ : ∃ q, p + 1 = q := ⟨_, rfl⟩
     have hpn : (p : Int) < (n : Int) := by omega
     have hqn : (q : Int) < (n : Int) := by omega
     have hwq : IntKind.i64.wrap ((p : Int) + 1) = (q : Int) := by simp [IntKind.wrap, IntKind.bits, IntKind.signed]; omega
     have eX : P ++ (B1.take t ++ (x :: (B1.drop t ++ (B2 ++ Q)))) = (P ++ B1.take t) ++ x :: ([] ++ z :: (B1.drop (t + 1) ++ (B2 ++ Q))) := by
      rw [sdrop_at htB, hz]
      simp
     have eY : P ++ (B1.take (t + 1) ++ (x :: (B1.drop (t + 1) ++ (B2 ++ Q)))) = (P ++ B1.take t) ++ z :: ([] ++ x :: (B1.drop (t + 1) ++ (B2 ++ Q))) := by
      rw [take_at htB, hz]
      simp
     have hXl : p = (P ++ B1.take t).length := by rw [List.length_append, List.length_take]; omega
     rw [eX] at HI
     obtain ⟨X, hX⟩ : ∃ X, P ++ B1.take t = X := ⟨_, rfl⟩
     obtain ⟨Z, hZ⟩ : ∃ Z, B1.drop (t + 1) ++ (B2 ++ Q) = Z := ⟨_, rfl⟩
     rw [hX, hZ] at HI
     rw [hX] at hXl
     have hYl : q = X.length + 1 + ([] : List SR).length := by rw [← hXl]; exact hq.symm
     have HN0 : Hid (∀ wx, SrSt y G rest (X ++ z :: ([] ++ x :: Z)) wx → ∃ k t : Nat, (.int .i64 (q : Int) : Value) = .int .i64 (k : Int) ∧ k = a + t ∧ t ≤ B1.length ∧ Hid (SrSt y G rest (P ++ (B1.take t ++ (x :: (B1.drop t ++ (B2 ++ Q))))) wx)) := Lib.hid (fun wx h => ⟨q, t + 1, rfl, by omega, by omega, Lib.hid (by rw [eY, hX, hZ]; exact h)⟩)
     have HB := Lib.hid HI.out.b
     have HC1 : Hid ((srCells (X ++ x :: ([] ++ z :: Z)) rest)[p]? = some (.slice x.A x.n x.c)) := Lib.hid (sr_at X _ x rest hXl)
     have HC2 : Hid ((srCells (X ++ x :: ([] ++ z :: Z)) rest)[q]? = some (.slice z.A z.n z.c)) := Lib.hid (sr_snd X [] Z x z rest hYl)
     have HPQ : Hid (p ≠ q) := Lib.hid (by omega)
     have HSW := Lib.hid (sr_swap X [] Z x z rest hXl hYl)
     have HMS : Hid (i1 - q < i1 - p) := Lib.hid (by omega)
     clear eX eY hX hZ hXl hYl hz hq htB htl hpt hx hlt2
     go_upto_block 3 with (fail)
     go_cut [] (fun wy => Hid (SrSt y G rest (X ++ z :: ([] ++ x :: Z)) wy))
     case first =>
      rename_i J1 K1 hJ1 hK1
      go_upto_region 11 with (fail)
      refine wp_region_fit' (by kernel_rfl) (by kernel_rfl) (by kernel_rfl) (fun (_ : Unit) ix => ([.slice (some ⟨G, 0, none⟩) n c, .int .i64 (p : Int), .slice (some ⟨G, 0, none⟩) n c, .int .i64 (p : Int), .int .i64 (q : Int), .slice (some ⟨G, 0, none⟩) n c, .int .i64 (p : Int), .int .i64 (q : Int), .pointer (some ⟨G, q, none⟩), .slice z.A z.n z.c, .slice (some ⟨G, 0, none⟩) n c, .int .i64 (p : Int), .pointer (some ⟨G, p, none⟩), .slice x.A x.n x.c, .pointer (some ⟨G, p, none⟩), undef, .pointer (some ⟨G, q, none⟩), undef] : List Value).getD ix undef) (fun (_ : Unit) L w' => SwW u G 41 (srCells (X ++ x :: ([] ++ z :: Z)) rest) p q (.slice z.A z.n z.c) (.slice x.A x.n x.c) 9 13 15 17 L w') ⟨(), SwW.start HB.out⟩ ?_ ?_
      ·show AllC _ 18
       refine ⟨⟨⟨⟨⟨⟨⟨⟨⟨⟨⟨⟨⟨⟨⟨⟨⟨⟨trivial, ?_⟩, ?_⟩, ?_⟩, ?_⟩, ?_⟩, ?_⟩, ?_⟩, ?_⟩, ?_⟩, ?_⟩, ?_⟩, ?_⟩, ?_⟩, ?_⟩, ?_⟩, ?_⟩, ?_⟩, ?_⟩
       ·intro hb g L a1 w1 hL hD hF hW
        have e0 : a1.tmps.getD 0 undef = .slice (some ⟨G, 0, none⟩) n c := hF.old 0 (by kernel_rfl)
        have hN := hW.far (k := 0) (by decide) (by decide)
        refine fit_val (g := g) rfl hb rfl hF (by exact hN) ?_
        show (execOp _ _).run _ _ = Result.ok (.value (.slice (some ⟨G, 0, none⟩) n c)) _
        clear hN hF hD hb hW
        simp only [execOp, Act.eval, e0]
        go_simp
       ·intro hb g L a1 w1 hL hD hF hW
        have e13 : a1.tmps.getD 13 undef = .int .i64 (p : Int) := hF.old 13 (by kernel_rfl)
        have hN := hW.far (k := 1) (by decide) (by decide)
        refine fit_val (g := g) rfl hb rfl hF (by exact hN) ?_
        show (execOp _ _).run _ _ = Result.ok (.value (.int .i64 (p : Int))) _
        clear hN hF hD hb hW
        simp only [execOp, Act.eval, e13]
        go_simp
       ·intro hb g L a1 w1 hL hD hF hW
        have e0 : a1.tmps.getD 0 undef = .slice (some ⟨G, 0, none⟩) n c := hF.old 0 (by kernel_rfl)
        have hN := hW.far (k := 2) (by decide) (by decide)
        refine fit_val (g := g) rfl hb rfl hF (by exact hN) ?_
        show (execOp _ _).run _ _ = Result.ok (.value (.slice (some ⟨G, 0, none⟩) n c)) _
        clear hN hF hD hb hW
        simp only [execOp, Act.eval, e0]
        go_simp
       ·intro hb g L a1 w1 hL hD hF hW
        have e13 : a1.tmps.getD 13 undef = .int .i64 (p : Int) := hF.old 13 (by kernel_rfl)
        have hN := hW.far (k := 3) (by decide) (by decide)
        refine fit_val (g := g) rfl hb rfl hF (by exact hN) ?_
        show (execOp _ _).run _ _ = Result.ok (.value (.int .i64 (p : Int))) _
        clear hN hF hD hb hW
        simp only [execOp, Act.eval, e13]
        go_simp
       ·intro hb g L a1 w1 hL hD hF hW
        have e64 : a1.tmps.getD 64 undef = .int .i64 (p : Int) := hF.y 3 _ 64 rfl rfl (hD 3 (by kernel_rfl))
        have hN := hW.far (k := 4) (by decide) (by decide)
        refine fit_val (g := g) rfl hb rfl hF (by exact hN) ?_
        show (execOp _ _).run _ _ = Result.ok (.value (.int .i64 (q : Int))) _
        clear hN hF hD hb hW
        simp only [execOp, Act.eval, e64]
        go_simp
       ·intro hb g L a1 w1 hL hD hF hW
        have e0 : a1.tmps.getD 0 undef = .slice (some ⟨G, 0, none⟩) n c := hF.old 0 (by kernel_rfl)
        have hN := hW.far (k := 5) (by decide) (by decide)
        refine fit_val (g := g) rfl hb rfl hF (by exact hN) ?_
        show (execOp _ _).run _ _ = Result.ok (.value (.slice (some ⟨G, 0, none⟩) n c)) _
        clear hN hF hD hb hW
        simp only [execOp, Act.eval, e0]
        go_simp
       ·intro hb g L a1 w1 hL hD hF hW
        have e13 : a1.tmps.getD 13 undef = .int .i64 (p : Int) := hF.old 13 (by kernel_rfl)
        have hN := hW.far (k := 6) (by decide) (by decide)
        refine fit_val (g := g) rfl hb rfl hF (by exact hN) ?_
        show (execOp _ _).run _ _ = Result.ok (.value (.int .i64 (p : Int))) _
        clear hN hF hD hb hW
        simp only [execOp, Act.eval, e13]
        go_simp
       ·intro hb g L a1 w1 hL hD hF hW
        have e67 : a1.tmps.getD 67 undef = .int .i64 (p : Int) := hF.y 6 _ 67 rfl rfl (hD 6 (by kernel_rfl))
        have hN := hW.far (k := 7) (by decide) (by decide)
        refine fit_val (g := g) rfl hb rfl hF (by exact hN) ?_
        show (execOp _ _).run _ _ = Result.ok (.value (.int .i64 (q : Int))) _
        clear hN hF hD hb hW
        simp only [execOp, Act.eval, e67]
        go_simp
       ·intro hb g L a1 w1 hL hD hF hW
        have e66 : a1.tmps.getD 66 undef = .slice (some ⟨G, 0, none⟩) n c := hF.y 5 _ 66 rfl rfl (hD 5 (by kernel_rfl))
        have e68 : a1.tmps.getD 68 undef = .int .i64 (q : Int) := hF.y 7 _ 68 rfl rfl (hD 7 (by kernel_rfl))
        have hN := hW.far (k := 8) (by decide) (by decide)
        refine fit_val (g := g) rfl hb rfl hF (by exact hN) ?_
        show (execOp _ _).run _ _ = Result.ok (.value (.pointer (some ⟨G, q, none⟩))) _
        clear hN hF hD hb hW
        simp only [execOp, Act.eval, e66, e68]
        go_simp
       ·intro hb g L a1 w1 hL hD hF hW
        have e69 : a1.tmps.getD 69 undef = .pointer (some ⟨G, q, none⟩) := hF.y 8 _ 69 rfl rfl (hD 8 (by kernel_rfl))
        have hN := hW.far (k := 9) (by decide) (by decide)
        obtain ⟨kk, bb⟩ := hW.ld1 hL
        have x1 : w1.cell? ⟨G, q, none⟩ = some (.slice z.A z.n z.c) := (bb.cell _).trans HC2.out
        clear kk bb
        refine fit_val (g := g) rfl hb rfl hF (by exact hN) ?_
        show (execOp _ _).run _ _ = Result.ok (.value (.slice z.A z.n z.c)) _
        clear hN hF hD hb hW
        simp only [execOp, Act.eval, e69]
        go_simp
       ·intro hb g L a1 w1 hL hD hF hW
        have e0 : a1.tmps.getD 0 undef = .slice (some ⟨G, 0, none⟩) n c := hF.old 0 (by kernel_rfl)
        have hN := hW.far (k := 10) (by decide) (by decide)
        refine fit_val (g := g) rfl hb rfl hF (by exact hN) ?_
        show (execOp _ _).run _ _ = Result.ok (.value (.slice (some ⟨G, 0, none⟩) n c)) _
        clear hN hF hD hb hW
        simp only [execOp, Act.eval, e0]
        go_simp
       ·intro hb g L a1 w1 hL hD hF hW
        have e13 : a1.tmps.getD 13 undef = .int .i64 (p : Int) := hF.old 13 (by kernel_rfl)
        have hN := hW.far (k := 11) (by decide) (by decide)
        refine fit_val (g := g) rfl hb rfl hF (by exact hN) ?_
        show (execOp _ _).run _ _ = Result.ok (.value (.int .i64 (p : Int))) _
        clear hN hF hD hb hW
        simp only [execOp, Act.eval, e13]
        go_simp
       ·intro hb g L a1 w1 hL hD hF hW
        have e71 : a1.tmps.getD 71 undef = .slice (some ⟨G, 0, none⟩) n c := hF.y 10 _ 71 rfl rfl (hD 10 (by kernel_rfl))
        have e72 : a1.tmps.getD 72 undef = .int .i64 (p : Int) := hF.y 11 _ 72 rfl rfl (hD 11 (by kernel_rfl))
        have hN := hW.far (k := 12) (by decide) (by decide)
        refine fit_val (g := g) rfl hb rfl hF (by exact hN) ?_
        show (execOp _ _).run _ _ = Result.ok (.value (.pointer (some ⟨G, p, none⟩))) _
        clear hN hF hD hb hW
        simp only [execOp, Act.eval, e71, e72]
        go_simp
       ·intro hb g L a1 w1 hL hD hF hW
        have e73 : a1.tmps.getD 73 undef = .pointer (some ⟨G, p, none⟩) := hF.y 12 _ 73 rfl rfl (hD 12 (by kernel_rfl))
        have hN := hW.far (k := 13) (by decide) (by decide)
        obtain ⟨kk, bb⟩ := hW.ld2 hL
        have x1 : w1.cell? ⟨G, p, none⟩ = some (.slice x.A x.n x.c) := (bb.cell _).trans HC1.out
        clear kk bb
        refine fit_val (g := g) rfl hb rfl hF (by exact hN) ?_
        show (execOp _ _).run _ _ = Result.ok (.value (.slice x.A x.n x.c)) _
        clear hN hF hD hb hW
        simp only [execOp, Act.eval, e73]
        go_simp
       ·intro hb g L a1 w1 hL hD hF hW
        have e61 : a1.tmps.getD 61 undef = .slice (some ⟨G, 0, none⟩) n c := hF.y 0 _ 61 rfl rfl (hD 0 (by kernel_rfl))
        have e62 : a1.tmps.getD 62 undef = .int .i64 (p : Int) := hF.y 1 _ 62 rfl rfl (hD 1 (by kernel_rfl))
        have hN := hW.far (k := 14) (by decide) (by decide)
        refine fit_val (g := g) rfl hb rfl hF (by exact hN) ?_
        show (execOp _ _).run _ _ = Result.ok (.value (.pointer (some ⟨G, p, none⟩))) _
        clear hN hF hD hb hW
        simp only [execOp, Act.eval, e61, e62]
        go_simp
       ·intro hb g L a1 w1 hL hD hF hW
        have e75 : a1.tmps.getD 75 undef = .pointer (some ⟨G, p, none⟩) := hF.y 14 _ 75 rfl rfl (hD 14 (by kernel_rfl))
        have e70 : a1.tmps.getD 70 undef = .slice z.A z.n z.c := hF.y 9 _ 70 rfl rfl (hD 9 (by kernel_rfl))
        obtain ⟨kk, bb⟩ := hW.p0 hL
        have x1 : w1.cell? ⟨G, p, none⟩ = some (.slice x.A x.n x.c) := (bb.cell _).trans HC1.out
        have x2 : w1.frozen? ⟨G, p, none⟩ = false := bb.frozen _
        refine wpOp_skip (w' := w1.setCell ⟨G, p, none⟩ (.slice z.A z.n z.c)) rfl rfl ?_ ⟨g, hF.put hb rfl, hW.b1 hL (hD 9 (by kernel_rfl)) (hD 13 (by kernel_rfl)) (by decide)⟩
        clear hF hD hb hW kk bb
        simp only [execOp, Act.eval, e75, e70]
        go_simp
       ·intro hb g L a1 w1 hL hD hF hW
        have e63 : a1.tmps.getD 63 undef = .slice (some ⟨G, 0, none⟩) n c := hF.y 2 _ 63 rfl rfl (hD 2 (by kernel_rfl))
        have e65 : a1.tmps.getD 65 undef = .int .i64 (q : Int) := hF.y 4 _ 65 rfl rfl (hD 4 (by kernel_rfl))
        have hN := hW.far (k := 16) (by decide) (by decide)
        refine fit_val (g := g) rfl hb rfl hF (by exact hN) ?_
        show (execOp _ _).run _ _ = Result.ok (.value (.pointer (some ⟨G, q, none⟩))) _
        clear hN hF hD hb hW
        simp only [execOp, Act.eval, e63, e65]
        go_simp
       ·intro hb g L a1 w1 hL hD hF hW
        have e76 : a1.tmps.getD 76 undef = .pointer (some ⟨G, q, none⟩) := hF.y 16 _ 76 rfl rfl (hD 16 (by kernel_rfl))
        have e74 : a1.tmps.getD 74 undef = .slice x.A x.n x.c := hF.y 13 _ 74 rfl rfl (hD 13 (by kernel_rfl))
        have h1 := hD 15 (by kernel_rfl)
        obtain ⟨kk, bb⟩ := hW.p1 h1 hL
        have x1 : w1.cell? ⟨G, q, none⟩ = some (.slice z.A z.n z.c) := (bb.cell _).trans (by rw [Array.getElem?_setIfInBounds, if_neg HPQ.out]; exact HC2.out)
        have x2 : w1.frozen? ⟨G, q, none⟩ = false := bb.frozen _
        refine wpOp_skip (w' := w1.setCell ⟨G, q, none⟩ (.slice x.A x.n x.c)) rfl rfl ?_ ⟨g, hF.put hb rfl, hW.b2 hL h1 (by decide)⟩
        clear hF hD hb hW kk bb
        simp only [execOp, Act.eval, e76, e74]
        go_simp
      ·intro g L w' hall hW
       (try simp only [Exit.inBlock, Exit.then])
       refine hK1 _ _ (Met.intro (hJ1 _ _ ?_))
       repeat apply Exists.intro
       exact ⟨Lib.hid ⟨HI.out.k.trans (hW.p2 (hall 17 (by decide))).1, (hW.p2 (hall 17 (by decide))).2.congr HSW.out⟩, rfl⟩
     case rest =>
      have HN := Lib.hid (HN0.out _ hcut.out)
      obtain ⟨y4, rfl⟩ : ∃ z : World, z = wc := ⟨_, rfl⟩
      clear hcut
      go_wp2
      go_roundw
      case rel => exact HN.out
      case measure => simpa [intOf] using HMS.out
    ·have hlti : ¬ (p : Int) < (i1 : Int) := by omega
     have HF : Hid (SrSt y G rest (P ++ (mg (sle ci) [x] B ++ Q)) u) := Lib.hid (by
      have h := HI.out
      rw [List.take_of_length_le (by omega), List.drop_of_length_le (by omega)] at h
      rw [HMG.out]
      simpa using h)
     clear hx hpt htl
     go_wp2
     (try simp only [Exit.inBlock, Exit.then])
     refine bodyPost_ret (results_none rfl _ _ _) rfl ?_
     exact ⟨rfl, HF.out⟩
end Go.Proofs.YtpfkjejknlkkoaaGreatDoor
namespace Go.Proofs.YtpfkjejknlkkoaaGreatDoor
open Go.RowKit Go.BigFrame
attribute [local go_sem] bs_size bs_extract bs_append bs_toList KW.cell
set_option maxRecDepth 100000 in
set_option maxHeartbeats 16000000 in
theorem symLast_any (y : World) (G : Nat) (rest : List Value) (n c : Nat) (hn : n ≤ 1000000) (kf : Nat) (cap : Array Value) (ci : SR → SR → Int) (S : SR → Prop) (hC : CmpC y G kf cap ci S) (P A : List SR) (yy : SR) (Q : List SR) (hS : ∀ z ∈ A, S z) (hSy : S yy) (hA : 2 ≤ A.length) (hsA : Srt (sle ci) A) (hlen : P.length + A.length + 1 + Q.length = n) (a m b : Nat) (ha : a = P.length) (hm : m = P.length + A.length) (hb : b = P.length + A.length + 1) (w : World) (h : SrSt y G rest (P ++ (A ++ (yy :: Q))) w) :
  Calls Tryz.prog 140 #[.slice (some ⟨G, 0, none⟩) n c, .int .i64 (a : Int), .int .i64 (m : Int), .int .i64 (b : Int), .func (.func kf) #[] cap] w fun e w' => e = .returned (.tuple #[]) ∧ SrSt y G rest (P ++ (mg (sle ci) A [yy] ++ Q)) w' := by
 have HS := Lib.hid h
 have HSS := Lib.hid hS
 have HSY := Lib.hid hSy
 have HSA := Lib.hid hsA
 have HC := Lib.hid hC
 have he := hC.he
 have hw1 : IntKind.i64.wrap ((m : Int) - (a : Int)) = (A.length : Int) := by simp [IntKind.wrap, IntKind.bits, IntKind.signed]; omega
 have hw2 : IntKind.i64.wrap ((b : Int) - (m : Int)) = 1 := by simp [IntKind.wrap, IntKind.bits, IntKind.signed]; omega
 have hq1 : ((A.length : Int) == 1) = false := by rw [beq_eq_false_iff_ne]; omega
 have hst : a = P.length ∧ m = P.length + A.length ∧ b = m + 1 ∧ P.length + A.length + 1 + Q.length = n ∧ 2 ≤ A.length := ⟨ha, hm, by omega, hlen, hA⟩
 have HST := Lib.hid hst
 clear h hS hC hst ha hb hlen hm hA hSy hsA
 go_enter Tryz.func140, Tryz.ntmps140
 go_wp2_with fail
 clear hw1 hw2 hq1
 go_loopw [14, 15] (fun vi vj wr => ∃ i j : Nat, vi = .int .i64 (i : Int) ∧ vj = .int .i64 (j : Int) ∧ a ≤ i ∧ i ≤ j ∧ j ≤ m ∧ Hid (∀ k, i = a + k + 1 → ∀ hk : k < A.length, sle ci A[k] yy = true) ∧ Hid (∀ k, j = a + k → ∀ hk : k < A.length, sle ci A[k] yy = false) ∧ Hid (SrSt y G rest (P ++ (A ++ (yy :: Q))) wr)) (fun vi vj _ => (intOf vj).toNat - (intOf vi).toNat)
 case atStart =>
  have hst := HST.out
  exact ⟨a, m, rfl, rfl, by omega, by omega, by omega, Lib.hid (fun k hk => absurd hk (by omega)), Lib.hid (fun k hk hk' => absurd hk (by omega)), HS⟩
 case round =>
  clear HS
  obtain ⟨i, j, rfl, rfl, hmi, hij, hjb, HL, HR, HI⟩ := hrel
  have hst := HST.out
  by_cases hlt : i < j
  ·have hlti : (i : Int) < (j : Int) := by omega
   obtain ⟨h, hh⟩ : ∃ h : Nat, (i + j) / 2 = h := ⟨_, rfl⟩
   have hwa : IntKind.i64.wrap ((i : Int) + (j : Int)) = ((i + j : Nat) : Int) := by simp [IntKind.wrap, IntKind.bits, IntKind.signed]; omega
   have HMID := Lib.hid (half_val i j h (by omega) hh)
   obtain ⟨k, hk⟩ : ∃ k, h - a = k := ⟨_, rfl⟩
   have hkB : k < A.length := by omega
   obtain ⟨z, hz⟩ : ∃ z, A[k] = z := ⟨_, rfl⟩
   have x1 : wr.cell? ⟨G, h, none⟩ = some (.slice z.A z.n z.c) := by
    refine HI.out.get ?_
    rw [seg_at P A (yy :: Q) (k := k) (by omega) hkB, hz]
   have x2 : wr.cell? ⟨G, m, none⟩ = some (.slice yy.A yy.n yy.c) := by
    have h1 := HI.out
    rw [show P ++ (A ++ (yy :: Q)) = (P ++ A) ++ yy :: Q by simp] at h1
    exact h1.at (by rw [List.length_append]; exact hst.2.1)
   have lG : G < wr.heap.size := HI.out.b.lt
   have hhn : (h : Int) < (n : Int) := by omega
   have hmn : (m : Int) < (n : Int) := by omega
   have hwh : IntKind.i64.wrap ((h : Int) + 1) = ((h + 1 : Nat) : Int) := by simp [IntKind.wrap, IntKind.bits, IntKind.signed]; omega
   obtain ⟨r, hr⟩ : ∃ r, ci yy z = r := ⟨_, rfl⟩
   have HCC : Hid (∀ W, Keeps [] wr W → Calls Tryz.prog kf (#[.slice yy.A yy.n yy.c, .slice z.A z.n z.c] ++ cap) W fun e W' => e = .returned (.int .i64 r) ∧ Keeps [] W W') := Lib.hid (fun W kk => by
    rw [← hr]
    exact HC.out.c yy z HSY.out (HSS.out z (by rw [← hz]; exact List.getElem_mem hkB)) W (HI.out.k.trans kk.of_nil))
   have hih : i ≤ h := by omega
   have hhj : h < j := by omega
   have HKK : Hid (∀ k', h = a + k' → k' = k) := Lib.hid (fun k' e => by omega)
   have HZ := Lib.hid hz
   have HR0 := Lib.hid hr
   by_cases hr0 : r < 0
   ·have HREL : Hid (∀ wx, Keeps [] wr wx → ∃ i2 j2 : Nat, (.int .i64 (i : Int) : Value) = .int .i64 (i2 : Int) ∧ (.int .i64 (h : Int) : Value) = .int .i64 (j2 : Int) ∧ a ≤ i2 ∧ i2 ≤ j2 ∧ j2 ≤ m ∧ Hid (∀ k, i2 = a + k + 1 → ∀ hk : k < A.length, sle ci A[k] yy = true) ∧ Hid (∀ k, j2 = a + k → ∀ hk : k < A.length, sle ci A[k] yy = false) ∧ Hid (SrSt y G rest (P ++ (A ++ (yy :: Q))) wx)) := Lib.hid (fun wx kx => by
     refine ⟨i, h, rfl, rfl, hmi, hih, by omega, HL, Lib.hid (fun k' e hk' => ?_), Lib.hid (HI.out.keep kx)⟩
     obtain rfl := HKK.out k' e
     rw [HZ.out]
     exact sle_no (by rw [HR0.out]; exact hr0))
    have HMS : Hid (h - i < j - i) := Lib.hid (by omega)
    clear HZ HR0 HKK hst hh hk hkB hz hr hih hhj hmi hij hjb
    go_upto_region 17 with (fail)
    rw [HMID.out]
    clear hwa
    refine wp_region_keeps (by kernel_rfl) (by kernel_rfl) ?_
    repeat (go_big_quiet_step (with_reducible exact KW.of HCC.out _))
    refine wpQuiet_nil ?_
    intro wx kx
    have HN := Lib.hid (HREL.out wx kx)
    clear x1 x2 lG kx
    go_wp2
    go_roundw
    case rel => exact HN.out
    case measure => simpa [intOf] using HMS.out
   ·have HREL : Hid (∀ wx, Keeps [] wr wx → ∃ i2 j2 : Nat, (.int .i64 ((h + 1 : Nat) : Int) : Value) = .int .i64 (i2 : Int) ∧ (.int .i64 (j : Int) : Value) = .int .i64 (j2 : Int) ∧ a ≤ i2 ∧ i2 ≤ j2 ∧ j2 ≤ m ∧ Hid (∀ k, i2 = a + k + 1 → ∀ hk : k < A.length, sle ci A[k] yy = true) ∧ Hid (∀ k, j2 = a + k → ∀ hk : k < A.length, sle ci A[k] yy = false) ∧ Hid (SrSt y G rest (P ++ (A ++ (yy :: Q))) wx)) := Lib.hid (fun wx kx => by
     refine ⟨h + 1, j, rfl, rfl, by omega, by omega, hjb, Lib.hid (fun k' e hk' => ?_), HR, Lib.hid (HI.out.keep kx)⟩
     obtain rfl := HKK.out k' (by omega)
     rw [HZ.out]
     exact sle_yes (by rw [HR0.out]; exact hr0))
    have HMS : Hid (j - (h + 1) < j - i) := Lib.hid (by omega)
    clear HZ HR0 HKK hst hh hk hkB hz hr hih hhj hmi hij hjb
    go_upto_region 17 with (fail)
    rw [HMID.out]
    clear hwa
    refine wp_region_keeps (by kernel_rfl) (by kernel_rfl) ?_
    repeat (go_big_quiet_step (with_reducible exact KW.of HCC.out _))
    refine wpQuiet_nil ?_
    intro wx kx
    have HN := Lib.hid (HREL.out wx kx)
    clear x1 x2 lG kx
    go_wp2
    go_roundw
    case rel => exact HN.out
    case measure => simpa [intOf] using HMS.out
  ·have hji : ¬ (i : Int) < (j : Int) := by omega
   obtain rfl : i = j := by omega
   obtain ⟨t, ht⟩ : ∃ t, i - a = t := ⟨_, rfl⟩
   obtain ⟨A1, hA1⟩ : ∃ L, A.take t = L := ⟨_, rfl⟩
   obtain ⟨A2, hA2⟩ : ∃ L, A.drop t = L := ⟨_, rfl⟩
   have hAA : A1 ++ A2 = A := by rw [← hA1, ← hA2, List.take_append_drop]
   have hl1 : A1.length = t := by rw [← hA1, List.length_take]; omega
   have hl2 : A2.length = A.length - t := by rw [← hA2, List.length_drop]
   have h1 : ∀ z ∈ A1, sle ci z yy = true := fun z hz => by
    rw [← hA1] at hz
    obtain ⟨q, hq, rfl⟩ := List.getElem_of_mem hz
    rw [List.length_take] at hq
    rw [List.getElem_take]
    have h2 := HL.out (t - 1) (by omega) (by omega)
    rcases Nat.lt_or_ge q (t - 1) with hlt2 | hge
    ·exact HC.out.ord.trans _ _ _ (List.pairwise_iff_getElem.1 HSA.out q (t - 1) (by omega) (by omega) hlt2) h2
    ·obtain rfl : q = t - 1 := by omega
     exact h2
   have h2 : ∀ z ∈ A2, sle ci z yy = false := fun z hz => by
    rw [← hA2] at hz
    obtain ⟨q, hq, rfl⟩ := List.getElem_of_mem hz
    rw [List.length_drop] at hq
    rw [List.getElem_drop]
    have h3 := HR.out t (by omega) (by omega)
    cases hx : sle ci (A[t + q]'(by omega)) yy with
    | false => rfl
    | true =>
     rcases Nat.eq_zero_or_pos q with rfl | hpos
     ·exact hx.symm.trans h3
     ·have h4 := HC.out.ord.trans _ _ _ (List.pairwise_iff_getElem.1 HSA.out t (t + q) (by omega) (by omega) (by omega)) hx
      exact h4.symm.trans h3
   have hmg : mg (sle ci) A [yy] = A1 ++ yy :: A2 := by rw [← hAA]; exact mg_one h1 h2
   have HMG := Lib.hid hmg
   have HI2 : Hid (SrSt y G rest (P ++ (A1 ++ (A2.take A2.length ++ (yy :: (A2.drop A2.length ++ Q))))) wr) := Lib.hid (by
    have h := HI.out
    rw [← hAA] at h
    simpa using h)
   have HX : Hid (a = P.length ∧ i = a + A1.length ∧ m = i + A2.length ∧ m < n) := Lib.hid ⟨hst.1, by omega, by omega, by omega⟩
   clear hst ht hA1 hA2 hAA hl1 hl2 h1 h2 hmg hmi hij hjb HI HL HR
   go_wp2_with fail
   go_loopw [17] (fun v wx => ∃ k t : Nat, v = .int .i64 (k : Int) ∧ k = i + t ∧ t ≤ A2.length ∧ Hid (SrSt y G rest (P ++ (A1 ++ (A2.take t ++ (yy :: (A2.drop t ++ Q))))) wx)) (fun v _ => (intOf v).toNat)
   case atStart => exact ⟨m, A2.length, rfl, HX.out.2.2.1, Nat.le_refl _, HI2⟩
   case round =>
    clear HI2
    obtain ⟨p, t, rfl, hpt, htl, HI⟩ := hrel
    obtain ⟨u, rfl⟩ : ∃ u : World, u = wr := ⟨_, rfl⟩
    have hx := HX.out
    by_cases hlt2 : i < p
    ·have hlti : (p : Int) > (i : Int) := by omega
     obtain ⟨t', rfl⟩ : ∃ t', t = t' + 1 := ⟨t - 1, by omega⟩
     have htB : t' < A2.length := by omega
     obtain ⟨z, hz⟩ : ∃ z, A2[t'] = z := ⟨_, rfl⟩
     obtain ⟨q, hq⟩ : ∃ q, p - 1 = q := ⟨_, rfl⟩
     have hpn : (p : Int) < (n : Int) := by omega
     have hqn : (q : Int) < (n : Int) := by omega
     have hwq : IntKind.i64.wrap ((p : Int) - 1) = (q : Int) := by simp [IntKind.wrap, IntKind.bits, IntKind.signed]; omega
     have eX : P ++ (A1 ++ (A2.take (t' + 1) ++ (yy :: (A2.drop (t' + 1) ++ Q)))) = (P ++ (A1 ++ A2.take t')) ++ z :: ([] ++ yy :: (A2.drop (t' + 1) ++ Q)) := by
      rw [take_at htB, hz]
      simp
     have eY : P ++ (A1 ++ (A2.take t' ++ (yy :: (A2.drop t' ++ Q)))) = (P ++ (A1 ++ A2.take t')) ++ yy :: ([] ++ z :: (A2.drop (t' + 1) ++ Q)) := by
      rw [sdrop_at htB, hz]
      simp
     have hXl : q = (P ++ (A1 ++ A2.take t')).length := by rw [List.length_append, List.length_append, List.length_take]; omega
     rw [eX] at HI
     obtain ⟨X, hX⟩ : ∃ X, P ++ (A1 ++ A2.take t') = X := ⟨_, rfl⟩
     obtain ⟨Z, hZ⟩ : ∃ Z, A2.drop (t' + 1) ++ Q = Z := ⟨_, rfl⟩
     rw [hX, hZ] at HI
     rw [hX] at hXl
     have hYl : p = X.length + 1 + ([] : List SR).length := by
      rw [← hXl]
      show p = q + 1
      omega
     have HN0 : Hid (∀ wx, SrSt y G rest (X ++ yy :: ([] ++ z :: Z)) wx → ∃ k t : Nat, (.int .i64 (q : Int) : Value) = .int .i64 (k : Int) ∧ k = i + t ∧ t ≤ A2.length ∧ Hid (SrSt y G rest (P ++ (A1 ++ (A2.take t ++ (yy :: (A2.drop t ++ Q))))) wx)) := Lib.hid (fun wx h => ⟨q, t', rfl, by omega, by omega, Lib.hid (by rw [eY, hX, hZ]; exact h)⟩)
     have HB := Lib.hid HI.out.b
     have HC1 : Hid ((srCells (X ++ z :: ([] ++ yy :: Z)) rest)[q]? = some (.slice z.A z.n z.c)) := Lib.hid (sr_at X _ z rest hXl)
     have HC2 : Hid ((srCells (X ++ z :: ([] ++ yy :: Z)) rest)[p]? = some (.slice yy.A yy.n yy.c)) := Lib.hid (sr_snd X [] Z z yy rest hYl)
     have HPQ : Hid (p ≠ q) := Lib.hid (by omega)
     have HSW := Lib.hid (sr_swap' X [] Z z yy rest hXl hYl)
     have HMS : Hid (q < p) := Lib.hid (by omega)
     clear eX eY hX hZ hXl hYl hz hq htB htl hpt hx hlt2
     go_upto_block 7 with (fail)
     go_cut [] (fun wy => Hid (SrSt y G rest (X ++ yy :: ([] ++ z :: Z)) wy))
     case first =>
      rename_i J1 K1 hJ1 hK1
      go_upto_region 23 with (fail)
      refine wp_region_fit' (by kernel_rfl) (by kernel_rfl) (by kernel_rfl) (fun (_ : Unit) ix => ([.slice (some ⟨G, 0, none⟩) n c, .int .i64 (p : Int), .slice (some ⟨G, 0, none⟩) n c, .int .i64 (p : Int), .int .i64 (q : Int), .slice (some ⟨G, 0, none⟩) n c, .int .i64 (p : Int), .int .i64 (q : Int), .pointer (some ⟨G, q, none⟩), .slice z.A z.n z.c, .slice (some ⟨G, 0, none⟩) n c, .int .i64 (p : Int), .pointer (some ⟨G, p, none⟩), .slice yy.A yy.n yy.c, .pointer (some ⟨G, p, none⟩), undef, .pointer (some ⟨G, q, none⟩), undef] : List Value).getD ix undef) (fun (_ : Unit) L w' => SwW u G 41 (srCells (X ++ z :: ([] ++ yy :: Z)) rest) p q (.slice z.A z.n z.c) (.slice yy.A yy.n yy.c) 9 13 15 17 L w') ⟨(), SwW.start HB.out⟩ ?_ ?_
      ·show AllC _ 18
       refine ⟨⟨⟨⟨⟨⟨⟨⟨⟨⟨⟨⟨⟨⟨⟨⟨⟨⟨trivial, ?_⟩, ?_⟩, ?_⟩, ?_⟩, ?_⟩, ?_⟩, ?_⟩, ?_⟩, ?_⟩, ?_⟩, ?_⟩, ?_⟩, ?_⟩, ?_⟩, ?_⟩, ?_⟩, ?_⟩, ?_⟩
       ·intro hb g L a1 w1 hL hD hF hW
        have e0 : a1.tmps.getD 0 undef = .slice (some ⟨G, 0, none⟩) n c := hF.old 0 (by kernel_rfl)
        have hN := hW.far (k := 0) (by decide) (by decide)
        refine fit_val (g := g) rfl hb rfl hF (by exact hN) ?_
        show (execOp _ _).run _ _ = Result.ok (.value (.slice (some ⟨G, 0, none⟩) n c)) _
        clear hN hF hD hb hW
        simp only [execOp, Act.eval, e0]
        go_simp
       ·intro hb g L a1 w1 hL hD hF hW
        have e17 : a1.tmps.getD 17 undef = .int .i64 (p : Int) := hF.old 17 (by kernel_rfl)
        have hN := hW.far (k := 1) (by decide) (by decide)
        refine fit_val (g := g) rfl hb rfl hF (by exact hN) ?_
        show (execOp _ _).run _ _ = Result.ok (.value (.int .i64 (p : Int))) _
        clear hN hF hD hb hW
        simp only [execOp, Act.eval, e17]
        go_simp
       ·intro hb g L a1 w1 hL hD hF hW
        have e0 : a1.tmps.getD 0 undef = .slice (some ⟨G, 0, none⟩) n c := hF.old 0 (by kernel_rfl)
        have hN := hW.far (k := 2) (by decide) (by decide)
        refine fit_val (g := g) rfl hb rfl hF (by exact hN) ?_
        show (execOp _ _).run _ _ = Result.ok (.value (.slice (some ⟨G, 0, none⟩) n c)) _
        clear hN hF hD hb hW
        simp only [execOp, Act.eval, e0]
        go_simp
       ·intro hb g L a1 w1 hL hD hF hW
        have e17 : a1.tmps.getD 17 undef = .int .i64 (p : Int) := hF.old 17 (by kernel_rfl)
        have hN := hW.far (k := 3) (by decide) (by decide)
        refine fit_val (g := g) rfl hb rfl hF (by exact hN) ?_
        show (execOp _ _).run _ _ = Result.ok (.value (.int .i64 (p : Int))) _
        clear hN hF hD hb hW
        simp only [execOp, Act.eval, e17]
        go_simp
       ·intro hb g L a1 w1 hL hD hF hW
        have e116 : a1.tmps.getD 116 undef = .int .i64 (p : Int) := hF.y 3 _ 116 rfl rfl (hD 3 (by kernel_rfl))
        have hN := hW.far (k := 4) (by decide) (by decide)
        refine fit_val (g := g) rfl hb rfl hF (by exact hN) ?_
        show (execOp _ _).run _ _ = Result.ok (.value (.int .i64 (q : Int))) _
        clear hN hF hD hb hW
        simp only [execOp, Act.eval, e116]
        go_simp
       ·intro hb g L a1 w1 hL hD hF hW
        have e0 : a1.tmps.getD 0 undef = .slice (some ⟨G, 0, none⟩) n c := hF.old 0 (by kernel_rfl)
        have hN := hW.far (k := 5) (by decide) (by decide)
        refine fit_val (g := g) rfl hb rfl hF (by exact hN) ?_
        show (execOp _ _).run _ _ = Result.ok (.value (.slice (some ⟨G, 0, none⟩) n c)) _
        clear hN hF hD hb hW
        simp only [execOp, Act.eval, e0]
        go_simp
       ·intro hb g L a1 w1 hL hD hF hW
        have e17 : a1.tmps.getD 17 undef = .int .i64 (p : Int) := hF.old 17 (by kernel_rfl)
        have hN := hW.far (k := 6) (by decide) (by decide)
        refine fit_val (g := g) rfl hb rfl hF (by exact hN) ?_
        show (execOp _ _).run _ _ = Result.ok (.value (.int .i64 (p : Int))) _
        clear hN hF hD hb hW
        simp only [execOp, Act.eval, e17]
        go_simp
       ·intro hb g L a1 w1 hL hD hF hW
        have e119 : a1.tmps.getD 119 undef = .int .i64 (p : Int) := hF.y 6 _ 119 rfl rfl (hD 6 (by kernel_rfl))
        have hN := hW.far (k := 7) (by decide) (by decide)
        refine fit_val (g := g) rfl hb rfl hF (by exact hN) ?_
        show (execOp _ _).run _ _ = Result.ok (.value (.int .i64 (q : Int))) _
        clear hN hF hD hb hW
        simp only [execOp, Act.eval, e119]
        go_simp
       ·intro hb g L a1 w1 hL hD hF hW
        have e118 : a1.tmps.getD 118 undef = .slice (some ⟨G, 0, none⟩) n c := hF.y 5 _ 118 rfl rfl (hD 5 (by kernel_rfl))
        have e120 : a1.tmps.getD 120 undef = .int .i64 (q : Int) := hF.y 7 _ 120 rfl rfl (hD 7 (by kernel_rfl))
        have hN := hW.far (k := 8) (by decide) (by decide)
        refine fit_val (g := g) rfl hb rfl hF (by exact hN) ?_
        show (execOp _ _).run _ _ = Result.ok (.value (.pointer (some ⟨G, q, none⟩))) _
        clear hN hF hD hb hW
        simp only [execOp, Act.eval, e118, e120]
        go_simp
       ·intro hb g L a1 w1 hL hD hF hW
        have e121 : a1.tmps.getD 121 undef = .pointer (some ⟨G, q, none⟩) := hF.y 8 _ 121 rfl rfl (hD 8 (by kernel_rfl))
        have hN := hW.far (k := 9) (by decide) (by decide)
        obtain ⟨kk, bb⟩ := hW.ld1 hL
        have x1 : w1.cell? ⟨G, q, none⟩ = some (.slice z.A z.n z.c) := (bb.cell _).trans HC1.out
        clear kk bb
        refine fit_val (g := g) rfl hb rfl hF (by exact hN) ?_
        show (execOp _ _).run _ _ = Result.ok (.value (.slice z.A z.n z.c)) _
        clear hN hF hD hb hW
        simp only [execOp, Act.eval, e121]
        go_simp
       ·intro hb g L a1 w1 hL hD hF hW
        have e0 : a1.tmps.getD 0 undef = .slice (some ⟨G, 0, none⟩) n c := hF.old 0 (by kernel_rfl)
        have hN := hW.far (k := 10) (by decide) (by decide)
        refine fit_val (g := g) rfl hb rfl hF (by exact hN) ?_
        show (execOp _ _).run _ _ = Result.ok (.value (.slice (some ⟨G, 0, none⟩) n c)) _
        clear hN hF hD hb hW
        simp only [execOp, Act.eval, e0]
        go_simp
       ·intro hb g L a1 w1 hL hD hF hW
        have e17 : a1.tmps.getD 17 undef = .int .i64 (p : Int) := hF.old 17 (by kernel_rfl)
        have hN := hW.far (k := 11) (by decide) (by decide)
        refine fit_val (g := g) rfl hb rfl hF (by exact hN) ?_
        show (execOp _ _).run _ _ = Result.ok (.value (.int .i64 (p : Int))) _
        clear hN hF hD hb hW
        simp only [execOp, Act.eval, e17]
        go_simp
       ·intro hb g L a1 w1 hL hD hF hW
        have e123 : a1.tmps.getD 123 undef = .slice (some ⟨G, 0, none⟩) n c := hF.y 10 _ 123 rfl rfl (hD 10 (by kernel_rfl))
        have e124 : a1.tmps.getD 124 undef = .int .i64 (p : Int) := hF.y 11 _ 124 rfl rfl (hD 11 (by kernel_rfl))
        have hN := hW.far (k := 12) (by decide) (by decide)
        refine fit_val (g := g) rfl hb rfl hF (by exact hN) ?_
        show (execOp _ _).run _ _ = Result.ok (.value (.pointer (some ⟨G, p, none⟩))) _
        clear hN hF hD hb hW
        simp only [execOp, Act.eval, e123, e124]
        go_simp
       ·intro hb g L a1 w1 hL hD hF hW
        have e125 : a1.tmps.getD 125 undef = .pointer (some ⟨G, p, none⟩) := hF.y 12 _ 125 rfl rfl (hD 12 (by kernel_rfl))
        have hN := hW.far (k := 13) (by decide) (by decide)
        obtain ⟨kk, bb⟩ := hW.ld2 hL
        have x1 : w1.cell? ⟨G, p, none⟩ = some (.slice yy.A yy.n yy.c) := (bb.cell _).trans HC2.out
        clear kk bb
        refine fit_val (g := g) rfl hb rfl hF (by exact hN) ?_
        show (execOp _ _).run _ _ = Result.ok (.value (.slice yy.A yy.n yy.c)) _
        clear hN hF hD hb hW
        simp only [execOp, Act.eval, e125]
        go_simp
       ·intro hb g L a1 w1 hL hD hF hW
        have e113 : a1.tmps.getD 113 undef = .slice (some ⟨G, 0, none⟩) n c := hF.y 0 _ 113 rfl rfl (hD 0 (by kernel_rfl))
        have e114 : a1.tmps.getD 114 undef = .int .i64 (p : Int) := hF.y 1 _ 114 rfl rfl (hD 1 (by kernel_rfl))
        have hN := hW.far (k := 14) (by decide) (by decide)
        refine fit_val (g := g) rfl hb rfl hF (by exact hN) ?_
        show (execOp _ _).run _ _ = Result.ok (.value (.pointer (some ⟨G, p, none⟩))) _
        clear hN hF hD hb hW
        simp only [execOp, Act.eval, e113, e114]
        go_simp
       ·intro hb g L a1 w1 hL hD hF hW
        have e127 : a1.tmps.getD 127 undef = .pointer (some ⟨G, p, none⟩) := hF.y 14 _ 127 rfl rfl (hD 14 (by kernel_rfl))
        have e122 : a1.tmps.getD 122 undef = .slice z.A z.n z.c := hF.y 9 _ 122 rfl rfl (hD 9 (by kernel_rfl))
        obtain ⟨kk, bb⟩ := hW.p0 hL
        have x1 : w1.cell? ⟨G, p, none⟩ = some (.slice yy.A yy.n yy.c) := (bb.cell _).trans HC2.out
        have x2 : w1.frozen? ⟨G, p, none⟩ = false := bb.frozen _
        refine wpOp_skip (w' := w1.setCell ⟨G, p, none⟩ (.slice z.A z.n z.c)) rfl rfl ?_ ⟨g, hF.put hb rfl, hW.b1 hL (hD 9 (by kernel_rfl)) (hD 13 (by kernel_rfl)) (by decide)⟩
        clear hF hD hb hW kk bb
        simp only [execOp, Act.eval, e127, e122]
        go_simp
       ·intro hb g L a1 w1 hL hD hF hW
        have e115 : a1.tmps.getD 115 undef = .slice (some ⟨G, 0, none⟩) n c := hF.y 2 _ 115 rfl rfl (hD 2 (by kernel_rfl))
        have e117 : a1.tmps.getD 117 undef = .int .i64 (q : Int) := hF.y 4 _ 117 rfl rfl (hD 4 (by kernel_rfl))
        have hN := hW.far (k := 16) (by decide) (by decide)
        refine fit_val (g := g) rfl hb rfl hF (by exact hN) ?_
        show (execOp _ _).run _ _ = Result.ok (.value (.pointer (some ⟨G, q, none⟩))) _
        clear hN hF hD hb hW
        simp only [execOp, Act.eval, e115, e117]
        go_simp
       ·intro hb g L a1 w1 hL hD hF hW
        have e128 : a1.tmps.getD 128 undef = .pointer (some ⟨G, q, none⟩) := hF.y 16 _ 128 rfl rfl (hD 16 (by kernel_rfl))
        have e126 : a1.tmps.getD 126 undef = .slice yy.A yy.n yy.c := hF.y 13 _ 126 rfl rfl (hD 13 (by kernel_rfl))
        have h1 := hD 15 (by kernel_rfl)
        obtain ⟨kk, bb⟩ := hW.p1 h1 hL
        have x1 : w1.cell? ⟨G, q, none⟩ = some (.slice z.A z.n z.c) := (bb.cell _).trans (by rw [Array.getElem?_setIfInBounds, if_neg HPQ.out]; exact HC1.out)
        have x2 : w1.frozen? ⟨G, q, none⟩ = false := bb.frozen _
        refine wpOp_skip (w' := w1.setCell ⟨G, q, none⟩ (.slice yy.A yy.n yy.c)) rfl rfl ?_ ⟨g, hF.put hb rfl, hW.b2 hL h1 (by decide)⟩
        clear hF hD hb hW kk bb
        simp only [execOp, Act.eval, e128, e126]
        go_simp
      ·intro g L w' hall hW
       (try simp only [Exit.inBlock, Exit.then])
       refine hK1 _ _ (Met.intro (hJ1 _ _ ?_))
       repeat apply Exists.intro
       exact ⟨Lib.hid ⟨HI.out.k.trans (hW.p2 (hall 17 (by decide))).1, (hW.p2 (hall 17 (by decide))).2.congr HSW.out⟩, rfl⟩
     case rest =>
      have HN := Lib.hid (HN0.out _ hcut.out)
      obtain ⟨y4, rfl⟩ : ∃ z : World, z = wc := ⟨_, rfl⟩
      clear hcut
      go_wp2
      go_roundw
      case rel => exact HN.out
      case measure => simpa [intOf] using HMS.out
    ·have hlti : ¬ (p : Int) > (i : Int) := by omega
     have HF : Hid (SrSt y G rest (P ++ (mg (sle ci) A [yy] ++ Q)) u) := Lib.hid (by
      have h := HI.out
      obtain rfl : t = 0 := by omega
      rw [HMG.out]
      simpa using h)
     clear hx hpt htl
     go_wp2
     (try simp only [Exit.inBlock, Exit.then])
     refine bodyPost_ret (results_none rfl _ _ _) rfl ?_
     exact ⟨rfl, HF.out⟩
end Go.Proofs.YtpfkjejknlkkoaaGreatDoor
namespace Go.Proofs.YtpfkjejknlkkoaaGreatDoor
open Go.RowKit Go.BigFrame
attribute [local go_sem] bs_size bs_extract bs_append bs_toList KW.cell
set_option maxRecDepth 100000 in
set_option maxHeartbeats 4000000 in
theorem rotate_any (y : World) (G : Nat) (rest : List Value) (n c : Nat) (hn : n ≤ 1000000) (cv : Value) (P A B Q : List SR) (hA : 0 < A.length) (hB : 0 < B.length) (hlen : P.length + A.length + B.length + Q.length = n) (a m b : Nat) (ha : a = P.length) (hm : m = P.length + A.length) (hb : b = P.length + A.length + B.length) (w : World) (h : SrSt y G rest (P ++ (A ++ (B ++ Q))) w) :
  Calls Tryz.prog 151 #[.slice (some ⟨G, 0, none⟩) n c, .int .i64 (a : Int), .int .i64 (m : Int), .int .i64 (b : Int), cv] w fun e w' => e = .returned (.tuple #[]) ∧ SrSt y G rest (P ++ (B ++ (A ++ Q))) w' := by
 have HS := Lib.hid h
 clear h
 have hw1 : IntKind.i64.wrap ((m : Int) - (a : Int)) = (A.length : Int) := by simp [IntKind.wrap, IntKind.bits, IntKind.signed]; omega
 have hw2 : IntKind.i64.wrap ((b : Int) - (m : Int)) = (B.length : Int) := by simp [IntKind.wrap, IntKind.bits, IntKind.signed]; omega
 have hst : a = P.length ∧ P.length + A.length = m ∧ P.length + A.length + B.length + Q.length = n := ⟨ha, hm.symm, hlen⟩
 have HST := Lib.hid hst
 have HA := Lib.hid hA
 have HB := Lib.hid hB
 clear hst hlen ha hm hb hA hB
 go_enter Tryz.func151, Tryz.ntmps151
 go_wp2_with fail
 clear hw1 hw2
 go_loopw [10, 11] (fun vi vj wr => ∃ (P' A' B' Q' : List SR) (i j p : Nat), vi = .int .i64 (i : Int) ∧ vj = .int .i64 (j : Int) ∧ i = A'.length ∧ j = B'.length ∧ p = P'.length ∧ p + i = m ∧ 0 < i ∧ 0 < j ∧ p + i + j + Q'.length = n ∧ P' ++ (B' ++ (A' ++ Q')) = P ++ (B ++ (A ++ Q)) ∧ Hid (SrSt y G rest (P' ++ (A' ++ (B' ++ Q'))) wr)) (fun vi vj _ => (intOf vi).toNat + (intOf vj).toNat)
 case atStart => exact ⟨P, A, B, Q, A.length, B.length, P.length, rfl, rfl, rfl, rfl, rfl, HST.out.2.1, HA.out, HB.out, HST.out.2.2, rfl, HS⟩
 case round =>
  obtain ⟨P', A', B', Q', i, j, p, rfl, rfl, hi, hj, hp, hpm, hi0, hj0, hl, he, HI⟩ := hrel
  have HE := Lib.hid he
  clear he HS
  by_cases hij : i = j
  ·subst hij
   have hq : ((i : Int) != (i : Int)) = false := by simp
   have hwm : IntKind.i64.wrap ((m : Int) - (i : Int)) = (p : Int) := by simp [IntKind.wrap, IntKind.bits, IntKind.signed]; omega
   have HSW : Hid (Calls Tryz.prog 156 #[.slice (some ⟨G, 0, none⟩) n c, .int .i64 (p : Int), .int .i64 (m : Int), .int .i64 (i : Int), cv] wr fun e w' => e = .returned (.tuple #[]) ∧ SrSt y G rest (P ++ (B ++ (A ++ Q))) w') := Lib.hid (by
    rw [← HE.out]
    exact swapRange_any y G rest n c hn cv P' A' [] B' Q' (by omega) (by simp; omega) p m i hp (by simp; omega) hi wr HI.out)
   clear hi hj hp hpm hi0 hj0 hl
   go_wp2_with ((with_reducible refine HSW.out.mono ?_); rintro e w5 ⟨rfl, h5⟩)
   go_end0
   exact ⟨rfl, h5⟩
  ·have hq : ((i : Int) != (j : Int)) = true := by simp; omega
   have hwm : IntKind.i64.wrap ((m : Int) - (i : Int)) = (p : Int) := by simp [IntKind.wrap, IntKind.bits, IntKind.signed]; omega
   by_cases hgt : j < i
   ·have hg : (i : Int) > (j : Int) := by omega
    obtain ⟨i', hi'⟩ : ∃ i' : Nat, i - j = i' := ⟨_, rfl⟩
    have hwi : IntKind.i64.wrap ((i : Int) - (j : Int)) = (i' : Int) := by simp [IntKind.wrap, IntKind.bits, IntKind.signed]; omega
    have HSW : Hid (Calls Tryz.prog 156 #[.slice (some ⟨G, 0, none⟩) n c, .int .i64 (p : Int), .int .i64 (m : Int), .int .i64 (j : Int), cv] wr fun e w' => e = .returned (.tuple #[]) ∧ SrSt y G rest (P' ++ (B' ++ (A'.drop j ++ (A'.take j ++ Q')))) w') := Lib.hid (by
     refine swapRange_any y G rest n c hn cv P' (A'.take j) (A'.drop j) B' Q' (by simp; omega) (by simp; omega) p m j hp (by simp; omega) (by simp; omega) wr ?_
     have h := HI.out
     rw [show A' ++ (B' ++ Q') = A'.take j ++ (A'.drop j ++ (B' ++ Q')) by rw [← List.append_assoc (A'.take j), List.take_append_drop]] at h
     exact h)
    have HX : Hid (∀ w5, SrSt y G rest (P' ++ (B' ++ (A'.drop j ++ (A'.take j ++ Q')))) w5 → ∃ (P2 A2 B2 Q2 : List SR) (i2 j2 p2 : Nat), (.int .i64 (i' : Int) : Value) = .int .i64 (i2 : Int) ∧ (.int .i64 (j : Int) : Value) = .int .i64 (j2 : Int) ∧ i2 = A2.length ∧ j2 = B2.length ∧ p2 = P2.length ∧ p2 + i2 = m ∧ 0 < i2 ∧ 0 < j2 ∧ p2 + i2 + j2 + Q2.length = n ∧ P2 ++ (B2 ++ (A2 ++ Q2)) = P ++ (B ++ (A ++ Q)) ∧ Hid (SrSt y G rest (P2 ++ (A2 ++ (B2 ++ Q2))) w5)) := Lib.hid (fun w5 h5 => by
     refine ⟨P' ++ B', A'.drop j, A'.take j, Q', i', j, p + j, rfl, rfl, by simp; omega, by simp; omega, by simp; omega, by omega, by omega, hj0, by omega, ?_, Lib.hid (by simpa using h5)⟩
     rw [← HE.out]
     simp only [List.append_assoc]
     rw [← List.append_assoc (A'.take j), List.take_append_drop])
    have hms : i' + j < i + j := by omega
    have HMS := Lib.hid hms
    clear hms hi hj hp hpm hi0 hj0 hl hi' hgt hij
    go_wp2_with ((with_reducible refine HSW.out.mono ?_); rintro e w5 ⟨rfl, h5⟩)
    go_roundw
    case rel => exact HX.out _ h5
    case measure => simpa [intOf] using HMS.out
   ·have hg : ¬ (i : Int) > (j : Int) := by omega
    obtain ⟨j', hj'⟩ : ∃ j' : Nat, j - i = j' := ⟨_, rfl⟩
    obtain ⟨q, hqq⟩ : ∃ q : Nat, m + j - i = q := ⟨_, rfl⟩
    have hwi : IntKind.i64.wrap ((j : Int) - (i : Int)) = (j' : Int) := by simp [IntKind.wrap, IntKind.bits, IntKind.signed]; omega
    have hwa : IntKind.i64.wrap ((m : Int) + (j : Int)) = (m : Int) + (j : Int) := by simp [IntKind.wrap, IntKind.bits, IntKind.signed]; omega
    have hwb : IntKind.i64.wrap ((m : Int) + (j : Int) - (i : Int)) = (q : Int) := by simp [IntKind.wrap, IntKind.bits, IntKind.signed]; omega
    have HSW : Hid (Calls Tryz.prog 156 #[.slice (some ⟨G, 0, none⟩) n c, .int .i64 (p : Int), .int .i64 (q : Int), .int .i64 (i : Int), cv] wr fun e w' => e = .returned (.tuple #[]) ∧ SrSt y G rest (P' ++ (B'.drop j' ++ (B'.take j' ++ (A' ++ Q')))) w') := Lib.hid (by
     refine swapRange_any y G rest n c hn cv P' A' (B'.take j') (B'.drop j') Q' (by simp; omega) (by simp; omega) p q i hp (by simp; omega) hi wr ?_
     have h := HI.out
     rw [show B' ++ Q' = B'.take j' ++ (B'.drop j' ++ Q') by rw [← List.append_assoc (B'.take j'), List.take_append_drop]] at h
     exact h)
    have HX : Hid (∀ w5, SrSt y G rest (P' ++ (B'.drop j' ++ (B'.take j' ++ (A' ++ Q')))) w5 → ∃ (P2 A2 B2 Q2 : List SR) (i2 j2 p2 : Nat), (.int .i64 (i : Int) : Value) = .int .i64 (i2 : Int) ∧ (.int .i64 (j' : Int) : Value) = .int .i64 (j2 : Int) ∧ i2 = A2.length ∧ j2 = B2.length ∧ p2 = P2.length ∧ p2 + i2 = m ∧ 0 < i2 ∧ 0 < j2 ∧ p2 + i2 + j2 + Q2.length = n ∧ P2 ++ (B2 ++ (A2 ++ Q2)) = P ++ (B ++ (A ++ Q)) ∧ Hid (SrSt y G rest (P2 ++ (A2 ++ (B2 ++ Q2))) w5)) := Lib.hid (fun w5 h5 => by
     refine ⟨P', B'.drop j', B'.take j', A' ++ Q', i, j', p, rfl, rfl, by simp; omega, by simp; omega, hp, hpm, hi0, by omega, by simp; omega, ?_, Lib.hid h5⟩
     rw [← HE.out, ← List.append_assoc (B'.take j'), List.take_append_drop])
    have hms : i + j' < i + j := by omega
    have HMS := Lib.hid hms
    clear hms hi hj hp hpm hi0 hj0 hl hj' hgt hij hqq
    go_wp2_with ((with_reducible refine HSW.out.mono ?_); rintro e w5 ⟨rfl, h5⟩)
    go_roundw
    case rel => exact HX.out _ h5
    case measure => simpa [intOf] using HMS.out
end Go.Proofs.YtpfkjejknlkkoaaGreatDoor
