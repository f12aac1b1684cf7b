/- The reference of sums: a text's sum. -/
import Derived.Test.YtkklmogcohlbhaaDoorSumQ
import Derived.Deep.RegionHeld3
namespace Go.Proofs.YtkklmogcohlbhaaDoor
open Go.RowKit Go.BigFrame
attribute [local go_sem] bs_size bs_extract bs_append bs_toList
theorem bs_app128 (a : Bs) : bs a ++ ⟨#[128]⟩ = bs (a ++ [128]) := bs_append a [128]
theorem bs_app0 (a : Bs) : bs a ++ ⟨#[0]⟩ = bs (a ++ [0]) := bs_append a [0]
attribute [local go_sem] bs_app128 bs_app0
theorem bs_bne' (a b : Bs) : (bs a != bs b) = !decide (a = b) := by
  have e : (bs a == bs b) = decide (a = b) := by
    show (a.toArray == b.toArray) = _
    rw [Bool.eq_iff_iff]
    simp
  rw [bne, e]
theorem cell_far' {w : World} {n : Nat} {p q : Addr} {u : Value} {r : Option Value} (h : p ≠ q) (k : w.cell? q = r) : ((w.drewN n).setCell p u).cell? q = r :=
  (World.cell?_setCell_other (w := w.drewN n) (a := p) (v := u) (b := q) h).trans k
def lenS : Value → Nat | .string b => b.size | _ => 0
/-- What stands while a sum is reckoned: eight words and the table of rounds. -/
structure SI (w wx : World) (gh gk : Nat) (H : Nat → Int) : Prop where
  keeps : Keeps [] w wx
  bh : Blk wx gh 25 (wcells 8 H)
  bk : Blk wx gk 31 (wcells 64 kt)
  lh : w.heap.size ≤ gh
  lk : w.heap.size ≤ gk
theorem SI.quiet {w wx wy : World} {gh gk : Nat} {H : Nat → Int} (h : SI w wx gh gk H) (k : Keeps [] wx wy) : SI w wy gh gk H :=
  ⟨h.keeps.trans k, h.bh.keep k (by simp), h.bk.keep k (by simp), h.lh, h.lk⟩
theorem SI.setH {w wx : World} {gh gk : Nat} {H : Nat → Int} (h : SI w wx gh gk H) (j : Nat) (v : Int) : SI w (wx.setCell ⟨gh, j, none⟩ (.int .u32 v)) gh gk (upd H j v) :=
  ⟨h.keeps.setCell (.inr h.lh) _, h.bh.word j v, h.bk.far (p := ⟨gh, j, none⟩) (h.bk.ne h.bh (by decide)) _, h.lh, h.lk⟩
theorem SI.far {w wx : World} {gh gk : Nat} {H : Nat → Int} (h : SI w wx gh gk H) {p : Addr} (h1 : gh ≠ p.block) (h2 : gk ≠ p.block) (h3 : w.heap.size ≤ p.block) (u : Value) : SI w (wx.setCell p u) gh gk H :=
  ⟨h.keeps.setCell (.inr h3) _, h.bh.far h1 _, h.bk.far h2 _, h.lh, h.lk⟩
theorem SI.congr {w wx : World} {gh gk : Nat} {H H' : Nat → Int} (h : SI w wx gh gk H) (e : ∀ j, j < 8 → H j = H' j) : SI w wx gh gk H' := ⟨h.keeps, h.bh.congr (wcells_congr e), h.bk, h.lh, h.lk⟩
set_option maxHeartbeats 8000000 in
set_option maxRecDepth 1000000 in
theorem rsum_any (s : Bs) (hs : s.length ≤ 400) (w : World) :
    Calls Tryd.prog 5 #[.string (bs s)] w fun e w' => e = .returned (.string (bs (shaL s))) ∧ Keeps [] w w' := by
  go_enter Tryd.func5, Tryd.ntmps5
  go_upto_region 3 with (fail)
  change Code.wp _ _ _ _ ((w.alloc (.cells (wcells 8 fun _ => 0) 25)).alloc (.cells (wcells 64 fun _ => 0) 31))
  have hbh := (Blk.new w 25 (wcells 8 fun _ => 0)).alloc (.cells (wcells 64 fun _ => 0) 31)
  have hbk := Blk.new (w.alloc (.cells (wcells 8 fun _ => 0) 25)) 31 (wcells 64 fun _ => 0)
  have hk0 : Keeps [] w ((w.alloc (.cells (wcells 8 fun _ => 0) 25)).alloc (.cells (wcells 64 fun _ => 0) 31)) := ((Keeps.refl _ _).alloc _).alloc _
  rw [alloc_size'] at hbk
  obtain ⟨W1, hW1⟩ : ∃ x, (w.alloc (.cells (wcells 8 fun _ => 0) 25)).alloc (.cells (wcells 64 fun _ => 0) 31) = x := ⟨_, rfl⟩
  rw [hW1] at hbh hbk hk0 ⊢
  have hlh : w.heap.size ≤ w.heap.size := Nat.le_refl _
  have hlk : w.heap.size ≤ w.heap.size + 1 := Nat.le_succ _
  have hne : w.heap.size ≠ w.heap.size + 1 := by omega
  generalize hgk : w.heap.size + 1 = gk at hbk hlk hne ⊢
  generalize hgh : w.heap.size = gh at hbh hlk hlh hne ⊢
  have HLH : Hid (w.heap.size ≤ gh) := Lib.hid (Nat.le_of_eq hgh)
  have HLK : Hid (w.heap.size ≤ gk) := Lib.hid (by omega)
  have HW := Lib.hid hbh
  have HKS := Lib.hid hbk
  have HK := Lib.hid hk0
  clear hW1 hbh hbk hk0 hgh hgk hlh hlk
  go_wp2_with fail
  refine (primes_any W1).mono ?_
  rintro e w2 ⟨⟨A, c, rfl, hc, hrd⟩, hk2⟩
  have HR := Lib.hid (hrd [gh, gk] (by
    intro x hx
    rcases List.mem_cons.1 hx with rfl | hx
    · exact HW.out.lt
    · rw [List.mem_singleton.1 hx]; exact HKS.out.lt))
  have HW2 := Lib.hid (HW.out.keep hk2 (by simp))
  have HKS2 := Lib.hid (HKS.out.keep hk2 (by simp))
  have HK2 := Lib.hid (HK.out.trans hk2)
  clear hrd hk2 HW HKS HK
  go_wp2
  go_loopw [34] (fun i wx => ∃ n : Nat, n ≤ 64 ∧ i = .int .i64 (n : Int) ∧ Hid (Keeps [gh, gk] w2 wx) ∧ Hid (Keeps [] w wx) ∧ ∃ f g : Nat → Int, Hid (Blk wx gh 25 (wcells 8 f)) ∧ Hid (Blk wx gk 31 (wcells 64 g)) ∧ Hid (∀ j, j < n → g j = kt j) ∧ Hid (∀ j, j < n → j < 8 → f j = h0 j)) (fun i _ => 64 - (intOf i).toNat)
  case atStart => exact ⟨0, by omega, rfl, Lib.hid (Keeps.refl _ _), HK2, _, _, HW2, HKS2, Lib.hid (fun j hj => absurd hj (by omega)), Lib.hid (fun j hj => absurd hj (by omega))⟩
  case round =>
    clear HW2 HKS2 HK2
    obtain ⟨n, hn, rfl, HQ, HK, f, g, HF, HG, HGJ, HFJ⟩ := hrel
    by_cases hlt : n < 64
    · -- BEGIN p1
      have hpl : primesL.length = 64 := prL_310
      have hn2 : n < primesL.length := by omega
      obtain ⟨b, o, rfl, hbl, hb, hcs⟩ := HR.out.open' (by omega) (by decide)
      have d0 := HQ.out.cell_of (hcs n _ (natVs_at .i64 primesL n hn2)) (by simpa using hbl)
      have hpd : primesL.getD n 0 = primesL[n] := by rw [List.getD_eq_getElem?_getD, List.getElem?_eq_getElem hn2]; rfl
      have hp3 : primesL[n] ≤ 311 := of_decide_eq_true ((List.all_eq_true.1 primes_le) _ (List.getElem_mem hn2))
      have HR3 : Hid (∀ W, Calls Tryd.prog 10 #[.int .u64 (primesL[n] : Int), .int .i64 3] W fun e w' => e = .returned (.int .u32 (kt n)) ∧ Keeps [] W w') := Lib.hid fun W => by
        refine (root_any primesL[n] 3 (.inr rfl) (by omega) W).mono ?_
        rintro e w' ⟨⟨x, hx, rfl⟩, hk⟩
        rw [← hpd] at hx
        exact ⟨by rw [k_root hlt hx, kt_nat hlt], hk⟩
      have HR2 : Hid (n < 8 → ∀ W, Calls Tryd.prog 10 #[.int .u64 (primesL[n] : Int), .int .i64 2] W fun e w' => e = .returned (.int .u32 (h0 n)) ∧ Keeps [] W w') := Lib.hid fun h8 W => by
        refine (root_any primesL[n] 2 (.inl rfl) (by omega) W).mono ?_
        rintro e w' ⟨⟨x, hx, rfl⟩, hk⟩
        rw [← hpd] at hx
        exact ⟨by rw [h_root h8 hx, h0_nat h8], hk⟩
      clear hcs hpd hpl
      generalize primesL[n] = p at *
      have hlt2 : (n : Int) < 64 := by omega
      have hp64 : IntKind.u64.wrap (p : Int) = (p : Int) := by rw [IntKind.wrap_u64]; omega
      go_wp2_with fail
      refine (HR3.out wr).mono ?_
      rintro e w5 ⟨rfl, hk5⟩
      have HG5 := Lib.hid (HG.out.keep hk5 (by simp))
      have HF5 := Lib.hid (HF.out.keep hk5 (by simp))
      have c1 : w5.cell? ⟨gk, n, none⟩ = some (.int .u32 (g n)) := (HG5.out.cell n).trans (wcells_at 64 g n hlt)
      have c2 := HG5.out.frozen n
      have c3 := HG5.out.lt
      have HQ5 := Lib.hid (HQ.out.trans hk5.of_nil)
      have HK5 := Lib.hid (HK.out.trans hk5)
      clear hk5 d0 HQ HK HF HG HR3
      have HG6 := Lib.hid (HG5.out.word n (kt n))
      have HF6 := Lib.hid (HF5.out.far (p := ⟨gk, n, none⟩) hne (.int .u32 (kt n)))
      have HQ6 := Lib.hid (HQ5.out.setCell (p := ⟨gk, n, none⟩) (.inl (by simp)) (.int .u32 (kt n)))
      have HK6 := Lib.hid (HK5.out.setCell (p := ⟨gk, n, none⟩) (.inr HLK.out) (.int .u32 (kt n)))
      have HGJ2 := Lib.hid (upd_at (v := kt n) HGJ.out rfl)
      by_cases h8 : n < 8
      · have h82 : (n : Int) < 8 := by omega
        have HR2' := Lib.hid (HR2.out h8)
        go_wp2_with fail
        clear c1 c2 c3
        obtain ⟨w6, hw6⟩ : ∃ x, w5.setCell ⟨gk, n, none⟩ (.int .u32 (kt n)) = x := ⟨_, rfl⟩
        rw [hw6] at HG6 HF6 HQ6 HK6 ⊢
        refine (HR2'.out w6).mono ?_
        rintro e w7 ⟨rfl, hk7⟩
        have HG7 := Lib.hid (HG6.out.keep hk7 (by simp))
        have HF7 := Lib.hid (HF6.out.keep hk7 (by simp))
        have c1 : w7.cell? ⟨gh, n, none⟩ = some (.int .u32 (f n)) := (HF7.out.cell n).trans (wcells_at 8 f n h8)
        have c2 := HF7.out.frozen n
        have c3 := HF7.out.lt
        have HQ7 := Lib.hid (HQ6.out.trans hk7.of_nil)
        have HK7 := Lib.hid (HK6.out.trans hk7)
        clear hk7
        go_wp2
        go_roundw
        case rel => exact ⟨n + 1, by omega, by go_num, Lib.hid (HQ7.out.setCell (.inl (by simp)) _), Lib.hid (HK7.out.setCell (.inr HLH.out) _), _, _, Lib.hid (HF7.out.word n (h0 n)), Lib.hid (HG7.out.far (p := ⟨gh, n, none⟩) (Ne.symm hne) _), HGJ2, Lib.hid (fun j hj hj8 => upd_at (F := h0) (k := n) (fun j hj => HFJ.out j hj (by omega)) rfl j hj)⟩
        case measure => simp [intOf]; omega
      · have h82 : ¬ (n : Int) < 8 := by omega
        go_wp2
        go_roundw
        case rel => exact ⟨n + 1, by omega, by go_num, HQ6, HK6, _, _, HF6, HG6, HGJ2, Lib.hid (fun j hj hj8 => HFJ.out j (by omega) hj8)⟩
        case measure => simp [intOf]; omega
      -- END p1
    · obtain rfl : n = 64 := by omega
      have hSI : SI w wr gh gk h0 := ⟨HK.out, HF.out.congr (wcells_congr fun j hj => HFJ.out j (by omega) hj), HG.out.congr (wcells_congr HGJ.out), HLH.out, HLK.out⟩
      have HSI := Lib.hid hSI
      clear hSI HQ HK HF HG HGJ HFJ HLH HLK HR
      obtain ⟨w2', hw2'⟩ : ∃ w2' : World, w2' = wr := ⟨_, rfl⟩
      subst hw2'
      have hzc := zc_lt s.length
      have hz : zc s.length = (119 - s.length % 64) % 64 := rfl
      have hb0 : ¬ (9223372036854775807 : Int) < (s.length : Int) + 1 := by omega
      go_wp2
      go_loopw [8] (fun v wx => ∃ q : Nat, q ≤ zc s.length ∧ v = .string (bs (s ++ [128] ++ List.replicate q 0)) ∧ Hid (SI w wx gh gk h0)) (fun v _ => zc s.length + s.length + 1 - lenS v)
      case atStart => exact ⟨0, Nat.zero_le _, by rw [List.replicate_zero, List.append_nil], HSI⟩
      case round =>
        clear HSI
        obtain ⟨q, hq, rfl, HSI⟩ := hrel
        obtain ⟨X, hX⟩ : ∃ X : Bs, s ++ [128] ++ List.replicate q 0 = X := ⟨_, rfl⟩
        have hXl : X.length = s.length + 1 + q := by rw [← hX]; simp; omega
        obtain ⟨r, hr⟩ : ∃ r, X.length % 64 = r := ⟨_, rfl⟩
        have ht : (X.length : Int).tmod 64 = (r : Int) := by rw [← hr]; rfl
        rw [hX]
        have HX := Lib.hid hX
        have HXL := Lib.hid hXl
        by_cases he : q = zc s.length
        · have hb : ((r : Int) != 56) = false := by simp; omega
          have HE := Lib.hid he
          obtain ⟨n8, hn8⟩ : ∃ n8 : Nat, s.length * 8 = n8 := ⟨_, rfl⟩
          have hn82 : (s.length : Int) * 8 = (n8 : Int) := by omega
          have hw0 : IntKind.u64.wrap (s.length : Int) = (s.length : Int) := by rw [IntKind.wrap_u64]; omega
          have hw1 : IntKind.u64.wrap (n8 : Int) = (n8 : Int) := by rw [IntKind.wrap_u64]; omega
          have HN8 := Lib.hid hn8
          have hXb : X.length ≤ 500 := by omega
          clear hX hXl he hr hn8 hzc hz
          go_wp2
          clear ht hb
          go_loopw [8, 9] (fun v i wx => ∃ k : Nat, k ≤ 8 ∧ v = .string (bs (X ++ (lenBs n8).take k)) ∧ i = .int .i64 (56 - 8 * (k : Int)) ∧ Hid (SI w wx gh gk h0)) (fun _ i _ => (intOf i + 8).toNat)
          case atStart => exact ⟨0, by omega, by rw [List.take_zero, List.append_nil], rfl, HSI⟩
          case round =>
            clear HSI
            obtain ⟨k, hk, rfl, rfl, HSI⟩ := hrel
            by_cases hk8 : k < 8
            · -- BEGIN p3
              obtain ⟨pp, hp7⟩ : ∃ p, p + k = 7 := ⟨7 - k, by omega⟩
              obtain ⟨e, he⟩ : ∃ e, 8 * pp = e := ⟨_, rfl⟩
              have e1 : (56 : Int) - 8 * (k : Int) = (e : Int) := by omega
              have e4 : ¬ (e : Int) < 0 := by omega
              have e6 : (0 : Int) ≤ (e : Int) := by omega
              have e5 : (e : Int) ≤ 64 := by omega
              have e7 : IntKind.i64.wrap ((e : Int) - 8) = (e : Int) - 8 := IntWalk.i64_in _ (by omega)
              have e8 : (e : Int) - 8 = 56 - 8 * ((k + 1 : Nat) : Int) := by omega
              have HE8 := Lib.hid e8
              rw [e1]
              have hnx : X ++ (lenBs n8).take (k + 1) = X ++ (lenBs n8).take k ++ [UInt8.ofNat (n8 / 2 ^ e)] := by
                rw [lenBs_succ n8 k pp e hp7 he, ← List.append_assoc]
              have hby : (n8 : Int) / 2 ^ e % 256 = ((UInt8.ofNat (n8 / 2 ^ e)).toNat : Int) := byte_of n8 e
              have HNX := Lib.hid hnx
              have hYl : (X ++ (lenBs n8).take k).length ≤ 508 := by
                have := lenBs_length n8
                simp only [List.length_append, List.length_take]; omega
              have hcv : ∀ (W : World) (g : Nat), W.cell? ⟨g, 0, none⟩ = some (.int .u8 ((n8 : Int) / 2 ^ e % 256)) → (convert 26 9 (.slice (some ⟨g, 0, none⟩) 1 1)).run Tryd.prog W = .ok (.string (bs [UInt8.ofNat (n8 / 2 ^ e)])) W := fun W g h0 =>
                run_convert_bytes_back (P := Tryd.prog) W 26 9 5 ⟨g, 0, none⟩ 1 [UInt8.ofNat (n8 / 2 ^ e)] Tryd.underlying26 Tryd.underlying5 Tryd.underlying9 (fun j hj => by
                  rcases j with _ | j
                  · rw [add_at]; exact h0.trans (by rw [hby]; rfl)
                  · simp at hj)
              obtain ⟨Y, hY⟩ : ∃ Y : Bs, X ++ (lenBs n8).take k = Y := ⟨_, rfl⟩
              rw [hY] at hYl HNX ⊢
              have hb1 : ¬ (9223372036854775807 : Int) < (Y.length : Int) + 1 := by omega
              clear hnx hby hp7 he e8 e1 hY
              go_wp2
              go_roundw
              case rel => exact ⟨k + 1, by omega, by rw [HNX.out], by rw [HE8.out], Lib.hid (HSI.out.quiet ((Keeps.refl _ _).alloc _))⟩
              case measure =>
                show ((e : Int) - 8 + 8).toNat < ((e : Int) + 8).toNat
                omega
              -- END p3
            · obtain rfl : k = 8 := by omega
              rw [List.take_of_length_le (by rw [lenBs_length]; exact Nat.le_refl _)]
              rw [show (56 : Int) - 8 * ((8 : Nat) : Int) = -8 by omega]
              obtain ⟨P, hP⟩ : ∃ P : Bs, X ++ lenBs n8 = P := ⟨_, rfl⟩
              have hPl : P.length = X.length + 8 := by rw [← hP, List.length_append, lenBs_length]
              have hPd : P = padL s := by
                rw [← hP, ← HX.out, HE.out, ← HN8.out]
                unfold padL
                simp only [List.append_assoc]
              rw [hP]
              have hPm : P.length % 64 = 0 ∧ P.length ≤ 508 := by
                have h1 := HXL.out
                have h2 := HE.out
                have h3 : zc s.length = (119 - s.length % 64) % 64 := rfl
                omega
              have HPD := Lib.hid hPd
              have HPM := Lib.hid hPm
              clear hPl hPd hPm hP hn82 hw0 hw1
              go_wp2
              have hP0 : P.drop (64 * 0) = P := rfl
              go_loopw [8] (fun v wx => ∃ k : Nat, 64 * k ≤ P.length ∧ v = .string (bs (P.drop (64 * k))) ∧ Hid (SI w wx gh gk (shaSt P k))) (fun v _ => lenS v)
              case atStart => exact ⟨0, Nat.zero_le _, rfl, HSI⟩
              case round =>
                clear HSI hP0
                obtain ⟨k, hk, rfl, HSI⟩ := hrel
                obtain ⟨c, hc⟩ : ∃ c, 64 * k = c := ⟨_, rfl⟩
                rw [hc]
                by_cases hlt : c < P.length
                · have hmm := HPM.out
                  obtain ⟨x, tl, hZ⟩ : ∃ x tl, P.drop c = x :: tl := by
                    cases h : P.drop c with
                    | nil => rw [List.drop_eq_nil_iff] at h; omega
                    | cons x tl => exact ⟨x, tl, rfl⟩
                  have HC := Lib.hid hc
                  have HLT := Lib.hid hlt
                  rw [hZ]
                  have HZ := Lib.hid hZ
                  clear hmm hc hlt hk hZ
                  go_upto_region 21 with (fail)
                  change Code.wp _ _ _ _ (wr.alloc (.cells (wcells 64 fun _ => 0) 31))
                  obtain ⟨M, hM⟩ : ∃ M : Bs, (P.drop c).take 64 = M := ⟨_, rfl⟩
                  have HMB : Hid (∀ i, i < 64 → byteAt (x :: tl) i = byteAt M i) := Lib.hid (fun i hi => by rw [← hM, byteAt_take _ hi, HZ.out])
                  have hZl : (x :: tl).length = P.length - c := by rw [← HZ.out, List.length_drop]
                  have hZ64 : 64 ≤ (x :: tl).length := by
                    have h1 := HPM.out
                    have h2 := HLT.out
                    have h3 := HC.out
                    omega
                  have hZ500 : (x :: tl).length ≤ 508 := by
                    have h1 := HPM.out
                    omega
                  have HML : Hid (M.length = 64) := Lib.hid (by rw [← hM, List.length_take, HZ.out]; omega)
                  have HM := Lib.hid hM
                  have HZL := Lib.hid hZl
                  obtain ⟨H, hH⟩ : ∃ H, shaSt P k = H := ⟨_, rfl⟩
                  have HHS : Hid (shaSt P (k + 1) = blockF M H) := Lib.hid (by
                    show blockF ((P.drop (64 * k)).take 64) (shaSt P k) = _
                    rw [HC.out, hM, hH])
                  have HHW : Hid (∀ j, j < 8 → W32 (H j)) := Lib.hid (by rw [← hH]; exact w32_sha P k)
                  rw [hH] at HSI
                  clear hM hZl hH
                  obtain ⟨Z, hZ⟩ : ∃ Z, x :: tl = Z := ⟨_, rfl⟩
                  have HXZ := Lib.hid hZ
                  rw [hZ] at HZ HMB HZL hZ64 hZ500 ⊢
                  clear hZ
                  have hbw := Blk.new wr 31 (wcells 64 fun _ => 0)
                  have hsi2 := HSI.out.quiet ((Keeps.refl _ wr).alloc (.cells (wcells 64 fun _ => 0) 31))
                  obtain ⟨wa, hwa⟩ : ∃ x, wr.alloc (.cells (wcells 64 fun _ => 0) 31) = x := ⟨_, rfl⟩
                  have HGW : Hid (gh ≠ wr.heap.size ∧ gk ≠ wr.heap.size ∧ w.heap.size ≤ wr.heap.size) := Lib.hid ⟨by have := HSI.out.bh.lt; omega, by have := HSI.out.bk.lt; omega, HSI.out.keeps.size⟩
                  rw [hwa] at hbw hsi2 ⊢
                  generalize hgw : wr.heap.size = gw at hbw HGW ⊢
                  have HBW := Lib.hid hbw
                  have HSI2 := Lib.hid hsi2
                  clear hbw hsi2 hwa hgw HSI
                  go_wp2_with fail
                  go_loopw [79] (fun i wx => ∃ t : Nat, t ≤ 64 ∧ i = .int .i64 (t : Int) ∧ Hid (SI w wx gh gk H) ∧ ∃ f, Hid (Blk wx gw 31 (wcells 64 f)) ∧ Hid (∀ j, j < t → f j = sched M j) ∧ Hid (∀ j, t ≤ j → f j = 0)) (fun i _ => 64 - (intOf i).toNat)
                  case atStart => exact ⟨0, by omega, rfl, HSI2, _, HBW, Lib.hid (fun j hj => absurd hj (by omega)), Lib.hid (fun j _ => rfl)⟩
                  case round =>
                    clear HSI2 HBW
                    obtain ⟨t, ht, rfl, HSI, f, HF, HFS, HFZ⟩ := hrel
                    by_cases ht64 : t < 64
                    · have ht642 : (t : Int) < 64 := by omega
                      by_cases ht16 : t < 16
                      · -- BEGIN p5
                        obtain ⟨q, hq⟩ : ∃ q, 4 * t = q := ⟨_, rfl⟩
                        have ht162 : (t : Int) < 16 := by omega
                        have hq2 : (4 : Int) * (t : Int) = (q : Int) := by omega
                        have v0 : IntKind.i64.wrap (q : Int) = (q : Int) := IntWalk.i64_in _ (by omega)
                        have v4 : IntKind.i64.wrap ((q : Int) + 4) = (q : Int) + 4 := IntWalk.i64_in _ (by omega)
                        have b1 : (0 : Int) ≤ (q : Int) + 4 := by omega
                        have b2 : (q : Int) ≤ (q : Int) + 4 := by omega
                        have b3 : (q : Int) + 4 ≤ (Z.length : Int) := by omega
                        have b4 : ((q : Int) + 4).toNat = q + 4 := by omega
                        obtain ⟨S4, hS4⟩ : ∃ S4, (Z.take (q + 4)).drop q = S4 := ⟨_, rfl⟩
                        have hSl : S4.length = 4 := by rw [← hS4, List.length_drop, List.length_take]; omega
                        have HSB : Hid (∀ j (hj : j < S4.length), (S4[j].toNat : Int) = byteAt M (4 * t + j)) := Lib.hid (fun j hj => by
                          rw [← HMB.out (4 * t + j) (by omega)]
                          unfold byteAt
                          rw [List.getD_eq_getElem?_getD, List.getElem?_eq_getElem (show 4 * t + j < Z.length by omega), Option.getD_some]
                          subst hS4
                          simp only [List.getElem_drop, List.getElem_take, hq])
                        have hcv : ∀ W, (convert 9 26 (.string (bs S4))).run Tryd.prog W = .ok (.slice (some ⟨W.heap.size, 0, none⟩) (bs S4).size (grownCap W (bs S4).size 0 5)) (Lib.bytesWorld W 5 (bs S4)) :=
                          fun W => Lib.run_convert_string_bytes W _ _ _ _ Tryd.underlying9 Tryd.underlying26 Tryd.underlying5
                        have hcm := conv_came wr 5 S4
                        have hck := conv_keeps wr 5 S4
                        have HGB : Hid (gw ≠ wr.heap.size) := Lib.hid (by have := HF.out.lt; omega)
                        have HSL := Lib.hid hSl
                        clear hq
                        go_wp2_with fail
                        clear v0 v4 b1 b2 b3 b4 hS4 hcv hq2
                        generalize grownCap wr S4.length 0 5 = cap4 at *
                        obtain ⟨wb, hwb⟩ : ∃ x, Lib.bytesWorld wr 5 (bs S4) = x := ⟨_, rfl⟩
                        rw [hwb] at hcm hck ⊢
                        have HBB : Hid (∀ j, j < 4 → wb.cell? ⟨wr.heap.size, j, none⟩ = some (.int .u8 (byteAt M (4 * t + j)))) := Lib.hid (fun j hj => by
                          have := hcm.olds j _ (byteVs_at S4 j (by omega))
                          rw [Nat.zero_add, HSB.out j (by omega)] at this
                          exact this)
                        have HGL : Hid (wr.heap.size < wb.heap.size) := Lib.hid (World.block_lt_of_cell? _ _ (HBB.out 0 (by omega)))
                        have HSIb := Lib.hid (HSI.out.quiet hck)
                        have HFb : Hid (Blk wb gw 31 (wcells 64 (upd f t (pw M t 0)))) := Lib.hid ((HF.out.keep hck (by simp)).congr (wcells_congr fun j _ => by
                          unfold upd
                          by_cases e : j = t
                          · rw [if_pos e, e, HFZ.out t (Nat.le_refl _)]; rfl
                          · rw [if_neg e]))
                        generalize wr.heap.size = gb at *
                        clear hcm hck hwb HSI HF HSB
                        go_loopw [93] (fun i wx => ∃ j : Nat, j ≤ 4 ∧ i = .int .i64 (j : Int) ∧ Hid (Keeps [gw] wb wx) ∧ Hid (SI w wx gh gk H) ∧ Hid (Blk wx gw 31 (wcells 64 (upd f t (pw M t j))))) (fun i _ => 4 - (intOf i).toNat)
                        case atStart => exact ⟨0, by omega, rfl, Lib.hid (Keeps.refl _ _), HSIb, HFb⟩
                        case round =>
                          clear HSIb HFb
                          obtain ⟨j, hj, rfl, HKj, HSI, HF⟩ := hrel
                          by_cases hj4 : j < 4
                          · have hj42 : (j : Int) < 4 := by omega
                            have d0 := HKj.out.cell_of (HBB.out j hj4) (by simp only [List.mem_singleton]; exact Ne.symm HGB.out)
                            have c1 : wr.cell? ⟨gw, t, none⟩ = some (.int .u32 (pw M t j)) := (HF.out.cell t).trans ((wcells_at 64 _ t (by omega)).trans (by unfold upd; rw [if_pos rfl]))
                            have c2 := HF.out.frozen t
                            have c3 := HF.out.lt
                            have hgb2 : gb < wr.heap.size := Nat.lt_of_lt_of_le HGL.out HKj.out.size
                            have hPW : pw M t (j + 1) = (pw M t j * 256 + byteAt M (4 * t + j)) % 4294967296 := rfl
                            have HPW := Lib.hid hPW
                            have hbb := byteAt_ok M (4 * t + j)
                            clear hPW
                            generalize byteAt M (4 * t + j) = bj at *
                            generalize pw M t j = pj at *
                            have u1 : bj % 4294967296 = bj := by omega
                            go_wp2
                            go_roundw
                            case rel => exact ⟨j + 1, by omega, by go_num, Lib.hid (HKj.out.setCell (.inl (by simp)) _), Lib.hid (HSI.out.far HGW.out.1 HGW.out.2.1 HGW.out.2.2 _), by
                              rw [HPW.out]
                              refine Lib.hid ((HF.out.word t _).congr (wcells_congr fun i _ => ?_))
                              unfold upd
                              by_cases e : i = t
                              · rw [if_pos e, if_pos e]
                                omega
                              · rw [if_neg e, if_neg e, if_neg e]⟩
                            case measure => simp [intOf]; omega
                          · obtain rfl : j = 4 := by omega
                            rw [pw_four, ← sched_lo M t ht16] at HF
                            go_wp2
                            go_roundw
                            case rel => exact ⟨t + 1, by omega, by go_num, HSI, _, HF, Lib.hid (upd_at HFS.out rfl), Lib.hid (fun j hj => by unfold upd; rw [if_neg (by omega)]; exact HFZ.out j (by omega))⟩
                            case measure => simp [intOf]; omega
                        -- END p5
                      · -- BEGIN p6
                        have ht162 : ¬ (t : Int) < 16 := by omega
                        obtain ⟨a16, h16⟩ : ∃ a, a + 16 = t := ⟨t - 16, by omega⟩
                        obtain ⟨a15, h15⟩ : ∃ a, a + 15 = t := ⟨t - 15, by omega⟩
                        obtain ⟨a7, h7⟩ : ∃ a, a + 7 = t := ⟨t - 7, by omega⟩
                        obtain ⟨a2, h2⟩ : ∃ a, a + 2 = t := ⟨t - 2, by omega⟩
                        have HE := Lib.hid (sched_ref (M := M) (by omega) h16 h15 h7 h2)
                        have f2 : f a2 = sched M a2 := HFS.out a2 (by omega)
                        have f15 : f a15 = sched M a15 := HFS.out a15 (by omega)
                        have f7 : f a7 = sched M a7 := HFS.out a7 (by omega)
                        have f16 : f a16 = sched M a16 := HFS.out a16 (by omega)
                        have HW2 := Lib.hid (w32_sched M a2)
                        have HW15 := Lib.hid (w32_sched M a15)
                        have c2 : wr.cell? ⟨gw, a2, none⟩ = some (.int .u32 (sched M a2)) := (HF.out.cell a2).trans (by rw [← f2]; exact wcells_at 64 f a2 (by omega))
                        have c15 : wr.cell? ⟨gw, a15, none⟩ = some (.int .u32 (sched M a15)) := (HF.out.cell a15).trans (by rw [← f15]; exact wcells_at 64 f a15 (by omega))
                        have HC7 : Hid (wr.cell? ⟨gw, a7, none⟩ = some (.int .u32 (sched M a7))) := Lib.hid ((HF.out.cell a7).trans (by rw [← f7]; exact wcells_at 64 f a7 (by omega)))
                        have HC16 : Hid (wr.cell? ⟨gw, a16, none⟩ = some (.int .u32 (sched M a16))) := Lib.hid ((HF.out.cell a16).trans (by rw [← f16]; exact wcells_at 64 f a16 (by omega)))
                        have e16 : (t : Int) - 16 = (a16 : Int) := by omega
                        have e15 : (t : Int) - 15 = (a15 : Int) := by omega
                        have e7 : (t : Int) - 7 = (a7 : Int) := by omega
                        have e2 : (t : Int) - 2 = (a2 : Int) := by omega
                        have w16 : IntKind.i64.wrap (a16 : Int) = (a16 : Int) := IntWalk.i64_in _ (by omega)
                        have w15 : IntKind.i64.wrap (a15 : Int) = (a15 : Int) := IntWalk.i64_in _ (by omega)
                        have w7 : IntKind.i64.wrap (a7 : Int) = (a7 : Int) := IntWalk.i64_in _ (by omega)
                        have w2 : IntKind.i64.wrap (a2 : Int) = (a2 : Int) := IntWalk.i64_in _ (by omega)
                        have b16 : (a16 : Int) < 64 := by omega
                        have b15 : (a15 : Int) < 64 := by omega
                        have b7 : (a7 : Int) < 64 := by omega
                        have b2 : (a2 : Int) < 64 := by omega
                        have hgl := HF.out.lt
                        have HN7 : Hid ((⟨gw, t, none⟩ : Addr) ≠ ⟨gw, a7, none⟩) := Lib.hid (by simp <;> omega)
                        have HN16 : Hid ((⟨gw, t, none⟩ : Addr) ≠ ⟨gw, a16, none⟩) := Lib.hid (by simp <;> omega)
                        clear h16 h15 h7 h2 f2 f15 f7 f16
                        go_wp2_with fail
                        go_quiet (fail)
                        have HSI2 : Hid (SI w (wr.drewN nq) gh gk H) := Lib.hid (HSI.out.quiet ((Keeps.refl _ _).drewN _))
                        have HF2 : Hid (Blk (wr.drewN nq) gw 31 (wcells 64 f)) := Lib.hid (HF.out.drewN nq)
                        have k7 : (wr.drewN nq).cell? ⟨gw, a7, none⟩ = some (.int .u32 (sched M a7)) := HC7.out
                        have k16 : (wr.drewN nq).cell? ⟨gw, a16, none⟩ = some (.int .u32 (sched M a16)) := HC16.out
                        have kt1 : (wr.drewN nq).cell? ⟨gw, t, none⟩ = some (.int .u32 (f t)) := (HF2.out.cell t).trans (wcells_at 64 f t ht64)
                        have kf := HF2.out.frozen t
                        have kl := HF2.out.lt
                        clear c2 c15 HSI HF HC7 HC16 hgl
                        generalize wr.drewN nq = wr2 at *
                        generalize sched M a2 = x2 at *
                        generalize sched M a15 = x15 at *
                        generalize sched M a7 = x7 at *
                        generalize sched M a16 = x16 at *
                        have HA1 : Hid (∀ W, Calls Tryd.prog 11 #[.int .u32 x2, .int .i64 17] W fun e w' => e = .returned (.int .u32 (rotI x2 17)) ∧ ∃ m, w' = W.drewN m) := Lib.hid (fun W => rrot_any x2 HW2.out 17 (by decide) (by decide) W)
                        have HA2 : Hid (∀ W, Calls Tryd.prog 11 #[.int .u32 x2, .int .i64 19] W fun e w' => e = .returned (.int .u32 (rotI x2 19)) ∧ ∃ m, w' = W.drewN m) := Lib.hid (fun W => rrot_any x2 HW2.out 19 (by decide) (by decide) W)
                        have HA3 : Hid (∀ W, Calls Tryd.prog 11 #[.int .u32 x15, .int .i64 7] W fun e w' => e = .returned (.int .u32 (rotI x15 7)) ∧ ∃ m, w' = W.drewN m) := Lib.hid (fun W => rrot_any x15 HW15.out 7 (by decide) (by decide) W)
                        have HA4 : Hid (∀ W, Calls Tryd.prog 11 #[.int .u32 x15, .int .i64 18] W fun e w' => e = .returned (.int .u32 (rotI x15 18)) ∧ ∃ m, w' = W.drewN m) := Lib.hid (fun W => rrot_any x15 HW15.out 18 (by decide) (by decide) W)
                        go_wp2_with fail
                        go_region_held3 (fun w' => w'.cell? ⟨gw, a7, none⟩ = some (.int .u32 x7) ∧ w'.cell? ⟨gw, a16, none⟩ = some (.int .u32 x16)) (first | exact ⟨k7, k16⟩ | exact ⟨cell_far' HN7.out k7, cell_far' HN16.out k16⟩ | go_keep) (first | ((with_reducible refine (HA1.out _).mono ?_); rintro e w5 ⟨rfl, m, rfl⟩) | ((with_reducible refine (HA2.out _).mono ?_); rintro e w5 ⟨rfl, m, rfl⟩) | ((with_reducible refine (HA3.out _).mono ?_); rintro e w5 ⟨rfl, m, rfl⟩) | ((with_reducible refine (HA4.out _).mono ?_); rintro e w5 ⟨rfl, m, rfl⟩))
                        all_goals go_wp2
                        all_goals go_roundw
                        case rel => exact ⟨t + 1, by omega, by go_num, Lib.hid ((HSI2.out.quiet ((Keeps.refl _ _).drewN _)).far HGW.out.1 HGW.out.2.1 HGW.out.2.2 _), _, Lib.hid ((HF2.out.drewN _).word t _), Lib.hid (upd_at HFS.out (by
                          have h := HE.out
                          unfold s0 s1 at h
                          rw [← h]
                          try simp only [IntKind.wrap_u32']
                          omega)), Lib.hid (fun j hj => by unfold upd; rw [if_neg (by omega)]; exact HFZ.out j (by omega))⟩
                        case measure => simp [intOf]; omega
                        -- END p6
                    · obtain rfl : t = 64 := by omega
                      have HFW : Hid (∀ j, j < 64 → f j = sched M j) := HFS
                      have u0 : wr.cell? ⟨gh, 0, none⟩ = some (.int .u32 (H 0)) := (HSI.out.bh.cell 0).trans (wcells_at 8 H 0 (by decide))
                      have u1 : wr.cell? ⟨gh, 1, none⟩ = some (.int .u32 (H 1)) := (HSI.out.bh.cell 1).trans (wcells_at 8 H 1 (by decide))
                      have u2 : wr.cell? ⟨gh, 2, none⟩ = some (.int .u32 (H 2)) := (HSI.out.bh.cell 2).trans (wcells_at 8 H 2 (by decide))
                      have u3 : wr.cell? ⟨gh, 3, none⟩ = some (.int .u32 (H 3)) := (HSI.out.bh.cell 3).trans (wcells_at 8 H 3 (by decide))
                      have u4 : wr.cell? ⟨gh, 4, none⟩ = some (.int .u32 (H 4)) := (HSI.out.bh.cell 4).trans (wcells_at 8 H 4 (by decide))
                      have u5 : wr.cell? ⟨gh, 5, none⟩ = some (.int .u32 (H 5)) := (HSI.out.bh.cell 5).trans (wcells_at 8 H 5 (by decide))
                      have u6 : wr.cell? ⟨gh, 6, none⟩ = some (.int .u32 (H 6)) := (HSI.out.bh.cell 6).trans (wcells_at 8 H 6 (by decide))
                      have u7 : wr.cell? ⟨gh, 7, none⟩ = some (.int .u32 (H 7)) := (HSI.out.bh.cell 7).trans (wcells_at 8 H 7 (by decide))
                      have ul := HSI.out.bh.lt
                      go_wp2_with fail
                      go_quiet (fail)
                      have HSI3 := Lib.hid (HSI.out.quiet ((Keeps.refl _ _).drewN nq))
                      have HF3 := Lib.hid (HF.out.drewN nq)
                      clear u0 u1 u2 u3 u4 u5 u6 u7 ul HSI HF HFS HFZ
                      generalize wr.drewN nq = wr3 at HSI3 HF3 ⊢
                      go_wp2_with fail
                      go_loopw [16, 17, 18, 19, 20, 21, 22, 23, 165] (fun v0 v1 v2 v3 v4 v5 v6 v7 i wx => ∃ n : Nat, n ≤ 64 ∧ i = .int .i64 (n : Int) ∧ v0 = .int .u32 (rounds8 M H n 0) ∧ v1 = .int .u32 (rounds8 M H n 1) ∧ v2 = .int .u32 (rounds8 M H n 2) ∧ v3 = .int .u32 (rounds8 M H n 3) ∧ v4 = .int .u32 (rounds8 M H n 4) ∧ v5 = .int .u32 (rounds8 M H n 5) ∧ v6 = .int .u32 (rounds8 M H n 6) ∧ v7 = .int .u32 (rounds8 M H n 7) ∧ Hid (SI w wx gh gk H) ∧ Hid (Blk wx gw 31 (wcells 64 f))) (fun _ _ _ _ _ _ _ _ i _ => 64 - (intOf i).toNat)
                      case atStart => exact ⟨0, by omega, rfl, rfl, rfl, rfl, rfl, rfl, rfl, rfl, rfl, HSI3, HF3⟩
                      case round =>
                        clear HSI3 HF3
                        obtain ⟨n, hn, rfl, rfl, rfl, rfl, rfl, rfl, rfl, rfl, rfl, HSI, HF⟩ := hrel
                        by_cases hn64 : n < 64
                        · -- BEGIN p7
                          have hn642 : (n : Int) < 64 := by omega
                          have HE : Hid (rounds8 M H (n + 1) = rnd (rounds8 M H n) (kt n) (sched M n)) := Lib.hid rfl
                          have HV := Lib.hid (w32_rounds (M := M) HHW.out n)
                          have hf := HFW.out n hn64
                          have ck : wr.cell? ⟨gk, n, none⟩ = some (.int .u32 (kt n)) := (HSI.out.bk.cell n).trans (wcells_at 64 kt n hn64)
                          have cw : wr.cell? ⟨gw, n, none⟩ = some (.int .u32 (sched M n)) := (HF.out.cell n).trans (by rw [← hf]; exact wcells_at 64 f n hn64)
                          have lk := HSI.out.bk.lt
                          have lw := HF.out.lt
                          clear hf
                          generalize rounds8 M H n = V at *
                          generalize sched M n = W at *
                          generalize kt n = K at *
                          have HR := Lib.hid (rnd_ref HV.out K W)
                          have HV4 := Lib.hid (HV.out 4 (by decide))
                          have HV0 := Lib.hid (HV.out 0 (by decide))
                          go_wp2_with fail
                          go_quiet ((go_at_call 11; exact Calls.quiet_of (rrot_any _ HV4.out _ (by decide) (by decide) _)))
                          have HSI4 := Lib.hid (HSI.out.quiet ((Keeps.refl _ _).drewN nq))
                          have HF4 := Lib.hid (HF.out.drewN nq)
                          clear ck cw lk lw HSI HF
                          generalize wr.drewN nq = wr4 at HSI4 HF4 ⊢
                          go_wp2_with (go_at_call 11; refine (rrot_any _ HV0.out _ (by decide) (by decide) _).mono ?_; rintro e w5 ⟨rfl, m, rfl⟩)
                          go_roundw
                          case rel =>
                            repeat apply Exists.intro
                            refine ⟨?_, rfl⟩
                            refine ⟨n + 1, by omega, by go_num, ?_, by rw [HE.out]; rfl, by rw [HE.out]; rfl, by rw [HE.out]; rfl, ?_, by rw [HE.out]; rfl, by rw [HE.out]; rfl, by rw [HE.out]; rfl, Lib.hid (HSI4.out.quiet ((Keeps.refl _ _).drewN _)), Lib.hid (HF4.out.drewN _)⟩
                            · rw [HE.out, ← HR.out.1]
                              unfold e1 e0
                              congr 1
                              omega
                            · rw [HE.out, ← HR.out.2]
                              unfold e1
                              congr 1
                              omega
                          case measure => simp [intOf]; omega
                          -- END p7
                        · obtain rfl : n = 64 := by omega
                          have HBF : Hid (∀ j, blockF M H j = (H j + rounds8 M H 64 j) % 4294967296) := Lib.hid (fun _ => rfl)
                          generalize rounds8 M H 64 = V at *
                          go_wp2_with fail
                          go_loopw [240] (fun i wx => ∃ j : Nat, j ≤ 8 ∧ i = .int .i64 (j : Int) ∧ ∃ G : Nat → Int, Hid (SI w wx gh gk G) ∧ Hid (∀ q, q < j → G q = blockF M H q) ∧ Hid (∀ q, j ≤ q → G q = H q)) (fun i _ => 8 - (intOf i).toNat)
                          case atStart => exact ⟨0, by decide, rfl, H, HSI, Lib.hid (fun q hq => absurd hq (by omega)), Lib.hid (fun _ _ => rfl)⟩
                          case round =>
                            clear HSI HF
                            obtain ⟨j, hj, rfl, G, HSI, HG1, HG2⟩ := hrel
                            by_cases hj8 : j < 8
                            · -- BEGIN p8
                              have hj82 : (j : Int) < 8 := by omega
                              have xj := idx8 V j hj8
                              have y1 : wr.cell? ⟨gh, j, none⟩ = some (.int .u32 (H j)) := by
                                rw [← HG2.out j (Nat.le_refl _)]
                                exact (HSI.out.bh.cell j).trans (wcells_at 8 G j hj8)
                              have y2 := HSI.out.bh.frozen j
                              have y3 := HSI.out.bh.lt
                              have HBJ := Lib.hid (HBF.out j)
                              go_wp2
                              go_roundw
                              case rel => exact ⟨j + 1, by omega, by go_num, _, Lib.hid (HSI.out.setH j _), Lib.hid (upd_at HG1.out (by rw [HBJ.out])), Lib.hid (fun q hq => by unfold upd; rw [if_neg (by omega)]; exact HG2.out q (by omega))⟩
                              case measure => simp [intOf]; omega
                              -- END p8
                            · obtain rfl : j = 8 := by omega
                              have HSI9 := Lib.hid (HSI.out.congr (H' := shaSt P (k + 1)) (fun q hq => by rw [HHS.out]; exact HG1.out q hq))
                              have hz1 : (64 : Int) ≤ (Z.length : Int) := by omega
                              have hz2 : Z.drop 64 = P.drop (64 * (k + 1)) := by
                                rw [← HZ.out, List.drop_drop, ← HC.out, Nat.mul_succ]
                              have HZ2 := Lib.hid hz2
                              have HK1 : Hid (64 * (k + 1) ≤ P.length) := Lib.hid (by
                                have h1 := HPM.out
                                have h2 := HLT.out
                                have h3 := HC.out
                                omega)
                              clear hz2
                              go_wp2
                              go_roundw
                              case rel => exact ⟨k + 1, HK1.out, by rw [HZ2.out], HSI9⟩
                              case measure =>
                                have h1 : lenS (.string (bs (Z.drop 64))) < lenS (.string (bs Z)) := by
                                  show (bs (Z.drop 64)).size < (bs Z).size
                                  rw [bs_size, bs_size, List.length_drop]
                                  omega
                                rw [HXZ.out]
                                exact h1
                · have hnil : P.drop c = [] := by rw [List.drop_eq_nil_iff]; omega
                  have hkP : P.length / 64 = k := by
                    have := HPM.out
                    omega
                  have HKP := Lib.hid hkP
                  rw [hnil]
                  obtain ⟨H, hH⟩ : ∃ H, shaSt P k = H := ⟨_, rfl⟩
                  have HH := Lib.hid hH
                  rw [hH] at HSI
                  have u0 : wr.cell? ⟨gh, 0, none⟩ = some (.int .u32 (H 0)) := (HSI.out.bh.cell 0).trans (wcells_at 8 H 0 (by decide))
                  have u1 : wr.cell? ⟨gh, 1, none⟩ = some (.int .u32 (H 1)) := (HSI.out.bh.cell 1).trans (wcells_at 8 H 1 (by decide))
                  have u2 : wr.cell? ⟨gh, 2, none⟩ = some (.int .u32 (H 2)) := (HSI.out.bh.cell 2).trans (wcells_at 8 H 2 (by decide))
                  have u3 : wr.cell? ⟨gh, 3, none⟩ = some (.int .u32 (H 3)) := (HSI.out.bh.cell 3).trans (wcells_at 8 H 3 (by decide))
                  have u4 : wr.cell? ⟨gh, 4, none⟩ = some (.int .u32 (H 4)) := (HSI.out.bh.cell 4).trans (wcells_at 8 H 4 (by decide))
                  have u5 : wr.cell? ⟨gh, 5, none⟩ = some (.int .u32 (H 5)) := (HSI.out.bh.cell 5).trans (wcells_at 8 H 5 (by decide))
                  have u6 : wr.cell? ⟨gh, 6, none⟩ = some (.int .u32 (H 6)) := (HSI.out.bh.cell 6).trans (wcells_at 8 H 6 (by decide))
                  have u7 : wr.cell? ⟨gh, 7, none⟩ = some (.int .u32 (H 7)) := (HSI.out.bh.cell 7).trans (wcells_at 8 H 7 (by decide))
                  clear hnil hkP hH hlt hk hc
                  go_wp2_with fail
                  go_loopw [29, 252] (fun v i wx => ∃ j : Nat, j ≤ 8 ∧ i = .int .i64 (j : Int) ∧ v = .string (bs (outL H j)) ∧ Hid (Keeps [] w wx)) (fun _ i _ => 8 - (intOf i).toNat)
                  case atStart => exact ⟨0, by decide, rfl, rfl, Lib.hid HSI.out.keeps⟩
                  case round =>
                    clear u0 u1 u2 u3 u4 u5 u6 u7
                    obtain ⟨j, hj, rfl, rfl, HK⟩ := hrel
                    by_cases hj8 : j < 8
                    · -- BEGIN p9
                      have hj82 : (j : Int) < 8 := by omega
                      have xj := idx8 H j hj8
                      have HOS := Lib.hid (outL_succ H j)
                      have hol : (outL H j).length ≤ 32 := by rw [outL_length]; omega
                      generalize outL H j = O at *
                      have hob := byteVs_outB (H j)
                      generalize H j = y at *
                      have hol4 : ¬ (9223372036854775807 : Int) < (O.length : Int) + 4 := by omega
                      have hcv : ∀ (W : World) (g : Nat), W.cell? ⟨g, 0, none⟩ = some (.int .u8 (y / 16777216 % 256)) → W.cell? ⟨g, 1, none⟩ = some (.int .u8 (y / 65536 % 256)) → W.cell? ⟨g, 2, none⟩ = some (.int .u8 (y / 256 % 256)) → W.cell? ⟨g, 3, none⟩ = some (.int .u8 (y % 256)) → (convert 26 9 (.slice (some ⟨g, 0, none⟩) 4 4)).run Tryd.prog W = .ok (.string (bs (outB y))) W := fun W g z0 z1 z2 z3 =>
                        run_convert_bytes_back (P := Tryd.prog) W 26 9 5 ⟨g, 0, none⟩ 4 (outB y) Tryd.underlying26 Tryd.underlying5 Tryd.underlying9 (fun j hj => by
                          have hx := byteVs_at (outB y) j hj
                          rw [hob] at hx
                          rcases j with _ | _ | _ | _ | j
                          · rw [add_at]; exact z0.trans (by simpa using hx)
                          · rw [add_at]; exact z1.trans (by simpa using hx)
                          · rw [add_at]; exact z2.trans (by simpa using hx)
                          · rw [add_at]; exact z3.trans (by simpa using hx)
                          · simp [outB] at hj; omega)
                      have hobl : (outB y).length = 4 := rfl
                      clear hob
                      go_wp2
                      go_roundw
                      case rel => exact ⟨j + 1, by omega, by go_num, by rw [HOS.out], Lib.hid (HK.out.alloc _)⟩
                      case measure => simp [intOf]; omega
                      -- END p9
                    · obtain rfl : j = 8 := by omega
                      have hfin : outL H 8 = shaL s := by
                        unfold shaL
                        rw [← HPD.out, HKP.out, HH.out]
                      have HFIN := Lib.hid hfin
                      clear hfin
                      go_wp2
                      go_ret
                      exact ⟨by rw [HFIN.out]; rfl, HK.out⟩
        · -- BEGIN p2
          have hb : ((r : Int) != 56) = true := by simp; omega
          have hb1 : ¬ (9223372036854775807 : Int) < (X.length : Int) + 1 := by omega
          have HE : Hid (q + 1 ≤ zc s.length) := Lib.hid (by omega)
          clear hX hXl he hr hzc hz
          go_wp2
          go_roundw
          case rel => exact ⟨q + 1, HE.out, by rw [List.replicate_succ', ← List.append_assoc, HX.out], HSI⟩
          case measure =>
            have h1 := HE.out
            have h2 := HXL.out
            simp only [lenS, bs_size, List.length_append, List.length_singleton]
            omega
          -- END p2
end Go.Proofs.YtkklmogcohlbhaaDoor
