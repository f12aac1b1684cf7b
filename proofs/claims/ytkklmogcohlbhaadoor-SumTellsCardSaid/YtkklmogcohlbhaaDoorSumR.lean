/- The reference of sums: whether a power is above a number; a root. -/
import Derived.Test.YtkklmogcohlbhaaDoorSumM
import Derived.Deep.Onto
namespace Go.Proofs.YtkklmogcohlbhaaDoor
open Go.RowKit Go.BigFrame
attribute [local go_sem] bs_size bs_extract bs_append bs_toList
/-- Two long numbers of the call's own, apart. -/
def Two (wx : World) (base : Nat) (u v : Value) (U V : List Nat) : Prop := wx.ownsRow base 27 1 u U.length (natVs .u64 U) ∧ wx.ownsRow base 27 1 v V.length (natVs .u64 V) ∧ ∀ g, u.ownBlock = some g → v.ownBlock ≠ some g
theorem Two.symm {wx : World} {base : Nat} {u v : Value} {U V : List Nat} (h : Two wx base u v U V) : Two wx base v u V U := ⟨h.2.1, h.1, fun g hv hu => h.2.2 g hu hv⟩
theorem Two.keep {wx wy : World} {base : Nat} {u v : Value} {U V : List Nat} (h : Two wx base u v U V) (hk : Keeps [] wx wy) : Two wy base u v U V := ⟨own_keep h.1 hk (by simp), own_keep h.2.1 hk (by simp), h.2.2⟩
theorem Two.grow {wr w8 : World} {base g cap n x : Nat} {o : Obj} {u v : Value} {U V : List Nat} (h : Two wr base u v U V) (hown : w8.ownsRow base 27 1 (.slice (some ⟨g, 0, none⟩) n cap) n (natVs .u64 (U ++ [x]))) (hn : n = U.length + 1) (hgrow : (wr.alloc o).grownBy w8 u.ownBlock) (hat : u.ownBlock = some g ∨ g = (wr.alloc o).heap.size) : Two w8 base (.slice (some ⟨g, 0, none⟩) n cap) v (U ++ [x]) V := by
  refine ⟨by rw [List.length_append, List.length_singleton, ← hn]; exact hown, ?_, ?_⟩
  · have hk : Keeps u.ownBlock.toList (wr.alloc o) w8 := Keeps.grown (Keeps.refl _ _) hgrow (fun g hg => .inl (by rw [hg]; simp))
    refine own_keep (h.2.1.alloc _) hk (fun g hg hm => ?_)
    rw [Option.mem_toList] at hm
    exact h.2.2 g hm hg
  · intro g' hg' hv
    have e : g = g' := by simpa [Value.ownBlock] using hg'
    subst e
    rcases hat with hat | hat
    · exact h.2.2 g hat hv
    · have := (h.2.1.lt g hv).2
      have h2 : (wr.alloc o).heap.size = wr.heap.size + 1 := Array.size_push _
      omega
def lenN : Value → Nat | .slice _ n _ => n | _ => 0
/-- What an owned number reads as. -/
theorem own_rd {wx : World} {base : Nat} {u : Value} {U : List Nat} (h : wx.ownsRow base 27 1 u U.length (natVs .u64 U)) : ∃ A c, u = .slice A U.length c ∧ Rd wx [] 1 A U.length (natVs .u64 U) := by
  rcases h.2 with ⟨hv, h0⟩ | ⟨g, cap, cur, hv, hb, hh, hc, r⟩
  · exact ⟨none, 0, by rw [h0]; exact hv, by rw [h0]; exact ⟨by rw [natVs_len]; omega, fun h => absurd h (by omega)⟩⟩
  · exact ⟨_, cap, hv, Rd.of_own (hv ▸ h) (fun _ _ => by simp)⟩
theorem blk_own {w : World} {base g : Nat} {U : List Nat} (hb : Blk w g 27 (natVs .u64 U).toArray) (hg : base ≤ g) (hm : U.length ≤ maxLen) : w.ownsRow base 27 1 (.slice (some ⟨g, 0, none⟩) U.length U.length) U.length (natVs .u64 U) :=
  ⟨by rw [natVs_len]; omega, .inr ⟨g, U.length, _, rfl, hg, hb, Nat.le_refl _, hm, by simp [natVs_len], by simp only [Nat.mul_one]; exact List.take_of_length_le (Nat.le_of_eq (natVs_len ..))⟩⟩
set_option maxHeartbeats 4000000 in
theorem above_gen (x k m p : Nat) (hm : 2 * k = m) (hk3 : k ≤ 3) (hx : x < 2199023255552) (hp : p < 65536)
    (hmk : ∀ W : World, (Instr.makeSlice 38 (.int .i64 (m : Int)) (.int .i64 (m : Int))).run Tryd.prog W = .ok (.slice (some ⟨W.heap.size, 0, none⟩) m m) (W.alloc (.cells (natVs .u64 (List.replicate m 0)).toArray 27))) (w : World) :
    Calls Tryd.prog 14 #[.int .u64 (x : Int), .int .i64 (k : Int), .int .u64 (p : Int)] w fun e w' => e = .returned (.bool (decide (p * 2 ^ (32 * k) < x ^ k))) ∧ Keeps [] w w' := by
  obtain ⟨ii, hi, hz0, hz1, hz2⟩ := info_parts u64info
  have h2k : (2 : Int) * (k : Int) = (m : Int) := by omega
  have hm64 : IntKind.i64.wrap (m : Int) = (m : Int) := IntWalk.i64_in _ (by omega)
  have HM := Lib.hid hm
  have HMK := Lib.hid hmk
  clear hm hmk
  obtain ⟨R, hR⟩ : ∃ R, decide (p * 2 ^ (32 * k) < x ^ k) = R := ⟨_, rfl⟩
  rw [hR]
  have HR := Lib.hid hR
  clear hR
  go_enter Tryd.func14, Tryd.ntmps14
  go_wp2
  have ho0 : (w.alloc (.cells #[.int .u64 1] 27)).ownsRow w.heap.size 27 1 (.slice (some ⟨w.heap.size, 0, none⟩) 1 1) 1 (natVs .u64 [1]) := blk_own (U := [1]) (Blk.new _ _ _) (Nat.le_refl _) (by decide)
  have HO0 := Lib.hid ho0
  clear ho0
  go_loopw [7, 12] (fun u i wx => ∃ (n : Nat) (v : Value) (V : List Nat), v = u ∧ n ≤ k ∧ i = .int .i64 (n : Int) ∧ Hid (dok V ∧ dval V = x ^ n ∧ V.length ≤ 1 + 3 * n) ∧ Hid (wx.ownsRow w.heap.size 27 1 v V.length (natVs .u64 V)) ∧ Hid (Keeps [] w wx)) (fun _ i _ => k - (intOf i).toNat)
  case atStart => exact ⟨0, _, [1], rfl, Nat.zero_le _, rfl, Lib.hid ⟨fun d hd => by rw [List.mem_singleton.1 hd]; decide, by simp [dval], by simp⟩, HO0, Lib.hid ((Keeps.refl _ _).alloc _)⟩
  case round =>
    clear HO0
    obtain ⟨n, v, V, rfl, hn, rfl, HV, HO, HK⟩ := hrel
    by_cases hlt : n < k
    · have hlt2 : (n : Int) < (k : Int) := by omega
      obtain ⟨A, c, rfl, hrd⟩ := own_rd HO.out
      have hT := times_any V x HV.out.1 hx (by have := HV.out.2.2; omega) A c wr hrd
      have HT := Lib.hid hT
      clear hT hrd
      go_wp2_with fail
      refine HT.out.mono ?_
      rintro e w5 ⟨⟨O, v5, rfl, hol, hok, hov, ho5⟩, hk5⟩
      have HO5 := Lib.hid (ho5.mono HK.out.size)
      have HV5 : Hid (dok O ∧ dval O = x ^ (n + 1) ∧ O.length ≤ 1 + 3 * (n + 1)) := Lib.hid ⟨hok, by rw [hov, HV.out.2.1, Nat.pow_succ], by have := HV.out.2.2; omega⟩
      have HK5 := Lib.hid (HK.out.trans hk5)
      clear ho5 hok hov hol hk5
      go_wp2
      go_roundw
      case rel => exact ⟨n + 1, _, O, rfl, by omega, by go_num, HV5, HO5, HK5⟩
      case measure => simp [intOf]; omega
    · obtain rfl : n = k := by omega
      have hlt2 : ¬ (n : Int) < (n : Int) := by omega
      have hmk := HMK.out
      have hsz := HK.out.size
      have hz : (wr.alloc (.cells (natVs .u64 (List.replicate m 0)).toArray 27)).ownsRow w.heap.size 27 1 (.slice (some ⟨wr.heap.size, 0, none⟩) m m) m (natVs .u64 (List.replicate m 0)) := by
        have := blk_own (U := List.replicate m 0) (Blk.new wr 27 (natVs .u64 (List.replicate m 0)).toArray) hsz (by simp only [List.length_replicate, maxLen]; omega)
        rwa [List.length_replicate] at this
      have HZ := Lib.hid hz
      have hbd := Lib.hid (show m + 1 ≤ maxLen ∧ (m + 1) * 8 ≤ 140737488355328 by simp only [maxLen]; omega)
      have hn1 := Blk.new (wr.alloc (.cells (natVs .u64 (List.replicate m 0)).toArray 27)) 27 #[.int .u64 (p : Int)]
      rw [show (wr.alloc (.cells (natVs .u64 (List.replicate m 0)).toArray 27)).heap.size = wr.heap.size + 1 from Array.size_push _] at hn1
      have HN1 := Lib.hid hn1
      clear hz hn1
      go_wp2_with (at_builtin; refine wpList_append_lies _ rfl _ _ 38 rfl w.heap.size 27 ii _ 1 8 Tryd.underlying38 hi hz0 hz1 hz2 rfl (by decide) _ m (natVs .u64 (List.replicate m 0)) rfl (HZ.out.alloc _) ⟨wr.heap.size + 1, 0, none⟩ 1 1 [.int .u64 (p : Int)] rfl rfl (World.news_of_block HN1.out) (by simp [Value.oneCell']) (by decide) hbd.out.1 hbd.out.2 (by simp; omega) _ rfl ?_; intro gw cap2 w8 hown8 hgrow8 hat8 hlt8)
      have hgr8 : ((wr.alloc (.cells (natVs .u64 (List.replicate m 0)).toArray 27)).alloc (.cells #[.int .u64 (p : Int)] 27)).grownBy w8 (some wr.heap.size) := hgrow8
      have hat9 : some wr.heap.size = some gw ∨ gw = ((wr.alloc (.cells (natVs .u64 (List.replicate m 0)).toArray 27)).alloc (.cells #[.int .u64 (p : Int)] 27)).heap.size := hat8
      have hk8 : Keeps [] wr w8 := (((Keeps.refl _ wr).alloc _).alloc _).grown hgr8 (fun g hg => .inr (Nat.le_of_eq (Option.some.inj hg)))
      have hgw : wr.heap.size ≤ gw := by
        rcases hat9 with h | h
        · exact Nat.le_of_eq (Option.some.inj h)
        · have e1 : ∀ (W : World) (o : Obj), (W.alloc o).heap.size = W.heap.size + 1 := fun _ _ => Array.size_push _
          rw [h, e1, e1]; omega
      obtain ⟨W0, hW0⟩ : ∃ W0, List.replicate m 0 ++ [p] = W0 := ⟨_, rfl⟩
      have hWl : W0.length = m + 1 := by rw [← hW0]; simp
      have hWd : dval W0 = p * 2 ^ (32 * n) := by
        rw [← hW0, dval_snoc, dval_zeros, List.length_replicate, Nat.zero_add, Nat.mul_comm, ← HM.out, show (65536 : Nat) = 2 ^ 16 by decide, ← Nat.pow_mul, show 16 * (2 * n) = 32 * n by omega]
      have hWk : dok W0 := by
        rw [← hW0]
        exact dok_snoc (fun d hd => by rw [(List.mem_replicate.1 hd).2]; decide) hp
      rw [← natVs_snoc, hW0] at hown8
      have ht8 : Two w8 w.heap.size v (.slice (some ⟨gw, 0, none⟩) (m + 1) cap2) V W0 := ⟨own_keep HO.out hk8 (by simp), by rw [hWl]; exact hown8, fun g hv hw => by
        have h1 := (HO.out.lt g hv).2
        have h2 : gw = g := by simpa [Value.ownBlock] using hw
        omega⟩
      have HT8 := Lib.hid ht8
      have HK8 := Lib.hid (HK.out.trans hk8)
      have HWF := Lib.hid (And.intro hWk (And.intro hWd hWl))
      have HN1' := HN1
      clear hgr8 hat9 hk8 ht8 hWk hWd hWl hW0 hown8 hgrow8 hat8 hlt8 hgw HZ HN1 HN1' hmk HMK hsz HO
      go_loopw [7] (fun u wx => ∃ (v : Value) (V : List Nat), v = u ∧ Hid (dok V ∧ dval V = x ^ n ∧ V.length ≤ 20) ∧ Hid (Two wx w.heap.size v (.slice (some ⟨gw, 0, none⟩) (m + 1) cap2) V W0) ∧ Hid (Keeps [] w wx)) (fun u _ => m + 1 - lenN u)
      case atStart => exact ⟨v, V, rfl, Lib.hid ⟨HV.out.1, HV.out.2.1, by have := HV.out.2.2; omega⟩, HT8, HK8⟩
      case round =>
        clear HT8 HK8 HK HV
        obtain ⟨v, V, rfl, HV, HT, HK⟩ := hrel
        obtain ⟨A, c, rfl, hrd⟩ := own_rd HT.out.1
        clear hrd
        by_cases hlt : V.length < m + 1
        · have hlt2 : (V.length : Int) < (m : Int) + 1 := by omega
          have hbd := Lib.hid (show V.length + 1 ≤ maxLen ∧ (V.length + 1) * 8 ≤ 140737488355328 by have := HV.out.2.2; simp only [maxLen]; omega)
          have hsz := HK.out.size
          go_wp2_with (at_builtin; refine wpList_append_lies _ rfl _ _ 38 rfl w.heap.size 27 ii _ 1 8 Tryd.underlying38 hi hz0 hz1 hz2 rfl (by decide) _ V.length (natVs .u64 V) rfl (HT.out.1.alloc _) ⟨wr.heap.size, 0, none⟩ 1 1 [.int .u64 0] rfl rfl (World.news_of_block (heap_alloc_new _ _)) (by simp [Value.oneCell']) (by decide) hbd.out.1 hbd.out.2 (by simp; omega) _ rfl ?_; intro g9 cap9 w9 hown9 hgrow9 hat9 hlt9)
          have HK9 := Lib.hid ((HK.out.alloc (.cells #[.int .u64 0] 27)).grown hgrow9 (fun g hg => .inr (HT.out.1.lt g hg).1))
          have HT9 := Lib.hid (HT.out.grow (x := 0) (by rw [natVs_snoc]; exact hown9) rfl hgrow9 hat9)
          have HV9 : Hid (dok (V ++ [0]) ∧ dval (V ++ [0]) = x ^ n ∧ (V ++ [0]).length ≤ 20) := Lib.hid ⟨dok_snoc HV.out.1 (by decide), by rw [dval_snoc, Nat.mul_zero, Nat.add_zero]; exact HV.out.2.1, by simp; omega⟩
          clear hown9 hgrow9 hat9 hlt9
          go_wp2
          go_roundw
          case rel => exact ⟨_, V ++ [0], rfl, HV9, HT9, HK9⟩
          case measure => simp [lenN]; omega
        · have hlt2 : ¬ (V.length : Int) < (m : Int) + 1 := by omega
          have hvL : V.length ≤ 20 := HV.out.2.2
          go_wp2_with fail
          go_loopw [8] (fun u wx => ∃ (z : Value) (Z : List Nat), z = u ∧ Z.length ≤ V.length ∧ Hid (dok Z ∧ dval Z = p * 2 ^ (32 * n)) ∧ Hid (Two wx w.heap.size (.slice A V.length c) z V Z) ∧ Hid (Keeps [] w wx)) (fun u _ => V.length - lenN u)
          case atStart => exact ⟨_, W0, rfl, by have := HWF.out.2.2; omega, Lib.hid ⟨HWF.out.1, HWF.out.2.1⟩, HT, HK⟩
          case round =>
            clear HT HK
            obtain ⟨z, Z, rfl, hzl, HZ, HT, HK⟩ := hrel
            obtain ⟨Az, cz, rfl, hrd⟩ := own_rd HT.out.2.1
            clear hrd
            by_cases hlt : Z.length < V.length
            · have hlt3 : (Z.length : Int) < (V.length : Int) := by omega
              have hbd := Lib.hid (show Z.length + 1 ≤ maxLen ∧ (Z.length + 1) * 8 ≤ 140737488355328 by simp only [maxLen]; omega)
              have hsz := HK.out.size
              go_wp2_with (at_builtin; refine wpList_append_lies _ rfl _ _ 38 rfl w.heap.size 27 ii _ 1 8 Tryd.underlying38 hi hz0 hz1 hz2 rfl (by decide) _ Z.length (natVs .u64 Z) rfl (HT.out.2.1.alloc _) ⟨wr.heap.size, 0, none⟩ 1 1 [.int .u64 0] rfl rfl (World.news_of_block (heap_alloc_new _ _)) (by simp [Value.oneCell']) (by decide) hbd.out.1 hbd.out.2 (by simp; omega) _ rfl ?_; intro g9 cap9 w9 hown9 hgrow9 hat9 hlt9)
              have HK9 := Lib.hid ((HK.out.alloc (.cells #[.int .u64 0] 27)).grown hgrow9 (fun g hg => .inr (HT.out.2.1.lt g hg).1))
              have HT9 := Lib.hid (HT.out.symm.grow (x := 0) (by rw [natVs_snoc]; exact hown9) rfl hgrow9 hat9).symm
              have HZ9 : Hid (dok (Z ++ [0]) ∧ dval (Z ++ [0]) = p * 2 ^ (32 * n)) := Lib.hid ⟨dok_snoc HZ.out.1 (by decide), by rw [dval_snoc, Nat.mul_zero, Nat.add_zero]; exact HZ.out.2⟩
              clear hown9 hgrow9 hat9 hlt9
              go_wp2
              go_roundw
              case rel => exact ⟨_, Z ++ [0], rfl, by simp; omega, HZ9, HT9, HK9⟩
              case measure => simp [lenN]; omega
            · have hlt3 : ¬ (Z.length : Int) < (V.length : Int) := by omega
              have hZV : V.length = Z.length := by omega
              obtain ⟨A', c', he, hrd⟩ := own_rd HT.out.1
              have hA : A = A' := by injection he
              subst hA
              clear he
              obtain ⟨Az', cz', he, hrz⟩ := own_rd HT.out.2.1
              have hA : Az = Az' := by injection he
              subst hA
              clear he
              have HRV := Lib.hid hrd
              have HRZ := Lib.hid hrz
              rw [← hZV] at HRZ hlt3 ⊢
              have HR2 : Hid (decide (dval Z < dval V) = R) := Lib.hid (by rw [HZ.out.2, HV.out.2.1]; exact HR.out)
              have HG := Lib.hid (And.intro HV.out.1 HZ.out.1)
              have HZV := Lib.hid hZV
              obtain ⟨w6, hw6⟩ : ∃ w6 : World, w6 = wr := ⟨_, rfl⟩
              subst hw6
              clear hrd hrz HT HR HZ HV hzl hlt
              go_wp2_with fail
              go_loopw [9] (fun i wx => ∃ q : Nat, q ≤ V.length ∧ i = .int .i64 ((q : Int) - 1) ∧ Hid (V.drop q = Z.drop q) ∧ Keeps [] w6 wx) (fun i _ => (intOf i + 1).toNat)
              case atStart => exact ⟨V.length, Nat.le_refl _, by rw [HZV.out], Lib.hid (by rw [List.drop_length, HZV.out, List.drop_length]), Keeps.refl _ _⟩
              case round =>
                obtain ⟨q, hq, rfl, HE, hk⟩ := hrel
                have HK9 := Lib.hid hk
                clear hk
                cases q with
                | zero =>
                  have HRf : Hid (R = false) := Lib.hid (by
                    have h := HE.out
                    rw [List.drop_zero, List.drop_zero] at h
                    rw [← HR2.out, h]
                    simp)
                  go_wp2
                  go_ret
                  exact ⟨by rw [HRf.out]; rfl, HK.out.trans HK9.out⟩
                | succ i =>
                  have hi1 : ((i + 1 : Nat) : Int) - 1 = (i : Int) := by omega
                  rw [hi1]
                  have hiV : i < V.length := by omega
                  have hiZ : i < Z.length := by have := HZV.out; omega
                  obtain ⟨b, o, hAe, _, hb, hcs⟩ := HRV.out.open' (by omega) (by omega)
                  subst hAe
                  have hRZ := HRZ.out
                  obtain ⟨b2, o2, hAe, _, hb2, hcs2⟩ := hRZ.open' (by omega) (by omega)
                  subst hAe
                  have d0 := HK9.out.cell_of (hcs i _ (natVs_at .u64 V i hiV)) (by simp)
                  have d1 := HK9.out.cell_of (hcs2 i _ (natVs_at .u64 Z i hiZ)) (by simp)
                  have i0 : (0 : Int) ≤ (i : Int) := by omega
                  have i1 : (i : Int) < (V.length : Int) := by omega
                  have HAT := Lib.hid (fun h => above_at (i := i) HG.out.1 HG.out.2 HZV.out hiV HE.out h)
                  have HNX := Lib.hid (fun h : V[i] = Z[i] => show V.drop i = Z.drop i by rw [List.drop_eq_getElem_cons hiV, List.drop_eq_getElem_cons hiZ, h, HE.out])
                  clear hcs hcs2 hRZ
                  generalize V[i] = a at *
                  generalize Z[i] = b9 at *
                  by_cases hab : a = b9
                  · subst hab
                    have HNX2 := Lib.hid (HNX.out rfl)
                    have w1 : IntKind.i64.wrap ((i : Int) - 1) = (i : Int) - 1 := IntWalk.i64_in _ (by omega)
                    go_wp2_with fail
                    go_quiet (fail)
                    have HKa := Lib.hid (HK9.out.drewN nq)
                    clear d0 d1 HK9
                    generalize wr.drewN nq = wr2 at HKa ⊢
                    go_wp2
                    go_roundw
                    case rel => exact ⟨i, by omega, by go_num, HNX2, HKa.out⟩
                    case measure => simp [intOf]
                  · have hne : ((a : Int) != (b9 : Int)) = true := by rw [bne_iff_ne]; omega
                    have hlt9 : decide (b9 < a) = R := by rw [← HR2.out]; exact (HAT.out hab).symm
                    have hlt10 : decide ((b9 : Int) < (a : Int)) = R := by
                      rw [← hlt9]
                      exact decide_eq_decide.2 (by omega)
                    go_wp2_with fail
                    go_quiet (fail)
                    have HKa := Lib.hid (HK9.out.drewN nq)
                    have d2 : (wr.drewN nq).cell? ⟨b, o + i, none⟩ = some (.int .u64 (a : Int)) := d0
                    have d3 : (wr.drewN nq).cell? ⟨b2, o2 + i, none⟩ = some (.int .u64 (b9 : Int)) := d1
                    clear d0 d1 HK9
                    generalize wr.drewN nq = wr2 at HKa d2 d3 ⊢
                    go_wp2_with fail
                    go_quiet (fail)
                    go_wp2
                    go_ret
                    refine ⟨?_, HK.out.trans (HKa.out.drewN _)⟩
                    rfl
theorem above_any (x k p : Nat) (hk : k = 2 ∨ k = 3) (hx : x < 2199023255552) (hp : p < 65536) (w : World) :
    Calls Tryd.prog 14 #[.int .u64 (x : Int), .int .i64 (k : Int), .int .u64 (p : Int)] w fun e w' => e = .returned (.bool (decide (p * 2 ^ (32 * k) < x ^ k))) ∧ Keeps [] w w' := by
  rcases hk with rfl | rfl
  · exact above_gen x 2 4 p rfl (by decide) hx hp (fun _ => by kernel_rfl) w
  · exact above_gen x 3 6 p rfl (by decide) hx hp (fun _ => by kernel_rfl) w
set_option maxHeartbeats 2000000 in
theorem root_any (p k : Nat) (hk : k = 2 ∨ k = 3) (hp : p < 65536) (w : World) :
    Calls Tryd.prog 10 #[.int .u64 (p : Int), .int .i64 (k : Int)] w fun e w' => (∃ x, rootIs p k x ∧ e = .returned (.int .u32 ((x % 4294967296 : Nat) : Int))) ∧ Keeps [] w w' := by
  have HAB := Lib.hid (fun x (hx : x < 2199023255552) W => above_any x k p hk hx hp W)
  have HT : Hid (p * 2 ^ (32 * k) < 1099511627776 ^ k) := Lib.hid (by
    rcases hk with rfl | rfl
    · show p * 2 ^ 64 < _
      have : (1099511627776 : Nat) ^ 2 = 65536 * 2 ^ 64 := by decide
      rw [this]
      exact Nat.mul_lt_mul_of_pos_right hp (by decide)
    · show p * 2 ^ 96 < _
      have : (1099511627776 : Nat) ^ 3 = 16777216 * 2 ^ 96 := by decide
      rw [this]
      exact Nat.mul_lt_mul_of_pos_right (by omega) (by decide))
  have HZ : Hid (0 ^ k ≤ p * 2 ^ (32 * k)) := Lib.hid (by rcases hk with rfl | rfl <;> simp)
  clear hk
  unfold rootIs
  obtain ⟨T, hT⟩ : ∃ T, p * 2 ^ (32 * k) = T := ⟨_, rfl⟩
  rw [hT] at HT HZ HAB ⊢
  clear hT hp
  go_enter Tryd.func10, Tryd.ntmps10
  go_wp2
  go_loopw [5, 6] (fun l h wx => ∃ lo hi : Nat, l = .int .u64 (lo : Int) ∧ h = .int .u64 (hi : Int) ∧ lo < hi ∧ hi ≤ 1099511627776 ∧ Hid (lo ^ k ≤ T) ∧ Hid (T < hi ^ k) ∧ Keeps [] w wx) (fun l h _ => (intOf h - intOf l).toNat)
  case atStart => exact ⟨0, 1099511627776, rfl, rfl, by decide, Nat.le_refl _, HZ, HT, Keeps.refl _ _⟩
  case round =>
    clear HT HZ
    obtain ⟨lo, hi, rfl, rfl, hlh, hhi, HL, HH, hk⟩ := hrel
    have HK := Lib.hid hk
    clear hk
    have w1 : IntKind.u64.wrap ((lo : Int) + 1) = (lo : Int) + 1 := by rw [IntKind.wrap_u64]; omega
    by_cases hlt : lo + 1 < hi
    · have c1 : (lo : Int) + 1 < (hi : Int) := by omega
      obtain ⟨s, hs⟩ : ∃ s : Nat, lo + hi = s := ⟨_, rfl⟩
      have w2 : (lo : Int) + (hi : Int) = (s : Int) := by omega
      have w3 : IntKind.u64.wrap (s : Int) = (s : Int) := by rw [IntKind.wrap_u64]; omega
      obtain ⟨x, hx⟩ : ∃ x : Nat, s / 2 = x := ⟨_, rfl⟩
      have w4 : (s : Int).tdiv 2 = (x : Int) := by rw [Int.tdiv_eq_ediv_of_nonneg (Int.natCast_nonneg _)]; omega
      have w5 : IntKind.u64.wrap (x : Int) = (x : Int) := by rw [IntKind.wrap_u64]; omega
      have hx1 : lo < x := by omega
      have hx2 : x < hi := by omega
      have HA := Lib.hid (HAB.out x (by omega) wr)
      clear hs hx
      by_cases hab : T < x ^ k
      · rw [decide_eq_true hab] at HA
        have HAB2 := Lib.hid hab
        clear hab
        go_wp2_with fail
        refine HA.out.mono ?_
        rintro e w6 ⟨rfl, hk6⟩
        have HK6 := Lib.hid (HK.out.trans hk6)
        clear hk6
        go_wp2
        go_roundw
        case rel => exact ⟨lo, x, rfl, rfl, hx1, by omega, HL, HAB2, HK6.out⟩
        case measure => simp [intOf]; omega
      · rw [decide_eq_false hab] at HA
        have HAB2 : Hid (x ^ k ≤ T) := Lib.hid (by omega)
        clear hab
        go_wp2_with fail
        refine HA.out.mono ?_
        rintro e w6 ⟨rfl, hk6⟩
        have HK6 := Lib.hid (HK.out.trans hk6)
        clear hk6
        go_wp2
        go_roundw
        case rel => exact ⟨x, hi, rfl, rfl, hx2, hhi, HAB2, HH, HK6.out⟩
        case measure => simp [intOf]; omega
    · have c1 : ¬ (lo : Int) + 1 < (hi : Int) := by omega
      obtain rfl : hi = lo + 1 := by omega
      have hv : (lo : Int) % 4294967296 = ((lo % 4294967296 : Nat) : Int) := by omega
      have HV := Lib.hid hv
      clear hv
      go_wp2
      go_ret
      exact ⟨⟨lo, ⟨HL.out, HH.out⟩, by first | rfl | (rw [← HV.out]; rfl)⟩, HK.out⟩
end Go.Proofs.YtkklmogcohlbhaaDoor
