/- The reference of sums: primes, long numbers, roots, a turn of bits. -/
import Derived.Test.YtkklmogcohlbhaaDoorBase
import Derived.Test.YtkklmogcohlbhaaDoorProg
import Derived.Test.YtkklmogcohlbhaaDoorSumP
import Derived.Test.YtkklmogcohlbhaaDoorShaP
import Derived.Test.YtkklmogcohlbhaaDoorWord
import Derived.IntWalk
namespace Go.Proofs.YtkklmogcohlbhaaDoor
open Go.RowKit Go.BigFrame
attribute [local go_sem] bs_size bs_extract bs_append bs_toList
/-- Numbers in cells. -/
def natVs (k : IntKind) (l : List Nat) : List Value := l.map fun x : Nat => Value.int k (x : Int)
theorem natVs_at (k : IntKind) (l : List Nat) (j : Nat) (h : j < l.length) : (natVs k l)[j]? = some (.int k (l[j] : Int)) := by simp [natVs, h]
theorem natVs_len (k : IntKind) (l : List Nat) : (natVs k l).length = l.length := by simp [natVs]
theorem natVs_snoc (k : IntKind) (l : List Nat) (x : Nat) : natVs k (l ++ [x]) = natVs k l ++ [.int k (x : Int)] := by simp [natVs]
theorem iinfo : (Tryd.prog.info? 3).map (fun i => (i.zero, i.size, i.bytes)) = some (some (.int .i64 0), 1, 8) := by kernel_rfl
theorem u64info : (Tryd.prog.info? 27).map (fun i => (i.zero, i.size, i.bytes)) = some (some (.int .u64 0), 1, 8) := by kernel_rfl
theorem rrot_any (x : Int) (hx : W32 x) (k : Int) (h0 : 0 ≤ k) (h1 : k ≤ 32) (w : World) :
    Calls Tryd.prog 11 #[.int .u32 x, .int .i64 k] w fun e w' => e = .returned (.int .u32 (rotI x k.toNat)) ∧ ∃ m, w' = w.drewN m := by
  obtain ⟨n, rfl⟩ := Int.eq_ofNat_of_zero_le h0
  obtain ⟨m, hm⟩ : ∃ m, n + m = 32 := ⟨32 - n, by omega⟩
  have h1 : (32 : Int) - (n : Int) = (m : Int) := by omega
  have h2 : IntKind.i64.wrap (m : Int) = (m : Int) := IntWalk.i64_in _ (by omega)
  have h3 : ¬ (n : Int) < 0 := by omega
  have h4 : ¬ (m : Int) < 0 := by omega
  have hr := rot_sum hx (n := n) (by omega)
  rw [show 32 - n = m by omega] at hr
  have hr2 : rotI x (n : Int).toNat = (x / 2 ^ n + x * 2 ^ m % 4294967296) % 4294967296 := by
    unfold rotI
    rw [Int.toNat_natCast, show 32 - n = m by omega, ← hr.1, Int.emod_eq_of_lt hr.2.1 hr.2.2]
  have HR := Lib.hid hr2
  clear hr hr2 hm
  go_enter Tryd.func11, Tryd.ntmps11
  go_wp2
  go_quiet (fail)
  go_wp2
  go_ret
  exact ⟨by rw [HR.out]; first | rfl | simp, _, rfl⟩
set_option maxHeartbeats 2000000 in
theorem primes_any (w : World) :
    Calls Tryd.prog 9 #[.int .i64 64] w fun e w' => (∃ A c, e = .returned (.slice A 64 c) ∧ 64 ≤ c ∧ ∀ L : List Nat, (∀ x ∈ L, x < w.heap.size) → Rd w' L 1 A 64 (natVs .i64 primesL)) ∧ Keeps [] w w' := by
  obtain ⟨ii, hi, hz0, hz1, hz2⟩ := info_parts iinfo
  go_enter Tryd.func9, Tryd.ntmps9
  go_wp2
  go_loopw [3, 4] (fun v i wx => ∃ (n : Nat) (u : Value), u = v ∧ n ≤ 310 ∧ i = .int .i64 ((n + 2 : Nat) : Int) ∧ wx.ownsRow w.heap.size 3 1 u (prL n).length (natVs .i64 (prL n)) ∧ Keeps [] w wx) (fun _ i _ => 312 - (intOf i).toNat)
  case atStart => exact ⟨0, _, rfl, Nat.zero_le _, rfl, World.ownsRow_nil _ _ _ _, Keeps.refl _ _⟩
  case round =>
    obtain ⟨n, v, rfl, hn, rfl, hown, hk⟩ := hrel
    have HO := Lib.hid hown
    have HK := Lib.hid hk
    clear hown hk
    by_cases hlt : n < 310
    · have hL := prL_lt hlt
      obtain ⟨l, hl⟩ : ∃ l, prL n = l := ⟨_, rfl⟩
      have h2 : ∀ p ∈ l, 2 ≤ p := by rw [← hl]; exact prL_two n
      have H3 : Hid (∀ p ∈ l, p ≤ n + 1) := Lib.hid (by rw [← hl]; exact prL_le n)
      have HS : Hid (prL (n + 1) = prStep l (n + 2)) := Lib.hid (by rw [← hl]; rfl)
      rw [hl] at HO hL
      obtain ⟨A, c, rfl, hrd⟩ : ∃ A c, v = .slice A l.length c ∧ Rd wr [] 1 A l.length (natVs .i64 l) := by
        have h := HO.out
        rcases h.2 with ⟨hv, h0⟩ | ⟨g, cap, cur, hv, hb, hh, hc, r⟩
        · exact ⟨none, 0, by rw [h0]; exact hv, by rw [h0]; exact ⟨by rw [natVs_len]; omega, fun h => absurd h (by omega)⟩⟩
        · exact ⟨_, cap, hv, Rd.of_own (hv ▸ h) (fun _ _ => by simp)⟩
      have HRD := Lib.hid hrd
      have h64 : (l.length : Int) < 64 := by omega
      have H2 := Lib.hid h2
      have HL := Lib.hid hl
      clear hrd h2 hl
      obtain ⟨K, hK⟩ : ∃ K, n + 2 = K := ⟨_, rfl⟩
      rw [hK] at HS ⊢
      go_wp2
      go_loopw [5, 16] (fun b i wx => ∃ m : Nat, m ≤ l.length ∧ b = .bool ((l.take m).all fun p => K % p != 0) ∧ i = .int .i64 m ∧ wx = wr) (fun _ i _ => l.length - (intOf i).toNat)
      case atStart => exact ⟨0, Nat.zero_le _, by simp, rfl, rfl⟩
      case round =>
        obtain ⟨m, hm, rfl, rfl, rfl⟩ := hrel
        by_cases hml : m < l.length
        · have hp2 := H2.out l[m] (List.getElem_mem hml)
          obtain ⟨b, o, rfl, _, hb, hcs⟩ := HRD.out.open' (by omega) (by decide)
          have d0 := hcs m _ (natVs_at .i64 l m hml)
          have HT : Hid ((l.take (m + 1)).all (fun p => K % p != 0) = ((l.take m).all (fun p => K % p != 0) && (K % l[m] != 0))) := Lib.hid (by rw [List.take_succ_eq_append_getElem hml, List.all_append]; simp)
          have hrem : ((K : Int).tmod (l[m] : Int)) = ((K % l[m] : Nat) : Int) := by rw [Int.tmod_eq_emod_of_nonneg (Int.natCast_nonneg _)]; exact (Int.natCast_emod _ _).symm
          have hlt2 : K % l[m] < l[m] := Nat.mod_lt _ (by omega)
          have hb1 := H3.out l[m] (List.getElem_mem hml)
          clear hcs
          generalize l[m] = p at *
          have hp0 : ¬ (p : Int) = 0 := by omega
          have hwr : IntKind.i64.wrap ((K % p : Nat) : Int) = ((K % p : Nat) : Int) := IntWalk.i64_in _ (by omega)
          cases hall : ((l.take m).all fun p => K % p != 0) with
          | false =>
            rw [hall] at HT
            go_wp2
            go_roundw
            case rel => exact ⟨m + 1, by omega, by rw [HT.out]; rfl, by go_num, trivial⟩
            case measure => simp [intOf]; omega
          | true =>
            rw [hall] at HT
            cases hkp : (K % p != 0) with
            | false =>
              have hz : K % p = 0 := by simpa using hkp
              rw [hz] at hrem hwr
              rw [hkp] at HT
              clear hkp hz
              go_wp2
              go_roundw
              case rel => exact ⟨m + 1, by omega, by rw [HT.out]; rfl, by go_num, trivial⟩
              case measure => simp [intOf]; omega
            | true =>
              have hz : (((K : Int) % (p : Int)) != 0) = true := by
                have h : ¬ K % p = 0 := by simpa using hkp
                rw [bne_iff_ne, ← Int.natCast_emod]
                exact fun e => h (Int.ofNat_inj.1 e)
              rw [hkp] at HT
              clear hkp
              go_wp2
              go_roundw
              case rel => exact ⟨m + 1, by omega, by rw [HT.out]; first | rfl | (rw [hz]; rfl), by go_num, trivial⟩
              case measure => simp [intOf]; omega
        · obtain rfl : m = l.length := by omega
          rw [List.take_length]
          cases hall : (l.all fun p => K % p != 0) with
          | false =>
            have HS2 : Hid (prL (n + 1) = l) := Lib.hid (by rw [HS.out]; unfold prStep; rw [hall]; rfl)
            clear hall
            go_wp2
            go_roundw
            case rel => exact ⟨n + 1, _, rfl, by omega, by go_num, by rw [HS2.out]; exact HO.out, HK.out⟩
            case measure => simp [intOf]; omega
          | true =>
            have HS2 : Hid (prL (n + 1) = l ++ [K]) := Lib.hid (by rw [HS.out]; unfold prStep; rw [hall]; rfl)
            clear hall
            have hbd := Lib.hid (show l.length + 1 ≤ maxLen ∧ (l.length + 1) * 8 ≤ 140737488355328 by simp only [maxLen]; omega)
            have hz5 := HK.out.size
            go_wp2_with (at_builtin; refine wpList_append_lies _ rfl _ _ 32 rfl w.heap.size 3 ii _ 1 8 Tryd.underlying32 hi hz0 hz1 hz2 rfl (by decide) _ l.length (natVs .i64 l) rfl (HO.out.alloc _) ⟨wr.heap.size, 0, none⟩ 1 1 [.int .i64 (K : Int)] rfl rfl (World.news_of_block (heap_alloc_new _ _)) (by simp [Value.oneCell']) (by decide) hbd.out.1 hbd.out.2 (by simp; omega) _ rfl ?_; intro gw cap2 w8 hown8 hgrow8 hat8 hlt8)
            have HK8 := Lib.hid ((HK.out.alloc (.cells #[.int .i64 (K : Int)] 3)).grown hgrow8 (fun g hg => .inr (HO.out.lt g hg).1))
            rw [← natVs_snoc] at hown8
            have HO8 := Lib.hid hown8
            clear hown8 hgrow8 hat8 hlt8
            go_wp2
            go_roundw
            case rel => exact ⟨n + 1, _, rfl, by omega, by go_num, by rw [HS2.out]; simpa using HO8.out, HK8.out⟩
            case measure => simp [intOf]; omega
    · obtain rfl : n = 310 := by omega
      have hL : ((prL 310).length) = 64 := prL_310
      rw [hL] at HO
      obtain ⟨A, c, rfl, hc, hrd⟩ : ∃ A c, v = .slice A 64 c ∧ 64 ≤ c ∧ ∀ L : List Nat, (∀ x ∈ L, x < w.heap.size) → Rd wr L 1 A 64 (natVs .i64 (prL 310)) := by
        have h := HO.out
        rcases h.2 with ⟨hv, h0⟩ | ⟨g, cap, cur, hv, hb, hh, hc, r⟩
        · omega
        · exact ⟨_, cap, hv, hc, fun L hL => Rd.of_own (hv ▸ h) (fun x hx hm => by
            have h1 := hL x hm
            have h2 : g = x := by simpa [Value.ownBlock] using hx
            omega)⟩
      have HRD := Lib.hid hrd
      clear hrd
      go_wp2
      go_ret
      exact ⟨⟨_, _, rfl, hc, HRD.out⟩, HK.out⟩
end Go.Proofs.YtkklmogcohlbhaaDoor
