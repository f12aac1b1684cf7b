/- Hexadecimal digits: sum.Hex; the reference's. -/
import Derived.Test.YtkklmogcohlbhaaDoorHexP
import Derived.Test.YtkklmogcohlbhaaDoorProg
import Derived.Test.YtkklmogcohlbhaaDoorSum
import Derived.Deep.AppendLies
namespace Go.Proofs.YtkklmogcohlbhaaDoor
open Go.RowKit Go.BigFrame
attribute [local go_sem] bs_size bs_extract bs_append bs_toList
theorem own_alloc_drew {w w' : World} {base : Nat} {e : TypeId} {size n : Nat} {v : Value} {xs : List Value} {o : Obj} (h : w.ownsRow base e size v n xs) (hk : Keeps [] w w') : (w'.alloc o).ownsRow base e size v n xs :=
  (own_keep h hk (by simp)).alloc _
/-- A digit. -/
theorem digit_idx (q : Nat) (hq : q < 16) (W : World) : (Instr.index 9 (.string ⟨#[48, 49, 50, 51, 52, 53, 54, 55, 56, 57, 97, 98, 99, 100, 101, 102]⟩) (.int .u8 (q : Int))).run Tryd.prog W = .ok (.int .u8 ((hexD.getD q 0).toNat : Int)) W := by
  rcases (show q = 0 ∨ q = 1 ∨ q = 2 ∨ q = 3 ∨ q = 4 ∨ q = 5 ∨ q = 6 ∨ q = 7 ∨ q = 8 ∨ q = 9 ∨ q = 10 ∨ q = 11 ∨ q = 12 ∨ q = 13 ∨ q = 14 ∨ q = 15 by omega) with rfl | rfl | rfl | rfl | rfl | rfl | rfl | rfl | rfl | rfl | rfl | rfl | rfl | rfl | rfl | rfl
  all_goals kernel_rfl
set_option maxHeartbeats 4000000 in
set_option maxRecDepth 100000 in
theorem hex_any (s : Bs) (hs : s.length ≤ 400) (w : World) :
    Calls Tryd.prog 6 #[.string (bs s)] w fun e w' => e = .returned (.string (bs (hexL s))) ∧ Keeps [] w w' := by
  obtain ⟨i0, hi, hz0, hz1, hz2⟩ := info_parts uinfo
  obtain ⟨R, hR⟩ : ∃ R, hexL s = R := ⟨_, rfl⟩
  rw [hR]
  have HRR := Lib.hid hR
  clear hR
  go_enter Tryd.func6, Tryd.ntmps6
  go_wp2
  go_loopw [3, 7] (fun v i wx => ∃ (n : Nat) (u : Value), u = v ∧ n ≤ s.length ∧ i = .int .i64 (n : Int) ∧ Hid (wx.ownsRow w.heap.size 5 1 u (hexL (s.take n)).length (byteVs (hexL (s.take n)))) ∧ Hid (Keeps [] w wx)) (fun _ i _ => s.length - (intOf i).toNat)
  case atStart => exact ⟨0, _, rfl, Nat.zero_le _, rfl, Lib.hid (World.ownsRow_nil _ _ _ _), Lib.hid (Keeps.refl _ _)⟩
  case round =>
    obtain ⟨n, v, rfl, hn, rfl, HO, HK⟩ := hrel
    by_cases hlt : n < s.length
    · have hlt2 : (n : Int) < (s.length : Int) := by omega
      have hn0 : (0 : Int) ≤ (n : Int) := by omega
      have hnx : hexL (s.take (n + 1)) = hexL (s.take n) ++ hex2 s[n] := by rw [List.take_succ_eq_append_getElem hlt, hexL_snoc]
      have HNX := Lib.hid hnx
      clear hnx
      have hsi : ∀ h : n < (bs s).size, (((bs s)[n]'h).toNat : Int) = ((s[n]'hlt).toNat : Int) := fun h => by rw [bs_get s n h]
      obtain ⟨X, hX⟩ : ∃ X, hexL (s.take n) = X := ⟨_, rfl⟩
      have hXl : X.length ≤ 800 := by rw [← hX, hexL_length, List.length_take]; omega
      rw [hX] at HO HNX
      have hbl := UInt8.toNat_lt s[n]
      generalize s[n] = bb at hsi hbl HNX
      obtain ⟨b, hb⟩ : ∃ b : Nat, bb.toNat = b := ⟨_, rfl⟩
      have hh2 : hex2 bb = [hexD.getD (b / 16) 0, hexD.getD (b % 16) 0] := by rw [← hb]; rfl
      rw [hh2] at HNX
      rw [hb] at hsi hbl
      obtain ⟨p, hp⟩ : ∃ p, b / 16 = p := ⟨_, rfl⟩
      obtain ⟨q, hq⟩ : ∃ q, b % 16 = q := ⟨_, rfl⟩
      have hx1 : (b : Int) / 16 = (p : Int) := by omega
      have hx2 : bits .and .u8 (b : Int) 15 = (q : Int) := by
        rw [show (15 : Int) = ((15 : Nat) : Int) from rfl, u8_and_nat b 15 (by omega) (by decide), nat_mask4, hq]
      have d1 := fun W => digit_idx p (by omega) W
      have d2 := fun W => digit_idx q (by omega) W
      rw [hp, hq] at HNX
      generalize hexD.getD p 0 = c1 at d1 HNX
      generalize hexD.getD q 0 = c2 at d2 HNX
      have hbd := Lib.hid (show X.length + 2 ≤ maxLen ∧ (X.length + 2) * 1 ≤ 140737488355328 by simp only [maxLen]; omega)
      have HSZ := Lib.hid HK.out.size
      clear hX hb hh2 hp hq
      go_wp2_with fail
      go_region_law ((refine step_append_lies _ (by rfl) _ _ _ (by rfl) w.heap.size 5 i0 _ 1 1 Tryd.underlying26 hi hz0 hz1 hz2 rfl (by decide) v X.length (byteVs X) (by rfl) (HO.out.drew.alloc _) ⟨wr.heap.size, 0, none⟩ 2 2 [.int .u8 (c1.toNat : Int), .int .u8 (c2.toNat : Int)] (by rfl) rfl (World.news_of_block (heap_alloc_new _ _)) (by simp [Value.oneCell']) (by decide) hbd.out.1 hbd.out.2 (show w.heap.size ≤ (wr.alloc _).heap.size from by rw [alloc_size']; exact Nat.le_succ_of_le HSZ.out) _ rfl ?_; intro gw cap2 w8 hown8 hgrow8 hat8 hlt8))
      all_goals
        have HK8 := Lib.hid ((HK.out.drew.alloc (.cells #[.int .u8 (c1.toNat : Int), .int .u8 (c2.toNat : Int)] 5)).grown hgrow8 (fun g hg => .inr (HO.out.lt g hg).1))
        have h88 : w8.ownsRow w.heap.size 5 1 (.slice (some ⟨gw, 0, none⟩) (X.length + 2) cap2) (hexL (s.take (n + 1))).length (byteVs (hexL (s.take (n + 1)))) := by
          rw [HNX.out, byteVs_append, List.length_append]
          exact hown8
        have H88 := Lib.hid h88
        clear h88 hown8 hgrow8 hat8 hlt8
        go_wp2
        go_roundw
      all_goals first
        | exact ⟨n + 1, _, rfl, by omega, by go_num, H88, HK8⟩
        | (simp [intOf]; omega)
    · obtain rfl : n = s.length := by omega
      rw [List.take_length] at HO
      have hlt2 : ¬ ((s.length : Int) < (s.length : Int)) := by omega
      rw [HRR.out] at HO
      obtain ⟨A, c, rfl, hcs⟩ : ∃ A c, v = .slice A R.length c ∧ ((A = none ∧ R = []) ∨ ∃ g, A = some ⟨g, 0, none⟩ ∧ ∀ j u, (byteVs R)[j]? = some u → wr.cell? ⟨g, j, none⟩ = some u) := by
        have h := HO.out
        rcases h.2 with ⟨hv, h0⟩ | ⟨g, cap, cur, hv, hb, hh, hc, r⟩
        · exact ⟨none, 0, by rw [h0]; exact hv, .inl ⟨rfl, List.eq_nil_of_length_eq_zero h0⟩⟩
        · refine ⟨_, cap, hv, .inr ⟨g, rfl, fun j u hu => ?_⟩⟩
          have := h.cells (g := g) (by rw [hv]; rfl) j u hu
          rw [add_at, Nat.zero_add] at this
          exact this
      rcases hcs with ⟨rfl, rfl⟩ | ⟨g, rfl, hcs⟩
      · have hcv3 : (convert 26 9 (.slice none 0 c)).run Tryd.prog wr = .ok (.string (bs [])) wr := by kernel_rfl
        go_wp2
        go_ret
        exact ⟨rfl, HK.out⟩
      · have hcv3 : (convert 26 9 (.slice (some ⟨g, 0, none⟩) R.length c)).run Tryd.prog wr = .ok (.string (bs R)) wr :=
          run_convert_bytes_back (P := Tryd.prog) wr 26 9 5 ⟨g, 0, none⟩ c R Tryd.underlying26 Tryd.underlying5 Tryd.underlying9 (fun j hj => by
            rw [add_at, Nat.zero_add]
            exact hcs j _ (byteVs_at _ j hj))
        clear hcs
        go_wp2
        go_ret
        exact ⟨rfl, HK.out⟩
end Go.Proofs.YtkklmogcohlbhaaDoor
