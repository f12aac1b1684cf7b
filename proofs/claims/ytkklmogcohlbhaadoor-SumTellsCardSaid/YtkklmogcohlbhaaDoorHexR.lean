/- Hexadecimal digits: the reference's, by strconv.FormatInt at base 16. -/
import Derived.Test.YtkklmogcohlbhaaDoorHex
namespace Go.Proofs.YtkklmogcohlbhaaDoor
open Go.RowKit Go.BigFrame
attribute [local go_sem] bs_size bs_extract bs_append bs_toList
/-- A digit of 36. -/
theorem digit36 (q : Nat) (hq : q < 16) (W : World) : (Instr.index 9 (.string ⟨#[48, 49, 50, 51, 52, 53, 54, 55, 56, 57, 97, 98, 99, 100, 101, 102, 103, 104, 105, 106, 107, 108, 109, 110, 111, 112, 113, 114, 115, 116, 117, 118, 119, 120, 121, 122]⟩) (.int .u64 (q : Int))).run Tryd.prog W = .ok (.int .u8 ((hexD.getD q 0).toNat : Int)) W := by
  rcases (show q = 0 ∨ q = 1 ∨ q = 2 ∨ q = 3 ∨ q = 4 ∨ q = 5 ∨ q = 6 ∨ q = 7 ∨ q = 8 ∨ q = 9 ∨ q = 10 ∨ q = 11 ∨ q = 12 ∨ q = 13 ∨ q = 14 ∨ q = 15 by omega) with rfl | rfl | rfl | rfl | rfl | rfl | rfl | rfl | rfl | rfl | rfl | rfl | rfl | rfl | rfl | rfl
  all_goals kernel_rfl
/-- An array of n bytes. -/
def bcells (n : Nat) (f : Nat → Int) : Array Value := ((List.range n).map fun j => Value.int .u8 (f j)).toArray
theorem bcells_at (n : Nat) (f : Nat → Int) (j : Nat) (h : j < n) : (bcells n f)[j]? = some (.int .u8 (f j)) := by simp [bcells, h]
theorem bcells_set (n : Nat) (f : Nat → Int) (i : Nat) (v : Int) : (bcells n f).setIfInBounds i (.int .u8 v) = bcells n (upd f i v) := by
  apply Array.ext
  · simp [bcells]
  · intro j h1 h2
    simp only [bcells, upd, List.setIfInBounds_toArray, List.getElem_toArray, List.getElem_set, List.getElem_map, List.getElem_range]
    by_cases h : i = j
    · subst h; simp
    · rw [if_neg h, if_neg (Ne.symm h)]
theorem Blk.byte {w : World} {gv n : Nat} {t : TypeId} {V : Nat → Int} (h : Blk w gv t (bcells n V)) (j : Nat) (v : Int) : Blk (w.setCell ⟨gv, j, none⟩ (.int .u8 v)) gv t (bcells n (upd V j v)) := by
  have := h.set j (.int .u8 v)
  rwa [bcells_set] at this
theorem tz16 (w : World) (ht : w.cell? ⟨3, 15, none⟩ = some (.int .u8 4)) :
    Calls Tryd.prog 25 #[.int .u64 16] w fun e w' => e = .returned (.int .i64 4) ∧ w = w' := by
  have h64 : Calls Tryd.prog 27 #[.int .u64 16] w fun e w' => e = .returned (.int .i64 4) ∧ w = w' := by
    have h1 : bits .and .u64 16 (IntKind.u64.wrap (-16)) = 16 := by decide
    have h2 : IntKind.u64.wrap (16 * 285870213051353865) = 4573923408821661840 := by decide
    have h3 : IntKind.u64.wrap 4573923408821661840 = 4573923408821661840 := by decide
    have hlt := World.block_lt_of_cell? _ _ ht
    go_enter Tryd.func27, Tryd.ntmps27
    go_wp2
    go_ret
    exact ⟨rfl, rfl⟩
  have H64 := Lib.hid h64
  clear h64
  go_enter Tryd.func25, Tryd.ntmps25
  go_wp2_with (go_at_call 27; refine H64.out.mono ?_; rintro e w2 ⟨rfl, rfl⟩)
  go_ret
  exact ⟨rfl, rfl⟩
theorem pow16 (w : World) : Calls Tryd.prog 24 #[.int .i64 16] w fun e w' => e = .returned (.bool true) ∧ w = w' := by
  have h1 : bits .and .i64 16 15 = 0 := by decide
  go_enter Tryd.func24, Tryd.ntmps24
  go_wp2
  go_ret
  exact ⟨rfl, rfl⟩
set_option maxHeartbeats 4000000 in
set_option maxRecDepth 100000 in
theorem fbits16 (b : Nat) (hb : b < 256) (w : World) (ht : w.cell? ⟨3, 15, none⟩ = some (.int .u8 4)) :
    Calls Tryd.prog 20 #[.slice none 0 0, .int .u64 ((256 + b : Nat) : Int), .int .i64 16, .bool false, .bool false] w fun e w' => e = .returned (.tuple #[.slice none 0 0, .string (bs (49 :: hex2 (UInt8.ofNat b)))]) ∧ Keeps [] w w' := by
  obtain ⟨u, hu⟩ : ∃ u : Nat, 256 + b = u := ⟨_, rfl⟩
  rw [hu]
  have hut : (UInt8.ofNat b).toNat = b := by rw [UInt8.toNat_ofNat']; omega
  have hh2 : hex2 (UInt8.ofNat b) = [hexD.getD (b / 16) 0, hexD.getD (b % 16) 0] := by unfold hex2; rw [hut]
  obtain ⟨p, hp⟩ : ∃ p, b / 16 = p := ⟨_, rfl⟩
  obtain ⟨q, hq⟩ : ∃ q, b % 16 = q := ⟨_, rfl⟩
  rw [hp, hq] at hh2
  obtain ⟨v, hv⟩ : ∃ v : Nat, 16 + p = v := ⟨_, rfl⟩
  have x1 : bits .and .u64 (u : Int) 15 = (q : Int) := by
    rw [show (15 : Int) = ((15 : Nat) : Int) from rfl, u64_and_nat u 15 (by omega) (by decide), nat_mask4]; omega
  have x2 : bits .and .u64 (v : Int) 15 = (p : Int) := by
    rw [show (15 : Int) = ((15 : Nat) : Int) from rfl, u64_and_nat v 15 (by omega) (by decide), nat_mask4]; omega
  have s1 : (u : Int) / 16 = (v : Int) := by omega
  have s2 : (v : Int) / 16 = 1 := by omega
  have g1 : (16 : Int) ≤ (u : Int) := by omega
  have g2 : (16 : Int) ≤ (v : Int) := by omega
  have d1 := fun W => digit36 q (by omega) W
  have d2 := fun W => digit36 p (by omega) W
  have d3 := fun W => digit36 1 (by decide) W
  obtain ⟨c1, hc1⟩ : ∃ c, hexD.getD q 0 = c := ⟨_, rfl⟩
  obtain ⟨c2, hc2⟩ : ∃ c, hexD.getD p 0 = c := ⟨_, rfl⟩
  rw [hc1] at d1 hh2
  rw [hc2] at d2 hh2
  rw [hh2]
  have HTZ := Lib.hid (fun W (k : Keeps [] w W) => tz16 W (k.cell_of ht (by simp)))
  clear hu hut hh2 hp hq hv hc1 hc2 ht hb
  have hz65 : ∀ W, Sem.run Tryd.prog (zeroValue 49) W = .ok (.agg (bcells 65 fun _ => 0)) W := fun _ => by kernel_rfl
  go_enter Tryd.func20, Tryd.ntmps20
  go_wp2_with (go_at_call 24; refine (pow16 _).mono ?_; rintro e w2 ⟨rfl, rfl⟩)
  refine (HTZ.out _ ((Keeps.refl _ _).alloc _)).mono ?_
  rintro e w3 ⟨rfl, rfl⟩
  go_upto_region 11 with (fail)
  have HB := Lib.hid (Blk.new w 49 (bcells 65 fun _ => 0))
  have HK := Lib.hid ((Keeps.refl [] w).alloc (.cells (bcells 65 fun _ => 0) 49))
  obtain ⟨W0, hW0⟩ : ∃ x, w.alloc (.cells (bcells 65 fun _ => 0) 49) = x := ⟨_, rfl⟩
  rw [hW0] at HB HK ⊢
  have HG : Hid (w.heap.size ≤ w.heap.size) := Lib.hid (Nat.le_refl _)
  generalize hg : w.heap.size = g at HB ⊢
  have HG : Hid (w.heap.size ≤ g) := Lib.hid (Nat.le_of_eq hg)
  clear hg hW0 hz65 HTZ
  go_loopw [1, 13] (fun a i wx => Hid (Keeps [] w wx) ∧ ((a = .int .u64 (u : Int) ∧ i = .int .i64 65 ∧ ∃ f, Hid (Blk wx g 49 (bcells 65 f))) ∨ (a = .int .u64 (v : Int) ∧ i = .int .i64 64 ∧ ∃ f, Hid (Blk wx g 49 (bcells 65 f) ∧ f 64 = (c1.toNat : Int))) ∨ (a = .int .u64 1 ∧ i = .int .i64 63 ∧ ∃ f, Hid (Blk wx g 49 (bcells 65 f) ∧ f 64 = (c1.toNat : Int) ∧ f 63 = (c2.toNat : Int))))) (fun _ i _ => (intOf i).toNat)
  case atStart => exact ⟨HK, .inl ⟨rfl, rfl, _, HB⟩⟩
  case round =>
    clear HB HK
    obtain ⟨HK, ⟨rfl, rfl, f, HB⟩ | ⟨rfl, rfl, f, HB⟩ | ⟨rfl, rfl, f, HB⟩⟩ := hrel
    · have y1 : wr.cell? ⟨g, 64, none⟩ = some (.int .u8 (f 64)) := (HB.out.cell 64).trans (bcells_at 65 f 64 (by decide))
      have y2 := HB.out.frozen 64
      have y3 := HB.out.lt
      go_wp2
      go_roundw
      case rel => exact ⟨Lib.hid (HK.out.setCell (.inr HG.out) _), .inr (.inl ⟨rfl, rfl, _, Lib.hid ⟨HB.out.byte 64 _, by unfold upd; rw [if_pos rfl]⟩⟩)⟩
      case measure => simp [intOf]
    · have y1 : wr.cell? ⟨g, 63, none⟩ = some (.int .u8 (f 63)) := (HB.out.1.cell 63).trans (bcells_at 65 f 63 (by decide))
      have y2 := HB.out.1.frozen 63
      have y3 := HB.out.1.lt
      go_wp2
      go_roundw
      case rel => exact ⟨Lib.hid (HK.out.setCell (.inr HG.out) _), .inr (.inr ⟨rfl, rfl, _, Lib.hid ⟨HB.out.1.byte 63 _, by unfold upd; rw [if_neg (by decide)]; exact HB.out.2, by unfold upd; rw [if_pos rfl]⟩⟩)⟩
      case measure => simp [intOf]
    · have y1 : wr.cell? ⟨g, 62, none⟩ = some (.int .u8 (f 62)) := (HB.out.1.cell 62).trans (bcells_at 65 f 62 (by decide))
      have y2 := HB.out.1.frozen 62
      have y3 := HB.out.1.lt
      have z1 : (wr.setCell ⟨g, 62, none⟩ (.int .u8 49)).cell? ⟨g, 62, none⟩ = some (.int .u8 49) := ((HB.out.1.byte 62 49).cell 62).trans ((bcells_at 65 _ 62 (by decide)).trans (by unfold upd; rw [if_pos rfl]))
      have z2 : (wr.setCell ⟨g, 62, none⟩ (.int .u8 49)).cell? ⟨g, 63, none⟩ = some (.int .u8 (c2.toNat : Int)) := ((HB.out.1.byte 62 49).cell 63).trans ((bcells_at 65 _ 63 (by decide)).trans (by unfold upd; rw [if_neg (by decide), HB.out.2.2]))
      have z3 : (wr.setCell ⟨g, 62, none⟩ (.int .u8 49)).cell? ⟨g, 64, none⟩ = some (.int .u8 (c1.toNat : Int)) := ((HB.out.1.byte 62 49).cell 64).trans ((bcells_at 65 _ 64 (by decide)).trans (by unfold upd; rw [if_neg (by decide), HB.out.2.1]))
      have HCV : Hid ((convert 26 9 (.slice (some ⟨g, 62, none⟩) 3 3)).run Tryd.prog (wr.setCell ⟨g, 62, none⟩ (.int .u8 49)) = .ok (.string (bs [49, c2, c1])) (wr.setCell ⟨g, 62, none⟩ (.int .u8 49))) := Lib.hid (run_convert_bytes_back (P := Tryd.prog) _ 26 9 5 ⟨g, 62, none⟩ 3 [49, c2, c1] Tryd.underlying26 Tryd.underlying5 Tryd.underlying9 (fun j hj => by
        rcases j with _ | _ | _ | j
        · rw [add_at]; exact z1
        · rw [add_at]; exact z2
        · rw [add_at]; exact z3
        · simp at hj; omega))
      have HKF := Lib.hid (HK.out.setCell (p := ⟨g, 62, none⟩) (.inr HG.out) (.int .u8 49))
      clear z1 z2 z3
      go_upto_region 30 with (fail)
      change Code.wp _ _ _ _ (wr.setCell ⟨g, 62, none⟩ (.int .u8 49))
      obtain ⟨w5, hw5⟩ : ∃ x, wr.setCell ⟨g, 62, none⟩ (.int .u8 49) = x := ⟨_, rfl⟩
      have y4 : g < w5.heap.size := by rw [← hw5]; exact (HB.out.1.byte 62 49).lt
      rw [hw5] at HCV HKF ⊢
      have hcv := HCV.out
      clear y1 y2 y3 hw5
      go_wp2
      go_ret2
      exact ⟨rfl, HKF.out⟩
/-- strconv.FormatInt at base 16, of a byte and 256. -/
theorem fint16 (b : Nat) (hb : b < 256) (w : World) (ht : w.cell? ⟨3, 15, none⟩ = some (.int .u8 4)) :
    Calls Tryd.prog 12 #[.int .i64 ((256 + b : Nat) : Int), .int .i64 16] w fun e w' => e = .returned (.string (bs (49 :: hex2 (UInt8.ofNat b)))) ∧ Keeps [] w w' := by
  have hin : Calls Tryd.prog 15 #[.int .i64 ((256 + b : Nat) : Int), .int .i64 16] w fun e w' => e = .returned (.string (bs (49 :: hex2 (UInt8.ofNat b)))) ∧ Keeps [] w w' := by
    have HF := Lib.hid (fbits16 b hb w ht)
    obtain ⟨u, hu⟩ : ∃ u : Nat, 256 + b = u := ⟨_, rfl⟩
    rw [hu] at HF ⊢
    have hu1 : ¬ (u : Int) < 0 := by omega
    have hu2 : IntKind.u64.wrap (u : Int) = (u : Int) := by rw [IntKind.wrap_u64]; omega
    clear hu ht hb
    generalize bs (49 :: hex2 (UInt8.ofNat b)) = R at *
    go_enter Tryd.func15, Tryd.ntmps15
    go_wp2_with fail
    refine HF.out.mono ?_
    rintro e w2 ⟨rfl, hk⟩
    go_wp2
    go_ret
    exact ⟨rfl, hk⟩
  have HI := Lib.hid hin
  clear hin ht hb
  generalize bs (49 :: hex2 (UInt8.ofNat b)) = R at *
  go_enter Tryd.func12, Tryd.ntmps12
  go_wp2_with fail
  refine HI.out.mono ?_
  rintro e w2 ⟨rfl, hk⟩
  go_wp2
  go_ret
  exact ⟨rfl, hk⟩
set_option maxHeartbeats 4000000 in
theorem rhex_any (s : Bs) (hs : s.length ≤ 400) (w : World) (ht : w.cell? ⟨3, 15, none⟩ = some (.int .u8 4)) :
    Calls Tryd.prog 7 #[.string (bs s)] w fun e w' => e = .returned (.string (bs (hexL s))) ∧ Keeps [] w w' := by
  have HT := Lib.hid ht
  obtain ⟨R, hR⟩ : ∃ R, hexL s = R := ⟨_, rfl⟩
  rw [hR]
  have HRR := Lib.hid hR
  clear hR ht
  go_enter Tryd.func7, Tryd.ntmps7
  go_wp2
  go_loopw [3, 7] (fun v i wx => ∃ n : Nat, v = .string (bs (hexL (s.take n))) ∧ n ≤ s.length ∧ i = .int .i64 (n : Int) ∧ Hid (Keeps [] w wx)) (fun _ i _ => s.length - (intOf i).toNat)
  case atStart => exact ⟨0, rfl, Nat.zero_le _, rfl, Lib.hid (Keeps.refl _ _)⟩
  case round =>
    obtain ⟨n, rfl, hn, rfl, HK⟩ := hrel
    by_cases hlt : n < s.length
    · have hlt2 : (n : Int) < (s.length : Int) := by omega
      have hn0 : (0 : Int) ≤ (n : Int) := by omega
      have hnx : hexL (s.take (n + 1)) = hexL (s.take n) ++ hex2 s[n] := by rw [List.take_succ_eq_append_getElem hlt, hexL_snoc]
      have HNX := Lib.hid hnx
      have hsi : ∀ h : n < (bs s).size, (((bs s)[n]'h).toNat : Int) = ((s[n]'hlt).toNat : Int) := fun h => by rw [bs_get s n h]
      obtain ⟨X, hX⟩ : ∃ X, hexL (s.take n) = X := ⟨_, rfl⟩
      have hXl : X.length ≤ 800 := by rw [← hX, hexL_length, List.length_take]; omega
      rw [hX] at HNX ⊢
      clear hnx hX
      generalize s[n] = bb at hsi HNX
      have hbl := UInt8.toNat_lt bb
      have HF := Lib.hid (fun W (k : Keeps [] w W) => fint16 bb.toNat hbl W (k.cell_of HT.out (by simp)))
      rw [UInt8.ofNat_toNat] at HF
      obtain ⟨b, hb⟩ : ∃ b : Nat, bb.toNat = b := ⟨_, rfl⟩
      rw [hb] at hsi hbl HF
      have e0 : (b : Int) + 256 = ((256 + b : Nat) : Int) := by omega
      have e1 : IntKind.i64.wrap ((256 + b : Nat) : Int) = ((256 + b : Nat) : Int) := IntWalk.i64_in _ (by omega)
      have e2 : IntKind.i64.wrap (b : Int) = (b : Int) := IntWalk.i64_in _ (by omega)
      obtain ⟨c1, c2, hh⟩ : ∃ c1 c2, hex2 bb = [c1, c2] := ⟨_, _, rfl⟩
      rw [hh] at HF HNX
      have hb1 : ¬ (9223372036854775807 : Int) < (X.length : Int) + 2 := by omega
      clear hh hb
      generalize 256 + b = u at *
      go_wp2_with fail
      refine (HF.out _ HK.out).mono ?_
      rintro e w5 ⟨rfl, hk5⟩
      have HK5 := Lib.hid (HK.out.trans hk5)
      clear hk5
      go_wp2
      go_roundw
      case rel => exact ⟨n + 1, by rw [HNX.out], by omega, by go_num, HK5⟩
      case measure => simp [intOf]; omega
    · obtain rfl : n = s.length := by omega
      rw [List.take_length, HRR.out]
      go_wp2
      go_ret
      exact ⟨rfl, HK.out⟩
end Go.Proofs.YtkklmogcohlbhaaDoor
