/- sum.Sum: a text's SHA-256. -/
import Derived.Test.YtkklmogcohlbhaaDoorSha
import Derived.Lib.ConvBytes
import Derived.Deep.Upon
import Derived.Deep.CutRange
import Derived.Deep.DeepCutAuto
import Derived.Deep.CutBlock
namespace Go.Proofs.YtkklmogcohlbhaaDoor
open Go.RowKit
attribute [local go_sem] bs_size bs_extract bs_append bs_toList
def byteVs (l : Bs) : List Value := l.map fun b => .int .u8 (b.toNat : Int)
theorem byteVs_at (l : Bs) (j : Nat) (h : j < l.length) : (byteVs l)[j]? = some (.int .u8 (l[j].toNat : Int)) := by simp [byteVs, h]
theorem byteVs_len (l : Bs) : (byteVs l).length = l.length := by simp [byteVs]
theorem byteVs_append (l m : Bs) : byteVs (l ++ m) = byteVs l ++ byteVs m := by simp [byteVs]
/-- The row that a conversion of a text makes, as one that came in. -/
theorem conv_came (w : World) (t : TypeId) (s : Bs) : Came (Lib.bytesWorld w t (bs s)) 1 (some ⟨w.heap.size, 0, none⟩) w.heap.size 0 s.length (grownCap w (bs s).size 0 t) (byteVs s) := by
  have hsz := Lib.bytesWorld_size w t (bs s)
  have hat := Lib.bytesWorld_at_new w t (bs s)
  have hle : s.length ≤ grownCap w (bs s).size 0 t := by rw [← bs_size]; exact grownCap_ge w _ _ _
  have hcs : (Lib.bytesCells w t (bs s)).size = grownCap w (bs s).size 0 t := by
    unfold Lib.bytesCells
    simp only [Array.size_append, Array.size_map, Array.size_replicate]
    show (bs s).size + _ = _
    have := grownCap_ge w (bs s).size 0 t
    omega
  refine ⟨hle, fun _ => rfl, fun _ => by rw [hsz]; exact Nat.lt_succ_self _, by rw [byteVs_len, Nat.mul_one], fun j u hu => ?_, fun j hj => ?_⟩
  · have hj : j < s.length := by rw [← byteVs_len]; exact (List.getElem?_eq_some_iff.1 hu).1
    rw [Nat.zero_add, Lib.bytesWorld_cell w t (bs s) j (by rw [bs_size]; exact hj)]
    rw [byteVs_at s j hj] at hu
    rw [← hu]
    show some (Value.int .u8 ((s.getD j 0).toNat : Int)) = _
    rw [List.getD_eq_getElem?_getD, List.getElem?_eq_getElem hj]; rfl
  · have hj' : s.length * 1 + j < (Lib.bytesCells w t (bs s)).size := by rw [hcs]; omega
    refine ⟨?_, ?_⟩
    · unfold World.cell?
      simp only [Nat.zero_add, hat]
      rw [Array.getElem?_eq_getElem hj']
      rfl
    · unfold World.frozen?
      simp only [Nat.zero_add, hat]
      simp
      omega

theorem conv_keeps (w : World) (t : TypeId) (s : Bs) : Keeps [] w (Lib.bytesWorld w t (bs s)) :=
  ⟨by simp [Lib.bytesWorld, World.freeze]; rfl, by simp [Lib.bytesWorld, World.freeze]; rfl, by rw [Lib.bytesWorld_size]; exact Nat.le_succ _, fun k hk _ => Lib.bytesWorld_at_old w t (bs s) k hk⟩
/-- What has been appended behind a text's bytes. -/
def PadRel (W : World) (gb cap : Nat) (s l : Bs) (v : Value) (wr : World) : Prop :=
  ∃ r, Upon W 5 1 (some ⟨gb, 0, none⟩) gb 0 s.length cap (byteVs s) wr v l.length (byteVs l) r
def lenV : Value → Nat | .slice _ n _ => n | _ => 0
theorem PadRel.value {W wr : World} {gb cap : Nat} {s l : Bs} {v : Value} (h : PadRel W gb cap s l v wr) (hc : Came W 1 (some ⟨gb, 0, none⟩) gb 0 s.length cap (byteVs s)) (hm : cap ≤ maxLen) (hl : 0 < l.length := by simp) :
    ∃ g o' cap', v = .slice (some ⟨g, o', none⟩) (s.length + l.length) cap' ∧ s.length + l.length ≤ cap' ∧ ∀ j (hj : j < (s ++ l).length), wr.cell? ⟨g, o' + j, none⟩ = some (.int .u8 ((s ++ l)[j].toNat : Int)) := by
  obtain ⟨r, hu⟩ := h
  obtain ⟨g, o', cap', rfl, hle, _, hcell⟩ := hu.value hc hm (.inr hl)
  refine ⟨g, o', cap', rfl, hle, fun j hj => ?_⟩
  rw [hcell j (by rw [Nat.mul_one]; rw [List.length_append] at hj; exact hj), ← byteVs_append, byteVs_at _ j hj]
/-- How many bytes of 0 stand behind the mark. -/
def zc (n : Nat) : Nat := (119 - n % 64) % 64
theorem zc_lt (n : Nat) : zc n < 64 := Nat.mod_lt _ (by decide)
theorem PadRel.more {W wr : World} {gb cap r : Nat} {s l : Bs} {b : UInt8} {v : Value} (h : Upon W 5 1 (some ⟨gb, 0, none⟩) gb 0 s.length cap (byteVs s) wr v (l.length + 1) (byteVs l ++ [.int .u8 (b.toNat : Int)]) r) : PadRel W gb cap s (l ++ [b]) v wr := by
  refine ⟨r, ?_⟩
  rw [byteVs_append, List.length_append]
  exact h
/-- The length in bits, in eight bytes, the highest first. -/
def lenBs (n : Nat) : Bs := (List.range 8).map fun j => UInt8.ofNat (n / 2 ^ (8 * (7 - j)))
def h0 : Nat → Int := fun j => [1779033703, 3144134277, 1013904242, 2773480762, 1359893119, 2600822924, 528734635, 1541459225].getD j 0
/-- The eight words behind k blocks. -/
def shaSt (P : Bs) : Nat → Nat → Int
  | 0 => h0
  | k + 1 => blockF ((P.drop (64 * k)).take 64) (shaSt P k)
theorem idx8 (H : Nat → Int) (j : Nat) (hj : j < 8) (W : World) : (Instr.index 25 (.agg #[.int .u32 (H 0), .int .u32 (H 1), .int .u32 (H 2), .int .u32 (H 3), .int .u32 (H 4), .int .u32 (H 5), .int .u32 (H 6), .int .u32 (H 7)]) (.int .i64 (j : Int))).run Tryd.prog W = .ok (.int .u32 (H j)) W := by
  rcases (show j = 0 ∨ j = 1 ∨ j = 2 ∨ j = 3 ∨ j = 4 ∨ j = 5 ∨ j = 6 ∨ j = 7 by omega) with rfl | rfl | rfl | rfl | rfl | rfl | rfl | rfl
  all_goals kernel_rfl
/-- A word's four bytes. -/
def outB (x : Int) : Bs := [UInt8.ofNat (x / 16777216 % 256).toNat, UInt8.ofNat (x / 65536 % 256).toNat, UInt8.ofNat (x / 256 % 256).toNat, UInt8.ofNat (x % 256).toNat]
def outL (H : Nat → Int) (j : Nat) : Bs := (List.range j).flatMap fun i => outB (H i)
theorem outL_succ (H : Nat → Int) (j : Nat) : outL H (j + 1) = outL H j ++ outB (H j) := by simp [outL, List.range_succ]
theorem outL_length (H : Nat → Int) (j : Nat) : (outL H j).length = 4 * j := by
  induction j with
  | zero => rfl
  | succ j ih => rw [outL_succ, List.length_append, ih]; simp [outB]; omega
theorem byte_mod (y : Int) : ((UInt8.ofNat (y % 256).toNat).toNat : Int) = y % 256 := by
  have h : (UInt8.ofNat (y % 256).toNat).toNat = (y % 256).toNat % 256 := UInt8.toNat_ofNat'
  rw [h]; omega
theorem byteVs_outB (x : Int) : byteVs (outB x) = [.int .u8 (x / 16777216 % 256), .int .u8 (x / 65536 % 256), .int .u8 (x / 256 % 256), .int .u8 (x % 256)] := by
  simp only [byteVs, outB, List.map_cons, List.map_nil, byte_mod]
theorem alloc_size' (w : World) (o : Obj) : (w.alloc o).heap.size = w.heap.size + 1 := Array.size_push _
theorem lenBs_length (n : Nat) : (lenBs n).length = 8 := by simp [lenBs]
theorem lenBs_succ (n k p e : Nat) (hp : p + k = 7) (he : 8 * p = e) : (lenBs n).take (k + 1) = (lenBs n).take k ++ [UInt8.ofNat (n / 2 ^ e)] := by
  have hk : k < (lenBs n).length := by rw [lenBs_length]; omega
  rw [List.take_succ_eq_append_getElem hk]
  congr 2
  simp only [lenBs, List.getElem_map, List.getElem_range]
  rw [show 7 - k = p by omega, he]
theorem byte_of (n e : Nat) : (n : Int) / 2 ^ e % 256 = ((UInt8.ofNat (n / 2 ^ e)).toNat : Int) := by
  have h : (UInt8.ofNat (n / 2 ^ e)).toNat = n / 2 ^ e % 256 := UInt8.toNat_ofNat'
  rw [h, Int.natCast_emod, Int.natCast_ediv, Int.natCast_pow]
  rfl
theorem uinfo : (Tryd.prog.info? 5).map (fun i => (i.zero, i.size, i.bytes)) = some (some (.int .u8 0), 1, 1) := by kernel_rfl
/-- A text with its padding; its sum, as bytes. -/
def padL (s : Bs) : Bs := s ++ ([128] ++ List.replicate (zc s.length) 0 ++ lenBs (s.length * 8))
def shaL (s : Bs) : Bs := outL (shaSt (padL s) ((padL s).length / 64)) 8
theorem shaL_length (s : Bs) : (shaL s).length = 32 := outL_length _ _
set_option maxRecDepth 100000 in
set_option maxHeartbeats 4000000 in
theorem sum_any (s : Bs) (hs : s.length ≤ 4294967296) (w : World) (ht : ∀ j, j < 64 → w.cell? ⟨0, j, none⟩ = some (.int .u32 (kt j))) :
    Calls Tryd.prog 4 #[.string (bs s)] w fun e w' => e = .returned (.string (bs (shaL s))) ∧ Keeps [] w w' := by
  obtain ⟨i0, hi, hz0, hz1, hz2⟩ := info_parts uinfo
  have hcv : ∀ W, (convert 9 26 (.string (bs s))).run Tryd.prog W = .ok (.slice (some ⟨W.heap.size, 0, none⟩) (bs s).size (grownCap W (bs s).size 0 5)) (Lib.bytesWorld W 5 (bs s)) :=
    fun W => Lib.run_convert_string_bytes W _ _ _ _ Tryd.underlying9 Tryd.underlying26 Tryd.underlying5
  have HT := Lib.hid ht
  clear ht
  go_enter Tryd.func4, Tryd.ntmps4
  go_upto_region 3 with (fail)
  obtain ⟨W0, hW0⟩ : ∃ W0, w.alloc (.cells #[.int .u32 1779033703, .int .u32 3144134277, .int .u32 1013904242, .int .u32 2773480762, .int .u32 1359893119, .int .u32 2600822924, .int .u32 528734635, .int .u32 1541459225] 25) = W0 := ⟨_, rfl⟩
  rw [hW0]
  have hB0 : Blk W0 w.heap.size 25 (wcells 8 h0) := by rw [← hW0]; exact (Blk.new _ _ _).congr rfl
  have hK0 : Keeps [] w W0 := by rw [← hW0]; exact (Keeps.refl _ _).alloc _
  have hC := conv_came W0 5 s
  rw [bs_size] at hC
  have hB1 : Blk (Lib.bytesWorld W0 5 (bs s)) w.heap.size 25 (wcells 8 h0) := (Lib.bytesWorld_at_old W0 5 (bs s) _ hB0.lt).trans hB0
  have hK1 : Keeps [] w (Lib.bytesWorld W0 5 (bs s)) := hK0.trans (conv_keeps W0 5 s)
  have hsz : W0.heap.size = w.heap.size + 1 := by rw [← hW0]; exact Array.size_push _
  have hgb : w.heap.size < w.heap.size + 1 := Nat.lt_succ_self _
  rw [hsz] at hC
  have HCM : grownCap W0 s.length 0 5 ≤ maxLen := grownCap_le_maxLen _ _ _ _ (by simp only [maxLen]; omega)
  clear hW0 hcv hB0 hK0 hsz
  generalize grownCap W0 s.length 0 5 = cap at hC HCM ⊢
  have HC := Lib.hid hC
  have HB := Lib.hid hB1
  have HK := Lib.hid hK1
  clear hC hB1 hK1
  generalize Lib.bytesWorld W0 5 (bs s) = W1 at HC HB HK ⊢
  generalize w.heap.size + 1 = gb at HC hgb ⊢
  generalize hgh : w.heap.size = gh at HB hgb ⊢
  have HGH := Lib.hid hgh
  clear hgh
  have hcle := HC.out.le
  have hu0 := Upon.start (e := 5) HC.out
  go_wp2_with (at_builtin; refine wpList_append_upon _ rfl _ _ _ _ rfl HC.out i0 _ 1 Tryd.underlying26 hi hz0 hz1 hz2 rfl rfl (hu0.alloc HC.out _) _ 1 [.int .u8 128] rfl (Src.ofSlice _ Tryd.underlying26 ⟨W1.heap.size, 0, none⟩ 1 1 _ rfl (World.news_of_block (heap_alloc_new _ _)) (by simp [Value.oneCell'])) (by simp only [maxLen]; omega) (by omega) ?_; intro v2 w2 hu2)
  have hp0 : PadRel W1 gb cap s [128] v2 w2 := ⟨_, hu2⟩
  clear hu2 hu0
  go_loopw [4] (fun v wr => ∃ m : Nat, m ≤ zc s.length ∧ PadRel W1 gb cap s ([128] ++ List.replicate m 0) v wr) (fun v _ => zc s.length + s.length + 1 - lenV v)
  case atStart => exact ⟨0, Nat.zero_le _, hp0⟩
  case round =>
    clear hp0
    obtain ⟨m, hm, hp⟩ := hrel
    obtain ⟨g, o', cap', rfl, -, hvc⟩ := hp.value HC.out HCM
    have HP := Lib.hid hp
    have HVC := Lib.hid hvc
    clear hp hvc
    have hlen : s.length + ([128] ++ List.replicate m (0 : UInt8)).length = s.length + 1 + m := by simp; omega
    rw [hlen] at HP ⊢
    obtain ⟨N, hN⟩ : ∃ N, s.length + 1 + m = N := ⟨_, rfl⟩
    obtain ⟨q, hq⟩ : ∃ q, N % 64 = q := ⟨_, rfl⟩
    have ht : (N : Int).tmod 64 = (q : Int) := by rw [← hq]; rfl
    rw [hN] at HP ⊢
    have hz : zc s.length = (119 - s.length % 64) % 64 := rfl
    by_cases he : m = zc s.length
    · have hb : ((q : Int) != 56) = false := by simp; omega
      subst he
      have HN := Lib.hid hN
      have HQ := Lib.hid hq
      clear hN hq hz hlen
      go_wp2
      obtain ⟨n8, hn8⟩ : ∃ n8 : Nat, s.length * 8 = n8 := ⟨_, rfl⟩
      rw [show (s.length : Int) * 8 = (n8 : Int) by omega]
      have HN8 := Lib.hid hn8
      clear hn8 ht hb
      go_loopw [4, 6] (fun v i wr => ∃ k : Nat, k ≤ 8 ∧ i = .int .i64 (7 - (k : Int)) ∧ PadRel W1 gb cap s ([128] ++ List.replicate (zc s.length) 0 ++ (lenBs n8).take k) v wr) (fun _ i _ => (intOf i + 1).toNat)
      case atStart => exact ⟨0, by omega, rfl, by simpa using HP.out⟩
      case round =>
        clear HP HVC
        obtain ⟨k, hk, rfl, hp⟩ := hrel
        by_cases hlt : k < 8
        · -- BEGIN len
          obtain ⟨p, hp7⟩ : ∃ p, p + k = 7 := ⟨7 - k, by omega⟩
          obtain ⟨g, o', cap', rfl, -, hvc⟩ := hp.value HC.out HCM
          obtain ⟨e, he⟩ : ∃ e, 8 * p = e := ⟨_, rfl⟩
          have e1 : (7 : Int) - (k : Int) = (p : Int) := by omega
          have e2 : (8 : Int) * (p : Int) = (e : Int) := by omega
          have e3 : IntKind.i64.wrap (e : Int) = (e : Int) := IntWalk.i64_in _ (by omega)
          have e4 : ¬ (e : Int) < 0 := by omega
          have e5 : (e : Int) ≤ 64 := by omega
          have e6 : (0 : Int) ≤ (p : Int) := by omega
          rw [e1]
          obtain ⟨l, hl⟩ : ∃ l : Bs, [128] ++ List.replicate (zc s.length) 0 ++ (lenBs n8).take k = l := ⟨_, rfl⟩
          have hll : l.length = 1 + zc s.length + k := by
            have := lenBs_length n8
            rw [← hl]; simp; omega
          have hnx : [128] ++ List.replicate (zc s.length) 0 ++ (lenBs n8).take (k + 1) = l ++ [UInt8.ofNat (n8 / 2 ^ e)] := by
            rw [lenBs_succ n8 k p e hp7 he, ← List.append_assoc, hl]
          rw [hl] at hp ⊢
          obtain ⟨N2, hN2⟩ : ∃ N, s.length + l.length = N := ⟨_, rfl⟩
          rw [hN2] at hp ⊢
          have hby : (n8 : Int) / 2 ^ e % 256 = ((UInt8.ofNat (n8 / 2 ^ e)).toNat : Int) := byte_of n8 e
          have HBY := Lib.hid hby
          have HNX := Lib.hid hnx
          have HLL := Lib.hid hll
          have HE := Lib.hid he
          have HP7 := Lib.hid hp7
          have HBD := Lib.hid (show s.length + l.length + 1 ≤ maxLen ∧ (s.length + l.length + 1) * 1 ≤ 140737488355328 by have := zc_lt s.length; rw [hll]; simp only [maxLen]; omega)
          obtain ⟨r, hu⟩ := hp
          clear hvc he hp7 e1 hl hll hN2 hnx hby
          go_wp2_with (at_builtin; refine wpList_append_upon _ rfl _ _ _ _ rfl HC.out i0 _ 1 Tryd.underlying26 hi hz0 hz1 hz2 rfl rfl (hu.alloc HC.out _) _ 1 [.int .u8 ((n8 : Int) / 2 ^ e % 256)] rfl (Src.ofSlice _ Tryd.underlying26 ⟨wr.heap.size, 0, none⟩ 1 1 _ rfl (World.news_of_block (heap_alloc_new _ _)) (by simp [Value.oneCell'])) HBD.out.1 HBD.out.2 ?_; intro v3 w3 hu3)
          rw [HBY.out] at hu3
          have HP3 := Lib.hid (PadRel.more hu3)
          have hk1 : IntKind.i64.wrap ((p : Int) - 1) = (p : Int) - 1 := IntWalk.i64_in _ (by omega)
          go_roundw
          case rel => exact ⟨k + 1, by omega, by have := HP7.out; congr 1; omega, by rw [HNX.out]; exact HP3.out⟩
          case measure =>
            show ((p : Int) - 1 + 1).toNat < ((p : Int) + 1).toNat
            omega
          -- END len
        · obtain rfl : k = 8 := by omega
          rw [List.take_of_length_le (by rw [lenBs_length]; exact Nat.le_refl _)] at hp
          rw [show (7 : Int) - ((8 : Nat) : Int) = -1 by omega]
          obtain ⟨g, o', cap', rfl, hcap, hvc⟩ := hp.value HC.out HCM
          obtain ⟨P, hPd⟩ : ∃ P : Bs, s ++ ([128] ++ List.replicate (zc s.length) 0 ++ lenBs n8) = P := ⟨_, rfl⟩
          have hpl : P.length = s.length + ([128] ++ List.replicate (zc s.length) 0 ++ lenBs n8).length := by rw [← hPd, List.length_append]
          have hnb : P.length % 64 = 0 ∧ P.length ≤ 4294967296 + 200 := by
            have := lenBs_length n8
            rw [hpl]
            simp only [List.length_append, List.length_replicate, List.length_cons, List.length_nil, this, zc]
            omega
          have hvc' : ∀ j (hj : j < P.length), wr.cell? ⟨g, o' + j, none⟩ = some (.int .u8 (P[j].toNat : Int)) := by subst hPd; exact hvc
          have hgc : g = gb ∨ W1.heap.size ≤ g := by
            obtain ⟨r, hu⟩ := hp
            rcases hu.val with ⟨_, hv, _⟩ | ⟨_, g9, c9, hv, ho⟩
            · left
              injection hv with a
              injection a with a
              injection a
            · right
              have : g = g9 := by
                injection hv with a
                injection a with a
                injection a
              rw [this]; exact ho.new
          have hKr : Keeps [] w wr := by
            obtain ⟨r, hu⟩ := hp
            refine ⟨hu.kept.1.trans HK.out.os, hu.kept.2.1.trans HK.out.output, Nat.le_trans HK.out.size hu.kept.size, fun i hi _ => ?_⟩
            have h1 : i < W1.heap.size := Nat.lt_of_lt_of_le hi HK.out.size
            refine (hu.kept.block h1 (fun q hq e => ?_)).trans (HK.out.block i hi (by simp))
            obtain ⟨j, _, rfl⟩ := hq
            have h2 : gb = i := e
            have := HGH.out
            omega
          have hBr : Blk wr gh 25 (wcells 8 h0) := by
            obtain ⟨r, hu⟩ := hp
            refine (hu.kept.block HB.out.lt (fun q hq e => ?_)).trans HB.out
            obtain ⟨j, _, rfl⟩ := hq
            have h2 : gb = gh := e
            omega
          rw [← hpl] at hcap ⊢
          have hggh : g ≠ gh := by
            have := HB.out.lt
            rcases hgc with h | h <;> omega
          have HVP := Lib.hid hvc'
          have HKr := Lib.hid hKr
          have HBr := Lib.hid hBr
          have HPM := Lib.hid hnb.1
          have hpb := hnb.2
          have HPD := Lib.hid hPd
          clear hvc hvc' hKr hBr hgc hpl hnb hp hPd
          have hgl : g < wr.heap.size ∨ P.length = 0 := by
            by_cases h0 : P.length = 0
            · exact .inr h0
            · left
              have := World.block_lt_of_cell? wr _ (HVP.out 0 (by omega))
              exact this
          go_wp2
          go_loopw [7] (fun i wb => ∃ k : Nat, 64 * k ≤ P.length ∧ i = .int .i64 ((64 * k : Nat) : Int) ∧ Keeps [gh] wr wb ∧ Blk wb gh 25 (wcells 8 (shaSt P k))) (fun i _ => P.length - (intOf i).toNat)
          case atStart => exact ⟨0, Nat.zero_le _, rfl, Keeps.refl _ _, HBr.out⟩
          case round =>
            clear HBr
            obtain ⟨k, hk, rfl, hkb, hbb⟩ := hrel
            by_cases hlt : 64 * k < P.length
            · -- BEGIN blk
              have hm := HPM.out
              obtain ⟨c, hc⟩ : ∃ c, 64 * k = c := ⟨_, rfl⟩
              have hcl : c + 64 ≤ P.length := by omega
              have hlt' : (c : Int) < (P.length : Int) := by omega
              have w1 : IntKind.i64.wrap ((c : Int) + 64) = (c : Int) + 64 := IntWalk.i64_in _ (by omega)
              have n1 : (0 : Int) ≤ (c : Int) + 64 := by omega
              have n2 : (c : Int) ≤ (c : Int) + 64 := by omega
              have n3 : (c : Int) + 64 ≤ (cap' : Int) := by omega
              have n4 : ((c : Int) + 64).toNat = c + 64 := by omega
              have n5 : c + 64 - c = 64 := by omega
              have n6 : c ≠ cap' := by omega
              have hch : ((P.drop c).take 64).length = 64 := by simp; omega
              have hcv2 : ∀ c9, (convert 26 9 (.slice (some ⟨g, o' + c, none⟩) 64 c9)).run Tryd.prog wr = .ok (.string (bs ((P.drop c).take 64))) wr := fun c9 => by
                have := run_convert_bytes_back (P := Tryd.prog) wr 26 9 5 ⟨g, o' + c, none⟩ c9 ((P.drop c).take 64) Tryd.underlying26 Tryd.underlying5 Tryd.underlying9 (fun j hj => by
                  rw [hch] at hj
                  have h1 := hkb.cell_of (p := ⟨g, o' + (c + j), none⟩) (HVP.out (c + j) (by omega)) (by simp; exact hggh)
                  rw [add_at, Nat.add_assoc, h1]
                  simp)
                rw [hch] at this
                exact this
              have hT := block_any ((P.drop c).take 64) hch (shaSt P k) gh wr hbb (fun j hj => hkb.cell_of (HKr.out.cell_of (HT.out j hj) (by simp)) (by have h1 := World.block_lt_of_cell? _ _ (HT.out 0 (by omega)); have h2 := HGH.out; simp only [List.mem_singleton]; simp only at h1; omega))
              rw [show ((64 * k : Nat) : Int) = (c : Int) by omega]
              have HT2 := Lib.hid hT
              have HC2 := Lib.hid hc
              have HKB := Lib.hid hkb
              have HCH := Lib.hid hch
              clear hT hc hkb hbb hm hch
              go_wp2_with fail
              refine HT2.out.mono ?_
              rintro ev W5 ⟨rfl, h5, k5⟩
              have H5 := Lib.hid h5
              have HK5 := Lib.hid (HKB.out.trans k5)
              clear h5 k5
              go_wp2
              go_roundw
              case rel => exact ⟨k + 1, by have := HC2.out; omega, by have := HC2.out; congr 1; omega, HK5.out, by show Blk _ _ _ (wcells 8 (blockF ((P.drop (64 * k)).take 64) (shaSt P k))); rw [HC2.out]; exact H5.out⟩
              case measure =>
                show P.length - ((c : Int) + 64).toNat < P.length - ((c : Int)).toNat
                omega
              -- END blk
            · have hk2 : 64 * k = P.length := by omega
              have HK2 := Lib.hid hk2
              have HKB := Lib.hid hkb
              have HBB := Lib.hid hbb
              rw [hk2]
              clear hk2 hkb hbb
              generalize hH : shaSt P k = H at HBB
              have HH := Lib.hid hH
              clear hH
              obtain ⟨wo, hwo⟩ : ∃ wo : World, wo = wr := ⟨_, rfl⟩
              subst hwo
              have u0 : wo.cell? ⟨gh, 0, none⟩ = some (.int .u32 (H 0)) := (HBB.out.cell 0).trans (wcells_at 8 H 0 (by omega))
              have u1 : wo.cell? ⟨gh, 1, none⟩ = some (.int .u32 (H 1)) := (HBB.out.cell 1).trans (wcells_at 8 H 1 (by omega))
              have u2 : wo.cell? ⟨gh, 2, none⟩ = some (.int .u32 (H 2)) := (HBB.out.cell 2).trans (wcells_at 8 H 2 (by omega))
              have u3 : wo.cell? ⟨gh, 3, none⟩ = some (.int .u32 (H 3)) := (HBB.out.cell 3).trans (wcells_at 8 H 3 (by omega))
              have u4 : wo.cell? ⟨gh, 4, none⟩ = some (.int .u32 (H 4)) := (HBB.out.cell 4).trans (wcells_at 8 H 4 (by omega))
              have u5 : wo.cell? ⟨gh, 5, none⟩ = some (.int .u32 (H 5)) := (HBB.out.cell 5).trans (wcells_at 8 H 5 (by omega))
              have u6 : wo.cell? ⟨gh, 6, none⟩ = some (.int .u32 (H 6)) := (HBB.out.cell 6).trans (wcells_at 8 H 6 (by omega))
              have u7 : wo.cell? ⟨gh, 7, none⟩ = some (.int .u32 (H 7)) := (HBB.out.cell 7).trans (wcells_at 8 H 7 (by omega))
              go_wp2
              go_loopw [8, 54] (fun v i wb => ∃ j : Nat, j ≤ 8 ∧ i = .int .i64 j ∧ wb.ownsRow wo.heap.size 5 1 v (outL H j).length (byteVs (outL H j)) ∧ Keeps [] wo wb) (fun _ i _ => 8 - (intOf i).toNat)
              case atStart => exact ⟨0, by omega, rfl, World.ownsRow_nil _ _ _ _, Keeps.refl _ _⟩
              case round =>
                clear u0 u1 u2 u3 u4 u5 u6 u7
                obtain ⟨j, hj, rfl, hown, hkj⟩ := hrel
                by_cases hj8 : j < 8
                · have hown' := hown.alloc
                  have hln := outL_length H j
                  have HO := Lib.hid hown
                  have HKJ := Lib.hid hkj
                  have HLN := Lib.hid hln
                  have hbo := Lib.hid (byteVs_outB (H j))
                  have hbd := Lib.hid (show (outL H j).length + 4 ≤ maxLen ∧ ((outL H j).length + 4) * 1 ≤ 140737488355328 by rw [hln]; simp only [maxLen]; omega)
                  clear hown hkj hln hown'
                  have xj := idx8 H j hj8
                  have hj8' : (j : Int) < 8 := by omega
                  go_wp2_with (at_builtin; refine wpList_append_lies _ rfl _ _ 26 rfl _ 5 i0 _ 1 1 Tryd.underlying26 hi hz0 hz1 hz2 rfl (by decide) _ (outL H j).length (byteVs (outL H j)) rfl (HO.out.alloc _) ⟨wr.heap.size, 0, none⟩ 4 4 [.int .u8 (H j / 16777216 % 256), .int .u8 (H j / 65536 % 256), .int .u8 (H j / 256 % 256), .int .u8 (H j % 256)] rfl rfl (World.news_of_block (heap_alloc_new _ _)) (by simp [Value.oneCell']) (by decide) hbd.out.1 hbd.out.2 (Nat.le_trans HKJ.out.size (by rw [alloc_size']; exact Nat.le_succ _)) _ rfl ?_; intro gw cap2 w3 hown3 hgrow3 hat3 hlt3)
                  rw [← hbo.out, ← byteVs_append, ← outL_succ] at hown3
                  have hk3 : Keeps [] wo w3 := (HKJ.out.alloc _).grown hgrow3 (fun b hb => .inr (HO.out.lt b hb).1)
                  have h44 : (outL H j).length + 4 = (outL H (j + 1)).length := by rw [outL_length, outL_length]; omega
                  rw [h44] at hown3
                  have HO3 := Lib.hid hown3
                  have HK3 := Lib.hid hk3
                  have H44 := Lib.hid h44
                  clear hown3 hk3 h44 xj
                  go_roundw
                  case rel => exact ⟨j + 1, by omega, by go_num, by rw [H44.out]; exact HO3.out, HK3.out⟩
                  case measure => simp [intOf]; omega
                · obtain rfl : j = 8 := by omega
                  obtain ⟨A3, c3, rfl, hA3⟩ := own_form hown
                  have hln := outL_length H 8
                  obtain ⟨g3, rfl, -, hc3⟩ := hA3 (by omega)
                  have hcv3 : (convert 26 9 (.slice (some ⟨g3, 0, none⟩) (outL H 8).length c3)).run Tryd.prog wr = .ok (.string (bs (outL H 8))) wr :=
                    run_convert_bytes_back (P := Tryd.prog) wr 26 9 5 ⟨g3, 0, none⟩ c3 (outL H 8) Tryd.underlying26 Tryd.underlying5 Tryd.underlying9 (fun j hj => by
                      rw [add_at, Nat.zero_add]
                      exact hc3 j _ (byteVs_at _ j hj))
                  have HKE : Keeps [] w wr := (HKr.out.trans' HKB.out (fun x hx hl => by
                    have h2 := HGH.out
                    rw [List.mem_singleton.1 hx] at hl
                    omega)).trans hkj
                  have hfin : outL H 8 = shaL s := by
                    have h8 := HN8.out
                    have h2 := HPD.out
                    have hP : P = padL s := by rw [← h2, ← h8]; rfl
                    unfold shaL
                    rw [← hP, show P.length / 64 = k by have := HK2.out; omega, HH.out]
                  have HFIN := Lib.hid hfin
                  have HKE2 := Lib.hid HKE
                  clear hown hkj hA3 hc3 hln hfin HKE
                  go_wp2
                  go_ret
                  exact ⟨by rw [HFIN.out]; rfl, HKE2.out⟩
    · -- BEGIN pad
      have hb : ((q : Int) != 56) = true := by simp; omega
      have HN := Lib.hid hN
      have HQ := Lib.hid hq
      have HE := Lib.hid he
      have HZ := Lib.hid hz
      clear hN hq he hz hlen
      obtain ⟨r, hu⟩ := HP.out
      have hbd : s.length + ([128] ++ List.replicate m (0 : UInt8)).length + 1 ≤ 9223372036854775807 ∧ (s.length + ([128] ++ List.replicate m (0 : UInt8)).length + 1) * 1 ≤ 140737488355328 := by
        have := zc_lt s.length
        rw [List.length_append, List.length_replicate]
        simp only [List.length_cons, List.length_nil]
        omega
      have HBD := Lib.hid hbd
      clear hbd
      go_wp2_with (at_builtin; refine wpList_append_upon _ rfl _ _ _ _ rfl HC.out i0 _ 1 Tryd.underlying26 hi hz0 hz1 hz2 rfl rfl (hu.alloc HC.out _) _ 1 [.int .u8 0] rfl (Src.ofSlice _ Tryd.underlying26 ⟨wr.heap.size, 0, none⟩ 1 1 _ rfl (World.news_of_block (heap_alloc_new _ _)) (by simp [Value.oneCell'])) HBD.out.1 HBD.out.2 ?_; intro v3 w3 hu3)
      have hp3 : PadRel W1 gb cap s ([128] ++ List.replicate (m + 1) 0) v3 w3 := by rw [List.replicate_succ', ← List.append_assoc]; exact PadRel.more hu3
      have hl3 : lenV v3 = s.length + 1 + (m + 1) := by
        obtain ⟨g3, o3, c3, rfl, _, _⟩ := hp3.value HC.out HCM
        simp [lenV]; omega
      have HP3 := Lib.hid hp3
      have HL3 := Lib.hid hl3
      clear hp3 hl3 hu3 hu
      go_roundw
      case rel => exact ⟨m + 1, by have := HE.out; omega, HP3.out⟩
      case measure =>
        have h1 := HE.out
        have h2 := HN.out
        rw [HL3.out]
        show _ < zc s.length + s.length + 1 - N
        omega
      -- END pad
end Go.Proofs.YtkklmogcohlbhaaDoor
