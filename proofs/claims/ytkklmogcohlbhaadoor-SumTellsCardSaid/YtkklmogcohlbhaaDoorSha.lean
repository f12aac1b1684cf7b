/- SHA-256: one block. -/
import Derived.Test.YtkklmogcohlbhaaDoorWord
import Derived.Deep.QuietTactic
namespace Go.Proofs.YtkklmogcohlbhaaDoor
open Go.RowKit
attribute [local go_sem] bs_size bs_extract bs_append bs_toList

/-- An array of n words. -/
def wcells (n : Nat) (f : Nat → Int) : Array Value := ((List.range n).map fun j => Value.int .u32 (f j)).toArray
theorem wcells_at (n : Nat) (f : Nat → Int) (j : Nat) (h : j < n) : (wcells n f)[j]? = some (.int .u32 (f j)) := by simp [wcells, h]
def upd (f : Nat → Int) (i : Nat) (v : Int) : Nat → Int := fun j => if j = i then v else f j
theorem wcells_set (n : Nat) (f : Nat → Int) (i : Nat) (v : Int) : (wcells n f).setIfInBounds i (.int .u32 v) = wcells n (upd f i v) := by
  apply Array.ext
  · simp [wcells]
  · intro j h1 h2
    simp only [wcells, upd, List.setIfInBounds_toArray, List.getElem_toArray, List.getElem_set, List.getElem_map, List.getElem_range]
    by_cases h : i = j
    · subst h; simp
    · rw [if_neg h, if_neg (Ne.symm h)]
/-- One of the first sixteen words: four bytes, the first one highest. -/
def byteAt (s : Bs) (i : Nat) : Int := ((s.getD i 0).toNat : Int)
def wordOf (a b c d : Int) : Int :=
  bits BinOp.or IntKind.u32 (bits BinOp.or IntKind.u32 (bits BinOp.or IntKind.u32 (a % 4294967296 * 16777216 % 4294967296) (b % 4294967296 * 65536 % 4294967296)) (c % 4294967296 * 256 % 4294967296)) (d % 4294967296)
def word16 (s : Bs) (i : Nat) : Int := wordOf (byteAt s (4 * i)) (byteAt s (4 * i + 1)) (byteAt s (4 * i + 2)) (byteAt s (4 * i + 3))
theorem byte_get (s : Bs) (i : Nat) (h : i < (bs s).size) : (((bs s)[i]'h).toNat : Int) = byteAt s i := by
  have h' : i < s.length := by rw [bs_size] at h; exact h
  unfold byteAt
  rw [bs_get s i h, List.getD_eq_getElem?_getD, List.getElem?_eq_getElem h', Option.getD_some]
theorem word16_of (s : Bs) (k q : Nat) (hq : 4 * k = q) (h0 : q < (bs s).size) (h1 : q + 1 < (bs s).size) (h2 : q + 2 < (bs s).size) (h3 : q + 3 < (bs s).size) :
    wordOf (((bs s)[q]'h0).toNat : Int) (((bs s)[q + 1]'h1).toNat : Int) (((bs s)[q + 2]'h2).toNat : Int) (((bs s)[q + 3]'h3).toNat : Int) = word16 s k := by
  subst hq
  rw [byte_get, byte_get, byte_get, byte_get]
  rfl
/-- The words of a block, sixteen of them read, the others reckoned. -/
def s0 (x : Int) : Int := bits BinOp.xor IntKind.u32 (bits BinOp.xor IntKind.u32 (rotI x 7) (rotI x 18)) (x / 8)
def s1 (x : Int) : Int := bits BinOp.xor IntKind.u32 (bits BinOp.xor IntKind.u32 (rotI x 17) (rotI x 19)) (x / 1024)
def sched (s : Bs) (i : Nat) : Int :=
  if h : i < 16 then word16 s i else (sched s (i - 16) + s0 (sched s (i - 15)) + sched s (i - 7) + s1 (sched s (i - 2))) % 4294967296
  termination_by i
theorem sched_lo (s : Bs) (i : Nat) (h : i < 16) : sched s i = word16 s i := by unfold sched; rw [dif_pos h]
theorem sched_hi (s : Bs) (i a b c d : Nat) (h : 16 ≤ i) (ha : a + 16 = i) (hb : b + 15 = i) (hc : c + 7 = i) (hd : d + 2 = i) :
    sched s i = (sched s a + s0 (sched s b) + sched s c + s1 (sched s d)) % 4294967296 := by
  rw [sched, dif_neg (by omega), show i - 16 = a by omega, show i - 15 = b by omega, show i - 7 = c by omega, show i - 2 = d by omega]
/-- The table of rounds. -/
def ktab : List Int := [1116352408, 1899447441, 3049323471, 3921009573, 961987163, 1508970993, 2453635748, 2870763221, 3624381080, 310598401, 607225278, 1426881987, 1925078388, 2162078206, 2614888103, 3248222580, 3835390401, 4022224774, 264347078, 604807628, 770255983, 1249150122, 1555081692, 1996064986, 2554220882, 2821834349, 2952996808, 3210313671, 3336571891, 3584528711, 113926993, 338241895, 666307205, 773529912, 1294757372, 1396182291, 1695183700, 1986661051, 2177026350, 2456956037, 2730485921, 2820302411, 3259730800, 3345764771, 3516065817, 3600352804, 4094571909, 275423344, 430227734, 506948616, 659060556, 883997877, 958139571, 1322822218, 1537002063, 1747873779, 1955562222, 2024104815, 2227730452, 2361852424, 2428436474, 2756734187, 3204031479, 3329325298]
def kt (i : Nat) : Int := ktab.getD i 0
/-- One round on eight words. -/
def e1 (x : Int) : Int := bits BinOp.xor IntKind.u32 (bits BinOp.xor IntKind.u32 (rotI x 6) (rotI x 11)) (rotI x 25)
def e0 (x : Int) : Int := bits BinOp.xor IntKind.u32 (bits BinOp.xor IntKind.u32 (rotI x 2) (rotI x 13)) (rotI x 22)
def chI (x y z : Int) : Int := bits BinOp.xor IntKind.u32 (bits BinOp.and IntKind.u32 x y) (bits BinOp.and IntKind.u32 (bits BinOp.xor IntKind.u32 IntKind.u32.max x) z)
def majI (x y z : Int) : Int := bits BinOp.xor IntKind.u32 (bits BinOp.xor IntKind.u32 (bits BinOp.and IntKind.u32 x y) (bits BinOp.and IntKind.u32 x z)) (bits BinOp.and IntKind.u32 y z)
def oneI (V : Nat → Int) (K W : Int) : Int := V 7 + e1 (V 4) + chI (V 4) (V 5) (V 6) + K + W
def twoI (V : Nat → Int) : Int := e0 (V 0) + majI (V 0) (V 1) (V 2)
def rnd (V : Nat → Int) (K W : Int) : Nat → Int
  | 0 => (oneI V K W + twoI V) % 4294967296
  | 1 => V 0
  | 2 => V 1
  | 3 => V 2
  | 4 => (V 3 + oneI V K W) % 4294967296
  | 5 => V 4
  | 6 => V 5
  | 7 => V 6
  | _ => 0
theorem wcells_congr {n : Nat} {f g : Nat → Int} (h : ∀ j, j < n → f j = g j) : wcells n f = wcells n g := by
  unfold wcells
  congr 1
  exact List.map_congr_left fun j hj => by rw [h j (List.mem_range.1 hj)]
theorem Blk.word {w : World} {gv n : Nat} {t : TypeId} {V : Nat → Int} (h : Blk w gv t (wcells n V)) (j : Nat) (v : Int) : Blk (w.setCell ⟨gv, j, none⟩ (.int .u32 v)) gv t (wcells n (upd V j v)) := by
  have := h.set j (.int .u32 v)
  rwa [wcells_set] at this
theorem turn8 {w wr : World} {gw gv : Nat} {t t1 : TypeId} {c1 : Array Value} {V : Nat → Int} (hK : Keeps [] w wr) (hgv : w.heap.size ≤ gv) (hF : Blk wr gw t1 c1) (hne : gw ≠ gv) (hV : Blk wr gv t (wcells 8 V)) (F : Nat → Int) :
    Keeps [] w ((((((((wr.setCell ⟨gv, 0, none⟩ (.int .u32 (F 0))).setCell ⟨gv, 1, none⟩ (.int .u32 (F 1))).setCell ⟨gv, 2, none⟩ (.int .u32 (F 2))).setCell ⟨gv, 3, none⟩ (.int .u32 (F 3))).setCell ⟨gv, 4, none⟩ (.int .u32 (F 4))).setCell ⟨gv, 5, none⟩ (.int .u32 (F 5))).setCell ⟨gv, 6, none⟩ (.int .u32 (F 6))).setCell ⟨gv, 7, none⟩ (.int .u32 (F 7))) ∧ Blk ((((((((wr.setCell ⟨gv, 0, none⟩ (.int .u32 (F 0))).setCell ⟨gv, 1, none⟩ (.int .u32 (F 1))).setCell ⟨gv, 2, none⟩ (.int .u32 (F 2))).setCell ⟨gv, 3, none⟩ (.int .u32 (F 3))).setCell ⟨gv, 4, none⟩ (.int .u32 (F 4))).setCell ⟨gv, 5, none⟩ (.int .u32 (F 5))).setCell ⟨gv, 6, none⟩ (.int .u32 (F 6))).setCell ⟨gv, 7, none⟩ (.int .u32 (F 7))) gw t1 c1 ∧ Blk ((((((((wr.setCell ⟨gv, 0, none⟩ (.int .u32 (F 0))).setCell ⟨gv, 1, none⟩ (.int .u32 (F 1))).setCell ⟨gv, 2, none⟩ (.int .u32 (F 2))).setCell ⟨gv, 3, none⟩ (.int .u32 (F 3))).setCell ⟨gv, 4, none⟩ (.int .u32 (F 4))).setCell ⟨gv, 5, none⟩ (.int .u32 (F 5))).setCell ⟨gv, 6, none⟩ (.int .u32 (F 6))).setCell ⟨gv, 7, none⟩ (.int .u32 (F 7))) gv t (wcells 8 F) :=
  ⟨((((((((hK.setCell (p := ⟨gv, 0, none⟩) (.inr hgv) _).setCell (p := ⟨gv, 1, none⟩) (.inr hgv) _).setCell (p := ⟨gv, 2, none⟩) (.inr hgv) _).setCell (p := ⟨gv, 3, none⟩) (.inr hgv) _).setCell (p := ⟨gv, 4, none⟩) (.inr hgv) _).setCell (p := ⟨gv, 5, none⟩) (.inr hgv) _).setCell (p := ⟨gv, 6, none⟩) (.inr hgv) _).setCell (p := ⟨gv, 7, none⟩) (.inr hgv) _), ((((((((hF.far hne (p := ⟨gv, 0, none⟩) _).far hne (p := ⟨gv, 1, none⟩) _).far hne (p := ⟨gv, 2, none⟩) _).far hne (p := ⟨gv, 3, none⟩) _).far hne (p := ⟨gv, 4, none⟩) _).far hne (p := ⟨gv, 5, none⟩) _).far hne (p := ⟨gv, 6, none⟩) _).far hne (p := ⟨gv, 7, none⟩) _), ((((((((hV.word 0 (F 0)).word 1 (F 1)).word 2 (F 2)).word 3 (F 3)).word 4 (F 4)).word 5 (F 5)).word 6 (F 6)).word 7 (F 7)).congr (wcells_congr fun j hj => by
    rcases j with _ | _ | _ | _ | _ | _ | _ | _ | j
    all_goals first | rfl | omega)⟩
def rounds8 (s : Bs) (h : Nat → Int) : Nat → Nat → Int
  | 0 => h
  | k + 1 => rnd (rounds8 s h k) (kt k) (sched s k)
/-- What a block makes of eight words. -/
def blockF (s : Bs) (h : Nat → Int) (j : Nat) : Int := (h j + rounds8 s h 64 j) % 4294967296
/-- A word is written. -/
theorem words_step {wr : World} {gw : Nat} {f : Nat → Int} {t : TypeId} (hf : Blk wr gw t (wcells 64 f)) (k : Nat) (v : Int) : Blk (wr.setCell ⟨gw, k, none⟩ (.int .u32 v)).drew gw t (wcells 64 (upd f k v)) := by
  have := (hf.set k (.int .u32 v)).drew
  rwa [wcells_set] at this
theorem upd_at {f : Nat → Int} {k : Nat} {v : Int} {F : Nat → Int} (h : ∀ j, j < k → f j = F j) (hv : v = F k) : ∀ j, j < k + 1 → upd f k v j = F j := fun j hj => by
  unfold upd
  by_cases e : j = k
  · rw [if_pos e, e]; exact hv
  · rw [if_neg e]; exact h j (by omega)

set_option maxRecDepth 100000 in
set_option maxHeartbeats 4000000 in
theorem block_any (s : Bs) (hs : s.length = 64) (h : Nat → Int) (gh : Nat) (w : World) (hb : Blk w gh 25 (wcells 8 h)) (ht : ∀ j, j < 64 → w.cell? ⟨0, j, none⟩ = some (.int .u32 (kt j))) :
    Calls Tryd.prog 8 #[.pointer (some ⟨gh, 0, none⟩), .string (bs s)] w fun e w' => e = .returned (.tuple #[]) ∧ Blk w' gh 25 (wcells 8 (blockF s h)) ∧ Keeps [gh] w w' := by
  have hs' : (s.length : Int) = 64 := by omega
  have HB := Lib.hid hb
  have HT := Lib.hid ht
  clear ht
  have hgl := hb.lt
  clear hb
  go_enter Tryd.func8, Tryd.ntmps8
  go_wp2
  change Code.wp _ _ _ _ (w.alloc (.cells (wcells 64 fun _ => 0) 31))
  have hW := Blk.new w 31 (wcells 64 fun _ => 0)
  have hK : Keeps [] w (w.alloc (.cells (wcells 64 fun _ => 0) 31)) := (Keeps.refl _ _).alloc _
  have HW := Lib.hid hW
  have HK := Lib.hid hK
  have hne : w.heap.size ≠ gh := by omega
  clear hW hK
  generalize w.alloc (.cells (wcells 64 fun _ => 0) 31) = W1 at HW HK ⊢
  obtain ⟨gw, hgw'⟩ : ∃ gw, w.heap.size = gw := ⟨_, rfl⟩
  have hgw : w.heap.size ≤ gw := by omega
  rw [hgw'] at HW hne ⊢
  clear hgw'
  go_loopw [16] (fun i wr => ∃ k : Nat, k ≤ 16 ∧ i = .int .i64 k ∧ Keeps [] w wr ∧ ∃ f, Blk wr gw 31 (wcells 64 f) ∧ ∀ j, j < k → f j = sched s j) (fun i _ => 16 - (intOf i).toNat)
  case atStart => exact ⟨0, by omega, rfl, HK.out, _, HW.out, fun j hj => absurd hj (by omega)⟩
  case round =>
    clear HW HK
    obtain ⟨k, hk, rfl, hKr, f, hf, hfs⟩ := hrel
    by_cases hlt : k < 16
    · have c1 : wr.cell? ⟨gw, k, none⟩ = some (.int .u32 (f k)) := (hf.cell k).trans (wcells_at 64 f k (by omega))
      have c2 := hf.frozen k
      have c3 := hf.lt
      obtain ⟨q, hq⟩ : ∃ q, 4 * k = q := ⟨_, rfl⟩
      have hq' : (4 : Int) * (k : Int) = (q : Int) := by omega
      have w0 : IntKind.i64.wrap (q : Int) = (q : Int) := IntWalk.i64_in _ (by omega)
      have w1 : IntKind.i64.wrap ((q : Int) + 1) = (q : Int) + 1 := IntWalk.i64_in _ (by omega)
      have w2 : IntKind.i64.wrap ((q : Int) + 2) = (q : Int) + 2 := IntWalk.i64_in _ (by omega)
      have w3 : IntKind.i64.wrap ((q : Int) + 3) = (q : Int) + 3 := IntWalk.i64_in _ (by omega)
      have b0 : ((q : Nat) : Int) < 64 := by omega
      have b1 : (q : Int) + 1 < 64 := by omega
      have a1 : 0 ≤ (q : Int) + 1 := by omega
      have t1 : ((q : Int) + 1).toNat = q + 1 := by omega
      have b2 : (q : Int) + 2 < 64 := by omega
      have a2 : 0 ≤ (q : Int) + 2 := by omega
      have t2 : ((q : Int) + 2).toNat = q + 2 := by omega
      have b3 : (q : Int) + 3 < 64 := by omega
      have a3 : 0 ≤ (q : Int) + 3 := by omega
      have t3 : ((q : Int) + 3).toNat = q + 3 := by omega
      have n0 : q < s.length := by omega
      have n1 : q + 1 < s.length := by omega
      have n2 : q + 2 < s.length := by omega
      have n3 : q + 3 < s.length := by omega
      have HF := Lib.hid hf
      have HS := Lib.hid hfs
      have HKr := Lib.hid hKr
      have HQ := Lib.hid hq
      have HSS := Lib.hid hs
      clear hf hfs hKr hq hs
      go_wp2
      go_region
      all_goals go_wp2
      all_goals go_roundw
      case rel => exact ⟨k + 1, by omega, by go_num, (HKr.out.setCell (.inr hgw) _).drew, _, words_step HF.out k _, upd_at HS.out (by rw [sched_lo s k hlt]; exact word16_of s k q HQ.out _ _ _ _)⟩
      case measure => simp [intOf]; omega
    · obtain rfl : k = 16 := by omega
      have HF := Lib.hid hf
      have HS := Lib.hid hfs
      have HKr := Lib.hid hKr
      clear hf hfs hKr
      go_wp2
      go_loopw [6] (fun i wr => ∃ k : Nat, 16 ≤ k ∧ k ≤ 64 ∧ i = .int .i64 k ∧ Keeps [] w wr ∧ ∃ f, Blk wr gw 31 (wcells 64 f) ∧ ∀ j, j < k → f j = sched s j) (fun i _ => 64 - (intOf i).toNat)
      case atStart => exact ⟨16, by omega, by omega, rfl, HKr.out, f, HF.out, HS.out⟩
      case round =>
        clear HF HS HKr
        obtain ⟨k, hk1, hk, rfl, hKr, f, hf, hfs⟩ := hrel
        by_cases hlt : k < 64
        · obtain ⟨a16, h16⟩ : ∃ a, a + 16 = k := ⟨k - 16, by omega⟩
          obtain ⟨a15, h15⟩ : ∃ a, a + 15 = k := ⟨k - 15, by omega⟩
          obtain ⟨a7, h7⟩ : ∃ a, a + 7 = k := ⟨k - 7, by omega⟩
          obtain ⟨a2, h2⟩ : ∃ a, a + 2 = k := ⟨k - 2, by omega⟩
          have c0 : wr.cell? ⟨gw, k, none⟩ = some (.int .u32 (f k)) := (hf.cell k).trans (wcells_at 64 f k (by omega))
          have c16 : wr.cell? ⟨gw, a16, none⟩ = some (.int .u32 (f a16)) := (hf.cell a16).trans (wcells_at 64 f a16 (by omega))
          have c15 : wr.cell? ⟨gw, a15, none⟩ = some (.int .u32 (f a15)) := (hf.cell a15).trans (wcells_at 64 f a15 (by omega))
          have c7 : wr.cell? ⟨gw, a7, none⟩ = some (.int .u32 (f a7)) := (hf.cell a7).trans (wcells_at 64 f a7 (by omega))
          have c2 : wr.cell? ⟨gw, a2, none⟩ = some (.int .u32 (f a2)) := (hf.cell a2).trans (wcells_at 64 f a2 (by omega))
          have e16 : (k : Int) - 16 = (a16 : Int) := by omega
          have e15 : (k : Int) - 15 = (a15 : Int) := by omega
          have e7 : (k : Int) - 7 = (a7 : Int) := by omega
          have e2 : (k : Int) - 2 = (a2 : Int) := by omega
          have w16 : IntKind.i64.wrap (a16 : Int) = (a16 : Int) := IntWalk.i64_in _ (by omega)
          have w15 : IntKind.i64.wrap (a15 : Int) = (a15 : Int) := IntWalk.i64_in _ (by omega)
          have w7 : IntKind.i64.wrap (a7 : Int) = (a7 : Int) := IntWalk.i64_in _ (by omega)
          have w2 : IntKind.i64.wrap (a2 : Int) = (a2 : Int) := IntWalk.i64_in _ (by omega)
          have b16 : (a16 : Int) < 64 := by omega
          have b15 : (a15 : Int) < 64 := by omega
          have b7 : (a7 : Int) < 64 := by omega
          have b2 : (a2 : Int) < 64 := by omega
          have HE := Lib.hid (sched_hi s k a16 a15 a7 a2 hk1 h16 h15 h7 h2)
          have HS := Lib.hid hfs
          have hl := hf.lt
          have HF := Lib.hid hf
          have HKr := Lib.hid hKr
          have HSS := Lib.hid hs
          clear hf hfs hKr h16 h15 h7 h2 hs
          go_wp2
          go_quiet ((go_at_call 13; exact Calls.quiet_of (turn_any _ _ (by decide) (by decide) _)))
          have HK2 : Hid (Keeps [] w (wr.drewN nq)) := HKr.out.drewN nq
          have HF2 : Hid (Blk (wr.drewN nq) gw 31 (wcells 64 f)) := HF.out.drewN nq
          clear HKr HF c15 c0 c16 c7 c2 hl
          generalize wr.drewN nq = wr2 at HK2 HF2 ⊢
          have c2 : wr2.cell? ⟨gw, a2, none⟩ = some (.int .u32 (f a2)) := (HF2.out.cell a2).trans (wcells_at 64 f a2 (by omega))
          go_wp2
          go_quiet ((go_at_call 13; exact Calls.quiet_of (turn_any _ _ (by decide) (by decide) _)))
          have HK3 : Hid (Keeps [] w (wr2.drewN nq)) := HK2.out.drewN nq
          have HF3 : Hid (Blk (wr2.drewN nq) gw 31 (wcells 64 f)) := HF2.out.drewN nq
          clear HK2 HF2 c2
          generalize wr2.drewN nq = wr3 at HK3 HF3 ⊢
          have c0 : wr3.cell? ⟨gw, k, none⟩ = some (.int .u32 (f k)) := (HF3.out.cell k).trans (wcells_at 64 f k (by omega))
          have c16 : wr3.cell? ⟨gw, a16, none⟩ = some (.int .u32 (f a16)) := (HF3.out.cell a16).trans (wcells_at 64 f a16 (by omega))
          have c7 : wr3.cell? ⟨gw, a7, none⟩ = some (.int .u32 (f a7)) := (HF3.out.cell a7).trans (wcells_at 64 f a7 (by omega))
          have cz := HF3.out.frozen k
          have cl := HF3.out.lt
          go_wp2
          go_region
          all_goals go_wp2
          all_goals go_roundw
          case rel => exact ⟨k + 1, by omega, by omega, by go_num, (HK3.out.setCell (.inr hgw) _).drew, _, words_step HF3.out k _, upd_at HS.out (by rw [HE.out, ← HS.out a16 (by omega), ← HS.out a15 (by omega), ← HS.out a7 (by omega), ← HS.out a2 (by omega)]; rfl)⟩
          case measure => simp [intOf]; omega
        · obtain rfl : k = 64 := by omega
          have HF := Lib.hid hf
          have HS := Lib.hid hfs
          have HKr := Lib.hid hKr
          have HH : Hid (Blk wr gh 25 (wcells 8 h)) := HB.out.keep hKr (by simp)
          have u0 : wr.cell? ⟨gh, 0, none⟩ = some (.int .u32 (h 0)) := (HH.out.cell 0).trans (wcells_at 8 h 0 (by omega))
          have u1 : wr.cell? ⟨gh, 1, none⟩ = some (.int .u32 (h 1)) := (HH.out.cell 1).trans (wcells_at 8 h 1 (by omega))
          have u2 : wr.cell? ⟨gh, 2, none⟩ = some (.int .u32 (h 2)) := (HH.out.cell 2).trans (wcells_at 8 h 2 (by omega))
          have u3 : wr.cell? ⟨gh, 3, none⟩ = some (.int .u32 (h 3)) := (HH.out.cell 3).trans (wcells_at 8 h 3 (by omega))
          have u4 : wr.cell? ⟨gh, 4, none⟩ = some (.int .u32 (h 4)) := (HH.out.cell 4).trans (wcells_at 8 h 4 (by omega))
          have u5 : wr.cell? ⟨gh, 5, none⟩ = some (.int .u32 (h 5)) := (HH.out.cell 5).trans (wcells_at 8 h 5 (by omega))
          have u6 : wr.cell? ⟨gh, 6, none⟩ = some (.int .u32 (h 6)) := (HH.out.cell 6).trans (wcells_at 8 h 6 (by omega))
          have u7 : wr.cell? ⟨gh, 7, none⟩ = some (.int .u32 (h 7)) := (HH.out.cell 7).trans (wcells_at 8 h 7 (by omega))
          have ul := HH.out.lt
          clear hf hfs hKr
          go_wp2
          change Code.wp _ _ _ _ (wr.alloc (.cells (wcells 8 h) 25))
          have kA : Keeps [] wr (wr.alloc (.cells (wcells 8 h) 25)) := (Keeps.refl _ _).alloc _
          have HV := Lib.hid (Blk.new wr 25 (wcells 8 h))
          have HF1 := Lib.hid (HF.out.keep kA (by simp))
          have HK1 := Lib.hid (HKr.out.trans kA)
          have hgv : gh ≠ wr.heap.size := by omega
          have hgv2 : gw ≠ wr.heap.size := by have := HF.out.lt; omega
          have hgv3 : w.heap.size ≤ wr.heap.size := HKr.out.size
          clear u0 u1 u2 u3 u4 u5 u6 u7 ul kA HF HKr HH
          generalize wr.alloc (.cells (wcells 8 h) 25) = wv at HV HF1 HK1 ⊢
          generalize wr.heap.size = gv at HV hgv hgv2 hgv3 ⊢
          go_loopw [107] (fun i wr2 => ∃ k : Nat, k ≤ 64 ∧ i = .int .i64 k ∧ Keeps [] w wr2 ∧ Blk wr2 gw 31 (wcells 64 f) ∧ Blk wr2 gv 25 (wcells 8 (rounds8 s h k))) (fun i _ => 64 - (intOf i).toNat)
          case atStart => exact ⟨0, by omega, rfl, HK1.out, HF1.out, HV.out⟩
          case round =>
            clear HV HF1 HK1
            obtain ⟨k, hk, rfl, hKr, hf, hv⟩ := hrel
            by_cases hlt : k < 64
            · have HE : Hid (rounds8 s h (k + 1) = rnd (rounds8 s h k) (kt k) (sched s k)) := rfl
              have HK2 := Lib.hid hKr
              have HF2 := Lib.hid hf
              have HV2 := Lib.hid hv
              clear hKr hf hv
              generalize rounds8 s h k = V at HE HV2
              have hW : Hid (f k = sched s k) := HS.out k hlt
              rw [← hW.out] at HE
              have v0 : wr.cell? ⟨gv, 0, none⟩ = some (.int .u32 (V 0)) := (HV2.out.cell 0).trans (wcells_at 8 V 0 (by omega))
              have v1 : wr.cell? ⟨gv, 1, none⟩ = some (.int .u32 (V 1)) := (HV2.out.cell 1).trans (wcells_at 8 V 1 (by omega))
              have v2 : wr.cell? ⟨gv, 2, none⟩ = some (.int .u32 (V 2)) := (HV2.out.cell 2).trans (wcells_at 8 V 2 (by omega))
              have v3 : wr.cell? ⟨gv, 3, none⟩ = some (.int .u32 (V 3)) := (HV2.out.cell 3).trans (wcells_at 8 V 3 (by omega))
              have v4 : wr.cell? ⟨gv, 4, none⟩ = some (.int .u32 (V 4)) := (HV2.out.cell 4).trans (wcells_at 8 V 4 (by omega))
              have v5 : wr.cell? ⟨gv, 5, none⟩ = some (.int .u32 (V 5)) := (HV2.out.cell 5).trans (wcells_at 8 V 5 (by omega))
              have v6 : wr.cell? ⟨gv, 6, none⟩ = some (.int .u32 (V 6)) := (HV2.out.cell 6).trans (wcells_at 8 V 6 (by omega))
              have v7 : wr.cell? ⟨gv, 7, none⟩ = some (.int .u32 (V 7)) := (HV2.out.cell 7).trans (wcells_at 8 V 7 (by omega))
              go_wp2
              go_quiet ((go_at_call 13; exact Calls.quiet_of (turn_any _ _ (by decide) (by decide) _)))
              have HK3 : Hid (Keeps [] w (wr.drewN nq)) := HK2.out.drewN nq
              have HF3 : Hid (Blk (wr.drewN nq) gw 31 (wcells 64 f)) := HF2.out.drewN nq
              have HV3 : Hid (Blk (wr.drewN nq) gv 25 (wcells 8 V)) := HV2.out.drewN nq
              clear HK2 HF2 HV2 v0 v1 v2 v3 v4 v5 v6 v7
              generalize wr.drewN nq = wr3 at HK3 HF3 HV3 ⊢
              have v0 : wr3.cell? ⟨gv, 0, none⟩ = some (.int .u32 (V 0)) := (HV3.out.cell 0).trans (wcells_at 8 V 0 (by omega))
              have v1 : wr3.cell? ⟨gv, 1, none⟩ = some (.int .u32 (V 1)) := (HV3.out.cell 1).trans (wcells_at 8 V 1 (by omega))
              have v2 : wr3.cell? ⟨gv, 2, none⟩ = some (.int .u32 (V 2)) := (HV3.out.cell 2).trans (wcells_at 8 V 2 (by omega))
              have v3 : wr3.cell? ⟨gv, 3, none⟩ = some (.int .u32 (V 3)) := (HV3.out.cell 3).trans (wcells_at 8 V 3 (by omega))
              have v4 : wr3.cell? ⟨gv, 4, none⟩ = some (.int .u32 (V 4)) := (HV3.out.cell 4).trans (wcells_at 8 V 4 (by omega))
              have v5 : wr3.cell? ⟨gv, 5, none⟩ = some (.int .u32 (V 5)) := (HV3.out.cell 5).trans (wcells_at 8 V 5 (by omega))
              have v6 : wr3.cell? ⟨gv, 6, none⟩ = some (.int .u32 (V 6)) := (HV3.out.cell 6).trans (wcells_at 8 V 6 (by omega))
              have v7 : wr3.cell? ⟨gv, 7, none⟩ = some (.int .u32 (V 7)) := (HV3.out.cell 7).trans (wcells_at 8 V 7 (by omega))
              have ck : wr3.cell? ⟨gw, k, none⟩ = some (.int .u32 (f k)) := (HF3.out.cell k).trans (wcells_at 64 f k (by omega))
              have tk : wr3.cell? ⟨0, k, none⟩ = some (.int .u32 (kt k)) := HK3.out.cell_of (p := ⟨0, k, none⟩) (HT.out k hlt) (by simp)
              go_wp2
              go_quiet (fail)
              have HK4 : Hid (Keeps [] w (wr3.drewN nq)) := HK3.out.drewN nq
              have HF4 : Hid (Blk (wr3.drewN nq) gw 31 (wcells 64 f)) := HF3.out.drewN nq
              have HV4 : Hid (Blk (wr3.drewN nq) gv 25 (wcells 8 V)) := HV3.out.drewN nq
              clear HK3 HF3 HV3 v0 v1 v2 v3 v4 v5 v6 v7 ck tk
              generalize wr3.drewN nq = wr4 at HK4 HF4 HV4 ⊢
              have v0 : wr4.cell? ⟨gv, 0, none⟩ = some (.int .u32 (V 0)) := (HV4.out.cell 0).trans (wcells_at 8 V 0 (by omega))
              have v1 : wr4.cell? ⟨gv, 1, none⟩ = some (.int .u32 (V 1)) := (HV4.out.cell 1).trans (wcells_at 8 V 1 (by omega))
              have v2 : wr4.cell? ⟨gv, 2, none⟩ = some (.int .u32 (V 2)) := (HV4.out.cell 2).trans (wcells_at 8 V 2 (by omega))
              have v3 : wr4.cell? ⟨gv, 3, none⟩ = some (.int .u32 (V 3)) := (HV4.out.cell 3).trans (wcells_at 8 V 3 (by omega))
              have v4 : wr4.cell? ⟨gv, 4, none⟩ = some (.int .u32 (V 4)) := (HV4.out.cell 4).trans (wcells_at 8 V 4 (by omega))
              have v5 : wr4.cell? ⟨gv, 5, none⟩ = some (.int .u32 (V 5)) := (HV4.out.cell 5).trans (wcells_at 8 V 5 (by omega))
              have v6 : wr4.cell? ⟨gv, 6, none⟩ = some (.int .u32 (V 6)) := (HV4.out.cell 6).trans (wcells_at 8 V 6 (by omega))
              have v7 : wr4.cell? ⟨gv, 7, none⟩ = some (.int .u32 (V 7)) := (HV4.out.cell 7).trans (wcells_at 8 V 7 (by omega))
              go_wp2
              go_quiet ((go_at_call 13; exact Calls.quiet_of (turn_any _ _ (by decide) (by decide) _)))
              have HK5 : Hid (Keeps [] w (wr4.drewN nq)) := HK4.out.drewN nq
              have HF5 : Hid (Blk (wr4.drewN nq) gw 31 (wcells 64 f)) := HF4.out.drewN nq
              have HV5 : Hid (Blk (wr4.drewN nq) gv 25 (wcells 8 V)) := HV4.out.drewN nq
              clear HK4 HF4 HV4 v0 v1 v2 v3 v4 v5 v6 v7
              generalize wr4.drewN nq = wr5 at HK5 HF5 HV5 ⊢
              have v0 : wr5.cell? ⟨gv, 0, none⟩ = some (.int .u32 (V 0)) := (HV5.out.cell 0).trans (wcells_at 8 V 0 (by omega))
              have v1 : wr5.cell? ⟨gv, 1, none⟩ = some (.int .u32 (V 1)) := (HV5.out.cell 1).trans (wcells_at 8 V 1 (by omega))
              have v2 : wr5.cell? ⟨gv, 2, none⟩ = some (.int .u32 (V 2)) := (HV5.out.cell 2).trans (wcells_at 8 V 2 (by omega))
              have v3 : wr5.cell? ⟨gv, 3, none⟩ = some (.int .u32 (V 3)) := (HV5.out.cell 3).trans (wcells_at 8 V 3 (by omega))
              have v4 : wr5.cell? ⟨gv, 4, none⟩ = some (.int .u32 (V 4)) := (HV5.out.cell 4).trans (wcells_at 8 V 4 (by omega))
              have v5 : wr5.cell? ⟨gv, 5, none⟩ = some (.int .u32 (V 5)) := (HV5.out.cell 5).trans (wcells_at 8 V 5 (by omega))
              have v6 : wr5.cell? ⟨gv, 6, none⟩ = some (.int .u32 (V 6)) := (HV5.out.cell 6).trans (wcells_at 8 V 6 (by omega))
              have v7 : wr5.cell? ⟨gv, 7, none⟩ = some (.int .u32 (V 7)) := (HV5.out.cell 7).trans (wcells_at 8 V 7 (by omega))
              have z0 := HV5.out.frozen 0
              have z1 := HV5.out.frozen 1
              have z2 := HV5.out.frozen 2
              have z3 := HV5.out.frozen 3
              have z4 := HV5.out.frozen 4
              have z5 := HV5.out.frozen 5
              have z6 := HV5.out.frozen 6
              have z7 := HV5.out.frozen 7
              go_wp2
              go_roundw
              case rel =>
                repeat apply Exists.intro
                refine ⟨?_, rfl⟩
                exact ⟨k + 1, by omega, by go_num, by rw [HE.out]; exact turn8 HK5.out hgv3 HF5.out hgv2 HV5.out (rnd V (kt k) (f k))⟩
              case measure => simp [intOf]; omega
            · obtain rfl : k = 64 := by omega
              have HV6 := Lib.hid hv
              have HH6 : Hid (Blk wr gh 25 (wcells 8 h)) := HB.out.keep hKr (by simp)
              have HK6 : Hid (Keeps [gh] w wr) := hKr.of_nil
              clear hKr hf hv
              go_wp2
              go_loopw [197] (fun i wr => ∃ k : Nat, k ≤ 8 ∧ i = .int .i64 k ∧ Keeps [gh] w wr ∧ Blk wr gv 25 (wcells 8 (rounds8 s h 64)) ∧ ∃ F, Blk wr gh 25 (wcells 8 F) ∧ (∀ j, j < k → F j = blockF s h j) ∧ ∀ j, k ≤ j → F j = h j) (fun i _ => 8 - (intOf i).toNat)
              case atStart => exact ⟨0, by omega, rfl, HK6.out, HV6.out, h, HH6.out, fun j hj => absurd hj (by omega), fun _ _ => rfl⟩
              case round =>
                clear HV6 HH6 HK6
                obtain ⟨k, hk, rfl, hKr, hv, F, hF, hF1, hF2⟩ := hrel
                by_cases hlt : k < 8
                · have c1 : wr.cell? ⟨gh, k, none⟩ = some (.int .u32 (F k)) := (hF.cell k).trans (wcells_at 8 F k hlt)
                  have c2 : wr.cell? ⟨gv, k, none⟩ = some (.int .u32 (rounds8 s h 64 k)) := (hv.cell k).trans (wcells_at 8 _ k hlt)
                  have c3 := hF.frozen k
                  have c4 := hF.lt
                  have c5 := hv.lt
                  have HF7 := Lib.hid hF
                  have HV7 := Lib.hid hv
                  have HK7 := Lib.hid hKr
                  have H1 := Lib.hid hF1
                  have H2 := Lib.hid hF2
                  have HZ : Hid ((F k + rounds8 s h 64 k) % 4294967296 = blockF s h k) := by
                    show _ = _
                    rw [H2.out k (Nat.le_refl _)]; rfl
                  clear hF hv hKr hF1 hF2
                  generalize rounds8 s h 64 k = x at c2 HZ
                  go_wp2
                  go_region
                  all_goals go_wp2
                  all_goals go_roundw
                  case rel => exact ⟨k + 1, by omega, by go_num, (HK7.out.setCell (.inl (by simp)) _).drew, (HV7.out.far (p := ⟨gh, k, none⟩) (Ne.symm hgv) _).drew, upd F k _, (HF7.out.word k _).drew, upd_at H1.out HZ.out, fun j hj => by unfold upd; rw [if_neg (by omega)]; exact H2.out j (by omega)⟩
                  case measure => simp [intOf]; omega
                · obtain rfl : k = 8 := by omega
                  have HF7 := Lib.hid hF
                  have HK7 := Lib.hid hKr
                  have H1 := Lib.hid hF1
                  clear hF hv hKr hF1 hF2
                  go_wp2
                  go_end0
                  refine ⟨rfl, ?_, HK7.out⟩
                  rw [← wcells_congr H1.out]
                  exact HF7.out
end Go.Proofs.YtkklmogcohlbhaaDoor
