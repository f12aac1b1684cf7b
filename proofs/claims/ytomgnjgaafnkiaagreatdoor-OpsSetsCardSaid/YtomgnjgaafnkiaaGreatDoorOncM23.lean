/- OpsSets: the walk. OpsSets: the walk at a good column. OpsSets: the walk, at whatever is asked. -/
import Derived.Test.YtomgnjgaafnkiaaGreatDoorOncM21
import Derived.Test.YtomgnjgaafnkiaaGreatDoorOncM22
import Derived.Test.YtomgnjgaafnkiaaGreatDoorOncM20
import Derived.Test.YtomgnjgaafnkiaaGreatDoorOncM8
namespace Go.Proofs.YtomgnjgaafnkiaaGreatDoor
open Go.RowKit
attribute [local go_sem] bs_size bs_extract bs_append bs_toList
/-- What a region leaves that sets a column: a box and a bool. -/
def BoxIs (x0 wx : World) (p q : Value) (R : Option Tb) : Prop := Keeps [] x0 wx ∧ match R with
  | none => q = .bool false
  | some u => q = .bool true ∧ ∃ g A1 c1 A2 c2, p = .pointer (some ⟨g, 0, none⟩) ∧ Blk wx g 25 #[.slice A1 u.cols.length c1, .slice A2 u.rows.length c2] ∧ TabIn wx u A1 A2 c1 c2
set_option maxHeartbeats 8000000 in
set_option maxRecDepth 40000 in
theorem osets_0 (t : Tb) (A B : Option Addr) (c d : Nat) (col : Bs) (n : Int) (w : World) (hT : TabAny w t A B c d) (hE : OEnv w) (hsm : smallB t = false) :
    Calls Tryz.prog 8 #[tAgg A t.cols.length c B t.rows.length d, .string (bs col), .int .i64 n] w fun e w' => e = .returned (.bool true) ∧ Keeps [] w w' := by
  have HSM : Hid (∀ W, Keeps [] w W → Calls Tryz.prog 9 #[.agg #[.slice A t.cols.length c, .slice B t.rows.length d]] W fun e W' => e = .returned (.bool (smallB t)) ∧ Keeps [] W W') := Lib.hid fun W q => small_any t A B c d W (hT.cols.keep q) (hT.rows.keep q)
  have HK0 : Hid (Keeps [] w (((w.alloc (.cells #[.slice A t.cols.length c, .slice B t.rows.length d] 25)).alloc (.cells #[.string (bs col)] 9)).alloc (.cells #[.int .i64 n] 3))) := Lib.hid ((((Keeps.refl _ _).alloc _).alloc _).alloc _)
  have HB1 := Lib.hid (((Blk.new w 25 #[.slice A t.cols.length c, .slice B t.rows.length d]).alloc (.cells #[.string (bs col)] 9)).alloc (.cells #[.int .i64 n] 3))
  have HB2 := Lib.hid ((Blk.new (w.alloc (.cells #[.slice A t.cols.length c, .slice B t.rows.length d] 25)) 9 #[.string (bs col)]).alloc (.cells #[.int .i64 n] 3))
  have HB3 := Lib.hid (Blk.new ((w.alloc (.cells #[.slice A t.cols.length c, .slice B t.rows.length d] 25)).alloc (.cells #[.string (bs col)] 9)) 3 #[.int .i64 n])
  simp only [size_alloc] at HB2 HB3
  rw [hsm] at HSM
  clear hT hE hsm
  show Calls _ _ #[.agg #[.slice A t.cols.length c, .slice B t.rows.length d], .string (bs col), .int .i64 n] w _
  go_enter Tryz.func8, Tryz.ntmps8
  go_upto_region 1 with (fail)
  obtain ⟨x0, hx0⟩ : ∃ x, (((w.alloc (.cells #[.slice A t.cols.length c, .slice B t.rows.length d] 25)).alloc (.cells #[.string (bs col)] 9)).alloc (.cells #[.int .i64 n] 3)) = x := ⟨_, rfl⟩
  rw [hx0] at HK0 HB1 HB2 HB3 ⊢
  obtain ⟨bt, hbt⟩ : ∃ b, w.heap.size = b := ⟨_, rfl⟩
  have HLB : Hid (w.heap.size ≤ bt + 1 + 1) := Lib.hid (by omega)
  rw [hbt] at HB1 HB2 HB3 ⊢
  clear hx0 hbt
  have q0 : x0.cell? ⟨bt, 0, none⟩ = some (.slice A t.cols.length c) := HB1.out.cell 0
  have q1 : x0.cell? ⟨bt, 1, none⟩ = some (.slice B t.rows.length d) := HB1.out.cell 1
  have l1 : bt < x0.heap.size := HB1.out.lt
  go_wp2_with fail
  clear q0 q1 l1
  refine (HSM.out _ HK0.out).mono ?_
  rintro e w2 ⟨rfl, hk2⟩
  have Kw2 := Lib.hid hk2
  clear hk2
  go_wp2
  go_ret
  exact ⟨rfl, HK0.out.trans Kw2.out⟩
set_option maxHeartbeats 8000000 in
set_option maxRecDepth 40000 in
theorem osets_1 (t : Tb) (A B : Option Addr) (c d : Nat) (col : Bs) (n : Int) (w : World) (hT : TabAny w t A B c d) (hE : OEnv w) (hsm : smallB t = true) (hc : 40 < col.length) :
    Calls Tryz.prog 8 #[tAgg A t.cols.length c B t.rows.length d, .string (bs col), .int .i64 n] w fun e w' => e = .returned (.bool true) ∧ Keeps [] w w' := by
  have HSM : Hid (∀ W, Keeps [] w W → Calls Tryz.prog 9 #[.agg #[.slice A t.cols.length c, .slice B t.rows.length d]] W fun e W' => e = .returned (.bool (smallB t)) ∧ Keeps [] W W') := Lib.hid fun W q => small_any t A B c d W (hT.cols.keep q) (hT.rows.keep q)
  have HK0 : Hid (Keeps [] w (((w.alloc (.cells #[.slice A t.cols.length c, .slice B t.rows.length d] 25)).alloc (.cells #[.string (bs col)] 9)).alloc (.cells #[.int .i64 n] 3))) := Lib.hid ((((Keeps.refl _ _).alloc _).alloc _).alloc _)
  have HB1 := Lib.hid (((Blk.new w 25 #[.slice A t.cols.length c, .slice B t.rows.length d]).alloc (.cells #[.string (bs col)] 9)).alloc (.cells #[.int .i64 n] 3))
  have HB2 := Lib.hid ((Blk.new (w.alloc (.cells #[.slice A t.cols.length c, .slice B t.rows.length d] 25)) 9 #[.string (bs col)]).alloc (.cells #[.int .i64 n] 3))
  have HB3 := Lib.hid (Blk.new ((w.alloc (.cells #[.slice A t.cols.length c, .slice B t.rows.length d] 25)).alloc (.cells #[.string (bs col)] 9)) 3 #[.int .i64 n])
  simp only [size_alloc] at HB2 HB3
  rw [hsm] at HSM
  have h40 : (40 : Int) < (col.length : Int) := by omega
  clear hT hE hsm hc
  show Calls _ _ #[.agg #[.slice A t.cols.length c, .slice B t.rows.length d], .string (bs col), .int .i64 n] w _
  go_enter Tryz.func8, Tryz.ntmps8
  go_upto_region 1 with (fail)
  obtain ⟨x0, hx0⟩ : ∃ x, (((w.alloc (.cells #[.slice A t.cols.length c, .slice B t.rows.length d] 25)).alloc (.cells #[.string (bs col)] 9)).alloc (.cells #[.int .i64 n] 3)) = x := ⟨_, rfl⟩
  rw [hx0] at HK0 HB1 HB2 HB3 ⊢
  obtain ⟨bt, hbt⟩ : ∃ b, w.heap.size = b := ⟨_, rfl⟩
  have HLB : Hid (w.heap.size ≤ bt + 1 + 1) := Lib.hid (by omega)
  rw [hbt] at HB1 HB2 HB3 ⊢
  clear hx0 hbt
  have q0 : x0.cell? ⟨bt, 0, none⟩ = some (.slice A t.cols.length c) := HB1.out.cell 0
  have q1 : x0.cell? ⟨bt, 1, none⟩ = some (.slice B t.rows.length d) := HB1.out.cell 1
  have l1 : bt < x0.heap.size := HB1.out.lt
  go_wp2_with fail
  clear q0 q1 l1
  refine (HSM.out _ HK0.out).mono ?_
  rintro e w2 ⟨rfl, hk2⟩
  have Kw2 := Lib.hid hk2
  clear hk2
  have p0 : w2.cell? ⟨bt + 1, 0, none⟩ = some (.string (bs col)) := (HB2.out.keep Kw2.out (by simp)).cell 0
  have l2 : bt + 1 < w2.heap.size := (HB2.out.keep Kw2.out (by simp)).lt
  go_wp2
  go_ret
  exact ⟨rfl, HK0.out.trans Kw2.out⟩
set_option maxHeartbeats 8000000 in
set_option maxRecDepth 40000 in
theorem osets_bad (t : Tb) (A B : Option Addr) (c d : Nat) (col : Bs) (n : Int) (w : World) (hT : TabAny w t A B c d) (hE : OEnv w) (hsm : smallB t = true) (hc : col.length ≤ 40) (hn : ¬ ∃ k, SetK t col k) :
    Calls Tryz.prog 8 #[tAgg A t.cols.length c B t.rows.length d, .string (bs col), .int .i64 n] w fun e w' => e = .returned (.bool true) ∧ Keeps [] w w' := by
  have HSM : Hid (∀ W, Keeps [] w W → Calls Tryz.prog 9 #[.agg #[.slice A t.cols.length c, .slice B t.rows.length d]] W fun e W' => e = .returned (.bool (smallB t)) ∧ Keeps [] W W') := Lib.hid fun W q => small_any t A B c d W (hT.cols.keep q) (hT.rows.keep q)
  have HK0 : Hid (Keeps [] w (((w.alloc (.cells #[.slice A t.cols.length c, .slice B t.rows.length d] 25)).alloc (.cells #[.string (bs col)] 9)).alloc (.cells #[.int .i64 n] 3))) := Lib.hid ((((Keeps.refl _ _).alloc _).alloc _).alloc _)
  have HB1 := Lib.hid (((Blk.new w 25 #[.slice A t.cols.length c, .slice B t.rows.length d]).alloc (.cells #[.string (bs col)] 9)).alloc (.cells #[.int .i64 n] 3))
  have HB2 := Lib.hid ((Blk.new (w.alloc (.cells #[.slice A t.cols.length c, .slice B t.rows.length d] 25)) 9 #[.string (bs col)]).alloc (.cells #[.int .i64 n] 3))
  have HB3 := Lib.hid (Blk.new ((w.alloc (.cells #[.slice A t.cols.length c, .slice B t.rows.length d] 25)).alloc (.cells #[.string (bs col)] 9)) 3 #[.int .i64 n])
  simp only [size_alloc] at HB2 HB3
  rw [hsm] at HSM
  have HDN := Lib.hid (fun W (q : Keeps [] w W) => done_any W (hE.quiet q))
  have HTN := Lib.hid (hT.inn hsm).1
  have HE := Lib.hid hE
  have h40 : ¬ (40 : Int) < (col.length : Int) := by omega
  clear hT hE hsm hc
  show Calls _ _ #[.agg #[.slice A t.cols.length c, .slice B t.rows.length d], .string (bs col), .int .i64 n] w _
  go_enter Tryz.func8, Tryz.ntmps8
  go_upto_region 1 with (fail)
  obtain ⟨x0, hx0⟩ : ∃ x, (((w.alloc (.cells #[.slice A t.cols.length c, .slice B t.rows.length d] 25)).alloc (.cells #[.string (bs col)] 9)).alloc (.cells #[.int .i64 n] 3)) = x := ⟨_, rfl⟩
  rw [hx0] at HK0 HB1 HB2 HB3 ⊢
  obtain ⟨bt, hbt⟩ : ∃ b, w.heap.size = b := ⟨_, rfl⟩
  have HLB : Hid (w.heap.size ≤ bt + 1 + 1) := Lib.hid (by omega)
  rw [hbt] at HB1 HB2 HB3 ⊢
  clear hx0 hbt
  have HA : Hid (∀ W, Keeps [] x0 W → Calls Tryz.prog 28 #[.string ⟨#[42]⟩, .agg #[.string ⟨#[]⟩, .int .i64 1, .int .i64 1, .string ⟨#[]⟩], .agg #[.slice A t.cols.length c, .slice B t.rows.length d], .pointer (some ⟨bt + 1, 0, none⟩)] W fun e w' => e = .returned (.tuple #[.agg #[.slice none 0 0, .slice none 0 0], .bool false]) ∧ Keeps [] W w') := Lib.hid fun W q => by
    have h := setc_any col [42] (numA 1) t A B c d (bt + 1) W (HE.out.quiet (HK0.out.trans q)) (HTN.out.quiet (HK0.out.trans q)) ((HB2.out.keep q (by simp)).cell 0)
    rw [set_bad hn] at h
    exact h
  have HB : Hid (∀ W, Keeps [] x0 W → Calls Tryz.prog 28 #[.string ⟨#[43]⟩, .agg #[.string ⟨#[]⟩, .int .i64 1, .int .i64 0, .string ⟨#[]⟩], .agg #[.slice A t.cols.length c, .slice B t.rows.length d], .pointer (some ⟨bt + 1, 0, none⟩)] W fun e w' => e = .returned (.tuple #[.agg #[.slice none 0 0, .slice none 0 0], .bool false]) ∧ Keeps [] W w') := Lib.hid fun W q => by
    have h := setc_any col [43] (numA 0) t A B c d (bt + 1) W (HE.out.quiet (HK0.out.trans q)) (HTN.out.quiet (HK0.out.trans q)) ((HB2.out.keep q (by simp)).cell 0)
    rw [set_bad hn] at h
    exact h
  have HZ : Hid (∀ W, Keeps [] x0 W → Calls Tryz.prog 28 #[.string ⟨#[45]⟩, .agg #[.string (bs col), .int .i64 0, .int .i64 0, .string ⟨#[]⟩], .agg #[.slice A t.cols.length c, .slice B t.rows.length d], .pointer (some ⟨bt + 1, 0, none⟩)] W fun e w' => e = .returned (.tuple #[.agg #[.slice none 0 0, .slice none 0 0], .bool false]) ∧ Keeps [] W w') := Lib.hid fun W q => by
    have h := setc_any col [45] ⟨col, zV⟩ t A B c d (bt + 1) W (HE.out.quiet (HK0.out.trans q)) (HTN.out.quiet (HK0.out.trans q)) ((HB2.out.keep q (by simp)).cell 0)
    rw [set_bad hn] at h
    exact h
  have q0 : x0.cell? ⟨bt, 0, none⟩ = some (.slice A t.cols.length c) := HB1.out.cell 0
  have q1 : x0.cell? ⟨bt, 1, none⟩ = some (.slice B t.rows.length d) := HB1.out.cell 1
  have l1 : bt < x0.heap.size := HB1.out.lt
  go_wp2_with fail
  clear q0 q1 l1
  refine (HSM.out _ HK0.out).mono ?_
  rintro e w2 ⟨rfl, hk2⟩
  have Kw2 := Lib.hid hk2
  clear hk2
  have p0 : w2.cell? ⟨bt + 1, 0, none⟩ = some (.string (bs col)) := (HB2.out.keep Kw2.out (by simp)).cell 0
  have l2 : bt + 1 < w2.heap.size := (HB2.out.keep Kw2.out (by simp)).lt
  go_wp2_with fail
  clear p0 l2
  refine (HDN.out _ (HK0.out.trans Kw2.out)).mono ?_
  rintro e w3 ⟨rfl, hk3⟩
  have Kw3 := Lib.hid (Kw2.out.trans hk3)
  clear hk3 Kw2 HSM HDN
  have q0 : w3.cell? ⟨bt, 0, none⟩ = some (.slice A t.cols.length c) := (HB1.out.keep Kw3.out (by simp)).cell 0
  have q1 : w3.cell? ⟨bt, 1, none⟩ = some (.slice B t.rows.length d) := (HB1.out.keep Kw3.out (by simp)).cell 1
  have l1 : bt < w3.heap.size := (HB1.out.keep Kw3.out (by simp)).lt
  go_upto_region 7 with (fail)
  go_cut [9, 10] (fun p q wx => BoxIs x0 wx p q none)
  case first =>
    go_region_held3 (fun w' => w'.cell? ⟨bt, 0, none⟩ = some (.slice A t.cols.length c) ∧ w'.cell? ⟨bt, 1, none⟩ = some (.slice B t.rows.length d)) (first | exact ⟨((kk6.setCell (.inr kk5.size) _).setCell (.inr kk5.size) _).cell_of q0 (by simp), ((kk6.setCell (.inr kk5.size) _).setCell (.inr kk5.size) _).cell_of q1 (by simp)⟩ | exact ⟨((kk6.setCell (.inr (Nat.le_refl _)) _).setCell (.inr (Nat.le_refl _)) _).cell_of q0 (by simp), ((kk6.setCell (.inr (Nat.le_refl _)) _).setCell (.inr (Nat.le_refl _)) _).cell_of q1 (by simp)⟩ | exact ⟨(kk6.alloc _).cell_of q0 (by simp), (kk6.alloc _).cell_of q1 (by simp)⟩ | exact ⟨kk6.cell_of q0 (by simp), kk6.cell_of q1 (by simp)⟩ | exact ⟨kk5.cell_of q0 (by simp), kk5.cell_of q1 (by simp)⟩ | exact ⟨q0, q1⟩ | go_keep) (first | ((with_reducible refine (num_any 1 _).mono ?_); rintro e w5 ⟨rfl, k5⟩; have kk5 : Keeps [] w3 w5 := (by first | exact Keeps.of_drew k5 | exact ((Keeps.refl [] w3).drew.alloc _).trans k5); have z0 := kk5.cell_of q0 (by simp); have z1 := kk5.cell_of q1 (by simp); have lz : bt < w5.heap.size := World.block_lt_of_cell? _ _ z0; try (have hb5 : Blk w5 w3.heap.size 25 #[.slice none 0 0, .slice none 0 0] := (Blk.new w3.drew 25 #[.slice none 0 0, .slice none 0 0]).keep k5 (by simp))) | ((with_reducible refine (HA.out _ ?_).mono ?_); (first | exact Kw3.out.trans kk5 | exact (Kw3.out.trans kk5).alloc _); rintro e v1 ⟨rfl, hk1⟩; have kk6 : Keeps [] w3 v1 := (by first | exact kk5.trans hk1 | exact (kk5.alloc _).trans hk1); try (first | (have hb6 := hb5.keep hk1 (by simp); have bx0 := hb6.cell 0; have bx1 := hb6.cell 1; have gx0 := hb6.frozen 0; have gx1 := hb6.frozen 1; have hbl := hb6.lt) | (have hb6 := (Blk.new w5 25 #[.slice none 0 0, .slice none 0 0]).keep hk1 (by simp); have bx0 := hb6.cell 0; have bx1 := hb6.cell 1; have gx0 := hb6.frozen 0; have gx1 := hb6.frozen 1; have hbl := hb6.lt))))
    all_goals
      go_wp2_with fail
      go_meet
      case rel => first | exact ⟨(Kw3.out.trans kk6).alloc _, rfl⟩ | exact ⟨Kw3.out.trans ((kk6.setCell (.inr kk5.size) _).setCell (.inr kk5.size) _), rfl⟩ | exact ⟨Kw3.out.trans ((kk6.setCell (.inr (Nat.le_refl _)) _).setCell (.inr (Nat.le_refl _)) _), rfl⟩
  case rest =>
    clear q0 q1 l1
    obtain ⟨kx, hq⟩ := hcut
    obtain rfl : u10 = .bool false := hq
    obtain ⟨wa, rfl⟩ : ∃ wa : World, wa = wc := ⟨_, rfl⟩
    have Kwa := Lib.hid kx
    clear kx
    have q0 : wa.cell? ⟨bt, 0, none⟩ = some (.slice A t.cols.length c) := (HB1.out.keep Kwa.out (by simp)).cell 0
    have q1 : wa.cell? ⟨bt, 1, none⟩ = some (.slice B t.rows.length d) := (HB1.out.keep Kwa.out (by simp)).cell 1
    have l1 : bt < wa.heap.size := (HB1.out.keep Kwa.out (by simp)).lt
    go_upto_region 8 with (fail)
    go_cut [11, 12] (fun p q wx => BoxIs x0 wx p q none)
    case first =>
      go_region_held3 (fun w' => w'.cell? ⟨bt, 0, none⟩ = some (.slice A t.cols.length c) ∧ w'.cell? ⟨bt, 1, none⟩ = some (.slice B t.rows.length d)) (first | exact ⟨((kk6.setCell (.inr kk5.size) _).setCell (.inr kk5.size) _).cell_of q0 (by simp), ((kk6.setCell (.inr kk5.size) _).setCell (.inr kk5.size) _).cell_of q1 (by simp)⟩ | exact ⟨((kk6.setCell (.inr (Nat.le_refl _)) _).setCell (.inr (Nat.le_refl _)) _).cell_of q0 (by simp), ((kk6.setCell (.inr (Nat.le_refl _)) _).setCell (.inr (Nat.le_refl _)) _).cell_of q1 (by simp)⟩ | exact ⟨(kk6.alloc _).cell_of q0 (by simp), (kk6.alloc _).cell_of q1 (by simp)⟩ | exact ⟨kk6.cell_of q0 (by simp), kk6.cell_of q1 (by simp)⟩ | exact ⟨kk5.cell_of q0 (by simp), kk5.cell_of q1 (by simp)⟩ | exact ⟨q0, q1⟩ | go_keep) (first | ((with_reducible refine (num_any 0 _).mono ?_); rintro e w5 ⟨rfl, k5⟩; have kk5 : Keeps [] wa w5 := (by first | exact Keeps.of_drew k5 | exact ((Keeps.refl [] wa).drew.alloc _).trans k5); have z0 := kk5.cell_of q0 (by simp); have z1 := kk5.cell_of q1 (by simp); have lz : bt < w5.heap.size := World.block_lt_of_cell? _ _ z0; try (have hb5 : Blk w5 wa.heap.size 25 #[.slice none 0 0, .slice none 0 0] := (Blk.new wa.drew 25 #[.slice none 0 0, .slice none 0 0]).keep k5 (by simp))) | ((with_reducible refine (HB.out _ ?_).mono ?_); (first | exact Kwa.out.trans kk5 | exact (Kwa.out.trans kk5).alloc _); rintro e v2 ⟨rfl, hk2⟩; have kk6 : Keeps [] wa v2 := (by first | exact kk5.trans hk2 | exact (kk5.alloc _).trans hk2); try (first | (have hb6 := hb5.keep hk2 (by simp); have bx0 := hb6.cell 0; have bx1 := hb6.cell 1; have gx0 := hb6.frozen 0; have gx1 := hb6.frozen 1; have hbl := hb6.lt) | (have hb6 := (Blk.new w5 25 #[.slice none 0 0, .slice none 0 0]).keep hk2 (by simp); have bx0 := hb6.cell 0; have bx1 := hb6.cell 1; have gx0 := hb6.frozen 0; have gx1 := hb6.frozen 1; have hbl := hb6.lt))))
      all_goals
        go_wp2_with fail
        go_meet
        case rel => first | exact ⟨(Kwa.out.trans kk6).alloc _, rfl⟩ | exact ⟨Kwa.out.trans ((kk6.setCell (.inr kk5.size) _).setCell (.inr kk5.size) _), rfl⟩ | exact ⟨Kwa.out.trans ((kk6.setCell (.inr (Nat.le_refl _)) _).setCell (.inr (Nat.le_refl _)) _), rfl⟩
    case rest =>
      clear q0 q1 l1
      obtain ⟨kx, hq⟩ := hcut
      obtain rfl : u12 = .bool false := hq
      have Kwb := Lib.hid kx
      clear kx
      have q0 : wc.cell? ⟨bt, 0, none⟩ = some (.slice A t.cols.length c) := (HB1.out.keep Kwb.out (by simp)).cell 0
      have q1 : wc.cell? ⟨bt, 1, none⟩ = some (.slice B t.rows.length d) := (HB1.out.keep Kwb.out (by simp)).cell 1
      have l1 : bt < wc.heap.size := (HB1.out.keep Kwb.out (by simp)).lt
      have q2 : wc.cell? ⟨bt + 1, 0, none⟩ = some (.string (bs col)) := (HB2.out.keep Kwb.out (by simp)).cell 0
      have l2 : bt + 1 < wc.heap.size := (HB2.out.keep Kwb.out (by simp)).lt
      go_wp2_with fail
      refine (HZ.out _ Kwb.out).mono ?_
      rintro e v3 ⟨rfl, hk3⟩
      go_wp2
      go_ret
      exact ⟨rfl, ((HK0.out.trans Kwb.out).trans hk3).alloc _⟩
end Go.Proofs.YtomgnjgaafnkiaaGreatDoor
namespace Go.Proofs.YtomgnjgaafnkiaaGreatDoor
open Go.RowKit
attribute [local go_sem] bs_size bs_extract bs_append bs_toList
set_option maxHeartbeats 8000000 in
set_option maxRecDepth 40000 in
theorem osets_good (t : Tb) (A B : Option Addr) (c d : Nat) (col : Bs) (n : Int) (w : World) (hT : TabAny w t A B c d) (hE : OEnv w) (hsm : smallB t = true) (hc : col.length ≤ 40) (k : Nat) (hk : SetK t col k) :
    Calls Tryz.prog 8 #[tAgg A t.cols.length c B t.rows.length d, .string (bs col), .int .i64 n] w fun e w' => e = .returned (.bool true) ∧ Keeps [] w w' := by
  have HSM : Hid (∀ W, Keeps [] w W → Calls Tryz.prog 9 #[.agg #[.slice A t.cols.length c, .slice B t.rows.length d]] W fun e W' => e = .returned (.bool (smallB t)) ∧ Keeps [] W W') := Lib.hid fun W q => small_any t A B c d W (hT.cols.keep q) (hT.rows.keep q)
  have HK0 : Hid (Keeps [] w (((w.alloc (.cells #[.slice A t.cols.length c, .slice B t.rows.length d] 25)).alloc (.cells #[.string (bs col)] 9)).alloc (.cells #[.int .i64 n] 3))) := Lib.hid ((((Keeps.refl _ _).alloc _).alloc _).alloc _)
  have HB1 := Lib.hid (((Blk.new w 25 #[.slice A t.cols.length c, .slice B t.rows.length d]).alloc (.cells #[.string (bs col)] 9)).alloc (.cells #[.int .i64 n] 3))
  have HB2 := Lib.hid ((Blk.new (w.alloc (.cells #[.slice A t.cols.length c, .slice B t.rows.length d] 25)) 9 #[.string (bs col)]).alloc (.cells #[.int .i64 n] 3))
  have HB3 := Lib.hid (Blk.new ((w.alloc (.cells #[.slice A t.cols.length c, .slice B t.rows.length d] 25)).alloc (.cells #[.string (bs col)] 9)) 3 #[.int .i64 n])
  simp only [size_alloc] at HB2 HB3
  rw [hsm] at HSM
  have HDN := Lib.hid (fun W (q : Keeps [] w W) => done_any W (hE.quiet q))
  have HTN := Lib.hid (hT.inn hsm).1
  have HE := Lib.hid hE
  have h40 : ¬ (40 : Int) < (col.length : Int) := by omega
  obtain ⟨z, hz, hzc, hzr⟩ := sets_zero hk
  clear hzc
  have HZR := Lib.hid hzr
  have HRU1 := Lib.hid hk.1
  have HSK := Lib.hid hk
  clear hT hE hsm hc
  show Calls _ _ #[.agg #[.slice A t.cols.length c, .slice B t.rows.length d], .string (bs col), .int .i64 n] w _
  go_enter Tryz.func8, Tryz.ntmps8
  go_upto_region 1 with (fail)
  obtain ⟨x0, hx0⟩ : ∃ x, (((w.alloc (.cells #[.slice A t.cols.length c, .slice B t.rows.length d] 25)).alloc (.cells #[.string (bs col)] 9)).alloc (.cells #[.int .i64 n] 3)) = x := ⟨_, rfl⟩
  rw [hx0] at HK0 HB1 HB2 HB3 ⊢
  obtain ⟨bt, hbt⟩ : ∃ b, w.heap.size = b := ⟨_, rfl⟩
  have HLB : Hid (w.heap.size ≤ bt + 1 + 1) := Lib.hid (by omega)
  rw [hbt] at HB1 HB2 HB3 ⊢
  clear hx0 hbt
  have HA : Hid (∀ W, Keeps [] x0 W → Calls Tryz.prog 28 #[.string ⟨#[42]⟩, .agg #[.string ⟨#[]⟩, .int .i64 1, .int .i64 1, .string ⟨#[]⟩], .agg #[.slice A t.cols.length c, .slice B t.rows.length d], .pointer (some ⟨bt + 1, 0, none⟩)] W fun e w' => (∃ A1 c1 A2 c2, e = .returned (.tuple #[.agg #[.slice A1 t.cols.length c1, .slice A2 t.rows.length c2], .bool true]) ∧ TabIn w' t A1 A2 c1 c2) ∧ Keeps [] W w') := Lib.hid fun W q => by
    have h := setc_any col [42] (numA 1) t A B c d (bt + 1) W (HE.out.quiet (HK0.out.trans q)) (HTN.out.quiet (HK0.out.trans q)) ((HB2.out.keep q (by simp)).cell 0)
    rw [sets_mul hk] at h
    exact h
  have HB : Hid (∀ W, Keeps [] x0 W → Calls Tryz.prog 28 #[.string ⟨#[43]⟩, .agg #[.string ⟨#[]⟩, .int .i64 1, .int .i64 0, .string ⟨#[]⟩], .agg #[.slice A t.cols.length c, .slice B t.rows.length d], .pointer (some ⟨bt + 1, 0, none⟩)] W fun e w' => (∃ A1 c1 A2 c2, e = .returned (.tuple #[.agg #[.slice A1 t.cols.length c1, .slice A2 t.rows.length c2], .bool true]) ∧ TabIn w' t A1 A2 c1 c2) ∧ Keeps [] W w') := Lib.hid fun W q => by
    have h := setc_any col [43] (numA 0) t A B c d (bt + 1) W (HE.out.quiet (HK0.out.trans q)) (HTN.out.quiet (HK0.out.trans q)) ((HB2.out.keep q (by simp)).cell 0)
    rw [sets_add0 hk] at h
    exact h
  have HZ : Hid (∀ W, Keeps [] x0 W → Calls Tryz.prog 28 #[.string ⟨#[45]⟩, .agg #[.string (bs col), .int .i64 0, .int .i64 0, .string ⟨#[]⟩], .agg #[.slice A t.cols.length c, .slice B t.rows.length d], .pointer (some ⟨bt + 1, 0, none⟩)] W fun e w' => (∃ A1 c1 A2 c2, e = .returned (.tuple #[.agg #[.slice A1 z.cols.length c1, .slice A2 z.rows.length c2], .bool true]) ∧ TabIn w' z A1 A2 c1 c2) ∧ Keeps [] W w') := Lib.hid fun W q => by
    have h := setc_any col [45] ⟨col, zV⟩ t A B c d (bt + 1) W (HE.out.quiet (HK0.out.trans q)) (HTN.out.quiet (HK0.out.trans q)) ((HB2.out.keep q (by simp)).cell 0)
    rw [hz] at h
    exact h
  have HIX : Hid (∀ W, Keeps [] x0 W → Calls Tryz.prog 12 #[.slice A t.cols.length c, .func (.func 30) #[] #[.pointer (some ⟨bt + 1, 0, none⟩)]] W fun e w' => e = .returned (.int .i64 (k : Int)) ∧ Keeps [] W w') := Lib.hid fun W q => by
    have hT := HTN.out.quiet (HK0.out.trans q)
    have h := indexFuncC_any 30 #[.pointer (some ⟨bt + 1, 0, none⟩)] (enters_of Tryz.func30 (by kernel_rfl) rfl) (fun d => d.name == col) t.cols A c W hT.cols hT.ln (fun d _ W2 q2 => sets3_any col d (bt + 1) W2 (((HB2.out.keep q (by simp)).keep q2 (by simp)).cell 0))
    rw [findIxC_col, hk.2.2.1] at h
    exact h
  have HSAME : Hid (∀ (A1 A2 : Option Addr) (c1 c2 : Nat) W, Keeps [] w W → TabIn W t A1 A2 c1 c2 → Calls Tryz.prog 19 #[.agg #[.slice A1 t.cols.length c1, .slice A2 t.rows.length c2], .agg #[.slice A t.cols.length c, .slice B t.rows.length d]] W fun e w' => e = .returned (.bool true) ∧ Keeps [] W w') := Lib.hid fun A1 A2 c1 c2 W q h1 => by
    have h := same_any t t A1 A2 A B c1 c2 c d W h1.rd (HTN.out.quiet q).rd
    rw [decide_eq_true rfl] at h
    exact h
  have HPK : Hid (∀ W, Calls Tryz.prog 33 #[.int .i64 n, .int .i64 1000000000] W fun e w' => e = .returned (.int .i64 (pickN n 1000000000 : Int)) ∧ W = w') := Lib.hid fun W => pick_any n 1000000000 (by omega) (by omega) W
  have q0 : x0.cell? ⟨bt, 0, none⟩ = some (.slice A t.cols.length c) := HB1.out.cell 0
  have q1 : x0.cell? ⟨bt, 1, none⟩ = some (.slice B t.rows.length d) := HB1.out.cell 1
  have l1 : bt < x0.heap.size := HB1.out.lt
  go_wp2_with fail
  clear q0 q1 l1
  refine (HSM.out _ HK0.out).mono ?_
  rintro e w2 ⟨rfl, hk2⟩
  have Kw2 := Lib.hid hk2
  clear hk2
  have p0 : w2.cell? ⟨bt + 1, 0, none⟩ = some (.string (bs col)) := (HB2.out.keep Kw2.out (by simp)).cell 0
  have l2 : bt + 1 < w2.heap.size := (HB2.out.keep Kw2.out (by simp)).lt
  go_wp2_with fail
  clear p0 l2
  refine (HDN.out _ (HK0.out.trans Kw2.out)).mono ?_
  rintro e w3 ⟨rfl, hk3⟩
  have Kw3 := Lib.hid (Kw2.out.trans hk3)
  clear hk3 Kw2 HSM HDN
  have q0 : w3.cell? ⟨bt, 0, none⟩ = some (.slice A t.cols.length c) := ((HB1.out).keep Kw3.out (by simp)).cell 0
  have q1 : w3.cell? ⟨bt, 1, none⟩ = some (.slice B t.rows.length d) := ((HB1.out).keep Kw3.out (by simp)).cell 1
  have lq0 : bt < w3.heap.size := ((HB1.out).keep Kw3.out (by simp)).lt
  go_upto_region 7 with (fail)
  go_cut [9, 10] (fun p q wx => BoxIs w3 wx p q (some t))
  case first =>
    -- BEGIN r7
    go_region_held3 (fun w' => w'.cell? ⟨bt, 0, none⟩ = some (.slice A t.cols.length c) ∧ w'.cell? ⟨bt, 1, none⟩ = some (.slice B t.rows.length d)) (first | exact ⟨((kk6.setCell (.inr kk5.size) _).setCell (.inr kk5.size) _).cell_of q0 (by simp), ((kk6.setCell (.inr kk5.size) _).setCell (.inr kk5.size) _).cell_of q1 (by simp)⟩ | exact ⟨((kk6.setCell (.inr (Nat.le_refl _)) _).setCell (.inr (Nat.le_refl _)) _).cell_of q0 (by simp), ((kk6.setCell (.inr (Nat.le_refl _)) _).setCell (.inr (Nat.le_refl _)) _).cell_of q1 (by simp)⟩ | exact ⟨(kk6.alloc _).cell_of q0 (by simp), (kk6.alloc _).cell_of q1 (by simp)⟩ | exact ⟨(kk6).cell_of q0 (by simp), (kk6).cell_of q1 (by simp)⟩ | exact ⟨(kk5).cell_of q0 (by simp), (kk5).cell_of q1 (by simp)⟩ | exact ⟨q0, q1⟩ | go_keep) (first | ((with_reducible refine (num_any 1 _).mono ?_); rintro e w5 ⟨rfl, k5⟩; have kk5 : Keeps [] w3 w5 := (by first | exact Keeps.of_drew k5 | exact ((Keeps.refl [] w3).drew.alloc _).trans k5); have z0 := kk5.cell_of q0 (by simp); have lz : bt < w5.heap.size := World.block_lt_of_cell? _ _ z0; try (have hb5 : Blk w5 w3.heap.size 25 #[.slice none 0 0, .slice none 0 0] := (Blk.new w3.drew 25 #[.slice none 0 0, .slice none 0 0]).keep k5 (by simp))) | ((with_reducible refine (HA.out _ ?_).mono ?_); (first | exact Kw3.out.trans kk5 | exact (Kw3.out.trans kk5).alloc _); rintro e v1 ⟨⟨A1, c1, B1, d1, rfl, ht1⟩, hk1⟩; have kk6 : Keeps [] w3 v1 := (by first | exact kk5.trans hk1 | exact (kk5.alloc _).trans hk1); try (first | (have hb6 := hb5.keep hk1 (by simp); have bx0 := hb6.cell 0; have bx1 := hb6.cell 1; have gx0 := hb6.frozen 0; have gx1 := hb6.frozen 1; have hbl := hb6.lt) | (have hb6 := (Blk.new w5 25 #[.slice none 0 0, .slice none 0 0]).keep hk1 (by simp); have bx0 := hb6.cell 0; have bx1 := hb6.cell 1; have gx0 := hb6.frozen 0; have gx1 := hb6.frozen 1; have hbl := hb6.lt))))
    all_goals
      go_wp2_with fail
      go_meet
      case rel => first | exact ⟨kk6.alloc _, rfl, _, _, _, _, _, rfl, Blk.new _ _ _, ht1.quiet ((Keeps.refl _ _).alloc _)⟩ | exact ⟨(kk6.setCell (.inr kk5.size) _).setCell (.inr kk5.size) _, rfl, _, _, _, _, _, rfl, ((hb6.set 0 _).set 1 _).congr rfl, tabIn_box hb6 HRU1.out ht1⟩ | exact ⟨(kk6.setCell (.inr (Nat.le_refl _)) _).setCell (.inr (Nat.le_refl _)) _, rfl, _, _, _, _, _, rfl, ((hb6.set 0 _).set 1 _).congr rfl, tabIn_box hb6 HRU1.out ht1⟩
    -- END r7
  case rest =>
    clear q0 q1 lq0
    obtain ⟨kx, hq, ga, A1, c1, A2, c2, hp, hba, hta⟩ := hcut
    subst hq hp
    obtain ⟨wa, rfl⟩ : ∃ wa : World, wa = wc := ⟨_, rfl⟩
    have Kwa := Lib.hid (Kw3.out.trans kx)
    have HBa := Lib.hid hba
    have HTa := Lib.hid hta
    clear kx hba hta
    have q0 : wa.cell? ⟨bt, 0, none⟩ = some (.slice A t.cols.length c) := ((HB1.out).keep Kwa.out (by simp)).cell 0
    have q1 : wa.cell? ⟨bt, 1, none⟩ = some (.slice B t.rows.length d) := ((HB1.out).keep Kwa.out (by simp)).cell 1
    have lq0 : bt < wa.heap.size := ((HB1.out).keep Kwa.out (by simp)).lt
    go_upto_region 8 with (fail)
    go_cut [11, 12] (fun p q wx => BoxIs wa wx p q (some t))
    case first =>
      -- BEGIN r8
      go_region_held3 (fun w' => w'.cell? ⟨bt, 0, none⟩ = some (.slice A t.cols.length c) ∧ w'.cell? ⟨bt, 1, none⟩ = some (.slice B t.rows.length d)) (first | exact ⟨((kk6.setCell (.inr kk5.size) _).setCell (.inr kk5.size) _).cell_of q0 (by simp), ((kk6.setCell (.inr kk5.size) _).setCell (.inr kk5.size) _).cell_of q1 (by simp)⟩ | exact ⟨((kk6.setCell (.inr (Nat.le_refl _)) _).setCell (.inr (Nat.le_refl _)) _).cell_of q0 (by simp), ((kk6.setCell (.inr (Nat.le_refl _)) _).setCell (.inr (Nat.le_refl _)) _).cell_of q1 (by simp)⟩ | exact ⟨(kk6.alloc _).cell_of q0 (by simp), (kk6.alloc _).cell_of q1 (by simp)⟩ | exact ⟨(kk6).cell_of q0 (by simp), (kk6).cell_of q1 (by simp)⟩ | exact ⟨(kk5).cell_of q0 (by simp), (kk5).cell_of q1 (by simp)⟩ | exact ⟨q0, q1⟩ | go_keep) (first | ((with_reducible refine (num_any 0 _).mono ?_); rintro e w5 ⟨rfl, k5⟩; have kk5 : Keeps [] wa w5 := (by first | exact Keeps.of_drew k5 | exact ((Keeps.refl [] wa).drew.alloc _).trans k5); have z0 := kk5.cell_of q0 (by simp); have lz : bt < w5.heap.size := World.block_lt_of_cell? _ _ z0; try (have hb5 : Blk w5 wa.heap.size 25 #[.slice none 0 0, .slice none 0 0] := (Blk.new wa.drew 25 #[.slice none 0 0, .slice none 0 0]).keep k5 (by simp))) | ((with_reducible refine (HB.out _ ?_).mono ?_); (first | exact Kwa.out.trans kk5 | exact (Kwa.out.trans kk5).alloc _); rintro e v2 ⟨⟨A2, c2, B2, d2, rfl, ht2⟩, hk2⟩; have kk6 : Keeps [] wa v2 := (by first | exact kk5.trans hk2 | exact (kk5.alloc _).trans hk2); try (first | (have hb6 := hb5.keep hk2 (by simp); have bx0 := hb6.cell 0; have bx1 := hb6.cell 1; have gx0 := hb6.frozen 0; have gx1 := hb6.frozen 1; have hbl := hb6.lt) | (have hb6 := (Blk.new w5 25 #[.slice none 0 0, .slice none 0 0]).keep hk2 (by simp); have bx0 := hb6.cell 0; have bx1 := hb6.cell 1; have gx0 := hb6.frozen 0; have gx1 := hb6.frozen 1; have hbl := hb6.lt))))
      all_goals
        go_wp2_with fail
        go_meet
        case rel => first | exact ⟨kk6.alloc _, rfl, _, _, _, _, _, rfl, Blk.new _ _ _, ht2.quiet ((Keeps.refl _ _).alloc _)⟩ | exact ⟨(kk6.setCell (.inr kk5.size) _).setCell (.inr kk5.size) _, rfl, _, _, _, _, _, rfl, ((hb6.set 0 _).set 1 _).congr rfl, tabIn_box hb6 HRU1.out ht2⟩ | exact ⟨(kk6.setCell (.inr (Nat.le_refl _)) _).setCell (.inr (Nat.le_refl _)) _, rfl, _, _, _, _, _, rfl, ((hb6.set 0 _).set 1 _).congr rfl, tabIn_box hb6 HRU1.out ht2⟩
      -- END r8
    case rest =>
      clear q0 q1 lq0
      obtain ⟨kx, hq, gb, B1, e1, B2, e2, hp, hbb, htb⟩ := hcut
      subst hq hp
      obtain ⟨wb, rfl⟩ : ∃ wb : World, wb = wc := ⟨_, rfl⟩
      have Kab := Lib.hid kx
      have Kwb := Lib.hid (Kwa.out.trans kx)
      have HBb := Lib.hid hbb
      have HTb := Lib.hid htb
      clear kx hbb htb
      have y0 : wb.cell? ⟨bt, 0, none⟩ = some (.slice A t.cols.length c) := ((HB1.out).keep Kwb.out (by simp)).cell 0
      have y1 : wb.cell? ⟨bt, 1, none⟩ = some (.slice B t.rows.length d) := ((HB1.out).keep Kwb.out (by simp)).cell 1
      have y2 : wb.cell? ⟨bt + 1, 0, none⟩ = some (.string (bs col)) := ((HB2.out).keep Kwb.out (by simp)).cell 0
      have ly0 : bt < wb.heap.size := ((HB1.out).keep Kwb.out (by simp)).lt
      have ly2 : bt + 1 < wb.heap.size := ((HB2.out).keep Kwb.out (by simp)).lt
      go_wp2_with fail
      refine (HZ.out _ Kwb.out).mono ?_
      rintro e v3 ⟨⟨C1, f1, C2, f2, rfl, htz⟩, hk3⟩
      clear y0 y1 y2 ly0 ly2
      have HTz := Lib.hid (htz.quiet ((Keeps.refl [] v3).alloc (.cells #[.slice C1 z.cols.length f1, .slice C2 z.rows.length f2] 25)))
      have K34 := Lib.hid (hk3.alloc (.cells #[.slice C1 z.cols.length f1, .slice C2 z.rows.length f2] 25))
      have HBz := Lib.hid (Blk.new v3 25 #[.slice C1 z.cols.length f1, .slice C2 z.rows.length f2])
      clear hk3 htz
      go_upto_region 14 with (fail)
      obtain ⟨w4, hw4⟩ : ∃ x, v3.alloc (.cells #[.slice C1 z.cols.length f1, .slice C2 z.rows.length f2] 25) = x := ⟨_, rfl⟩
      rw [hw4] at HTz K34 HBz ⊢
      obtain ⟨gz, hgz⟩ : ∃ g, v3.heap.size = g := ⟨_, rfl⟩
      rw [hgz] at HBz ⊢
      clear hw4 hgz
      have K4 := Lib.hid (Kwb.out.trans K34.out)
      have y0 : w4.cell? ⟨bt, 0, none⟩ = some (.slice A t.cols.length c) := ((HB1.out).keep K4.out (by simp)).cell 0
      have y1 : w4.cell? ⟨bt, 1, none⟩ = some (.slice B t.rows.length d) := ((HB1.out).keep K4.out (by simp)).cell 1
      have ly0 : bt < w4.heap.size := ((HB1.out).keep K4.out (by simp)).lt
      go_wp2_with fail
      refine (HIX.out _ K4.out).mono ?_
      rintro e w5 ⟨rfl, hk5⟩
      clear y0 y1 ly0
      have K56 := Lib.hid (hk5.alloc (.cells #[.int .i64 (k : Int)] 3))
      have HBk := Lib.hid (Blk.new w5 3 #[.int .i64 (k : Int)])
      have hs5 := (K4.out.trans hk5).size
      have HGK : Hid (bt + 1 + 1 ≠ w5.heap.size) := Lib.hid (by have h1 := HB3.out.lt; omega)
      clear hk5 hs5
      go_upto_region 15 with (fail)
      obtain ⟨w6, hw6⟩ : ∃ x, w5.alloc (.cells #[.int .i64 (k : Int)] 3) = x := ⟨_, rfl⟩
      rw [hw6] at K56 HBk ⊢
      obtain ⟨gk, hgk⟩ : ∃ g, w5.heap.size = g := ⟨_, rfl⟩
      rw [hgk] at HBk HGK ⊢
      clear hw6 hgk
      have K6 := Lib.hid (K4.out.trans K56.out)
      have Kb6 := Lib.hid (K34.out.trans K56.out)
      have Ka6 := Lib.hid (Kab.out.trans Kb6.out)
      have Kz6 := K56
      have Kk6 := Lib.hid (Keeps.refl [] w6)
      have y0 : w6.cell? ⟨bt, 0, none⟩ = some (.slice A t.cols.length c) := ((HB1.out).keep (K6).out (by simp)).cell 0
      have y1 : w6.cell? ⟨bt, 1, none⟩ = some (.slice B t.rows.length d) := ((HB1.out).keep (K6).out (by simp)).cell 1
      have y2 : w6.cell? ⟨ga, 0, none⟩ = some (.slice A1 t.cols.length c1) := ((HBa.out).keep (Ka6).out (by simp)).cell 0
      have y3 : w6.cell? ⟨ga, 1, none⟩ = some (.slice A2 t.rows.length c2) := ((HBa.out).keep (Ka6).out (by simp)).cell 1
      have y4 : w6.cell? ⟨gb, 0, none⟩ = some (.slice B1 t.cols.length e1) := ((HBb.out).keep (Kb6).out (by simp)).cell 0
      have y5 : w6.cell? ⟨gb, 1, none⟩ = some (.slice B2 t.rows.length e2) := ((HBb.out).keep (Kb6).out (by simp)).cell 1
      have y6 : w6.cell? ⟨gz, 0, none⟩ = some (.slice C1 z.cols.length f1) := ((HBz.out).keep (Kz6).out (by simp)).cell 0
      have y7 : w6.cell? ⟨gz, 1, none⟩ = some (.slice C2 z.rows.length f2) := ((HBz.out).keep (Kz6).out (by simp)).cell 1
      have y8 : w6.cell? ⟨gk, 0, none⟩ = some (.int .i64 (k : Int)) := ((HBk.out).keep (Kk6).out (by simp)).cell 0
      have ly0 : bt < w6.heap.size := ((HB1.out).keep (K6).out (by simp)).lt
      have ly2 : ga < w6.heap.size := ((HBa.out).keep (Ka6).out (by simp)).lt
      have ly4 : gb < w6.heap.size := ((HBb.out).keep (Kb6).out (by simp)).lt
      have ly6 : gz < w6.heap.size := ((HBz.out).keep (Kz6).out (by simp)).lt
      have ly8 : gk < w6.heap.size := ((HBk.out).keep (Kk6).out (by simp)).lt
      go_wp2_with fail
      refine (HSAME.out A1 A2 c1 c2 w6 (HK0.out.trans K6.out) (HTa.out.quiet Ka6.out)).mono ?_
      rintro e w7 ⟨rfl, hk7⟩
      clear y0 y1 y2 y3 y4 y5 y6 y7 y8 ly0 ly2 ly4 ly6 ly8
      have K7 := Lib.hid (K6.out.trans hk7)
      have Ka7 := Lib.hid (Ka6.out.trans hk7)
      have Kb7 := Lib.hid (Kb6.out.trans hk7)
      have Kz7 := Lib.hid (Kz6.out.trans hk7)
      have Kk7 := Lib.hid (Kk6.out.trans hk7)
      clear hk7
      have y0 : w7.cell? ⟨bt, 0, none⟩ = some (.slice A t.cols.length c) := ((HB1.out).keep (K7).out (by simp)).cell 0
      have y1 : w7.cell? ⟨bt, 1, none⟩ = some (.slice B t.rows.length d) := ((HB1.out).keep (K7).out (by simp)).cell 1
      have y2 : w7.cell? ⟨ga, 0, none⟩ = some (.slice A1 t.cols.length c1) := ((HBa.out).keep (Ka7).out (by simp)).cell 0
      have y3 : w7.cell? ⟨ga, 1, none⟩ = some (.slice A2 t.rows.length c2) := ((HBa.out).keep (Ka7).out (by simp)).cell 1
      have y4 : w7.cell? ⟨gb, 0, none⟩ = some (.slice B1 t.cols.length e1) := ((HBb.out).keep (Kb7).out (by simp)).cell 0
      have y5 : w7.cell? ⟨gb, 1, none⟩ = some (.slice B2 t.rows.length e2) := ((HBb.out).keep (Kb7).out (by simp)).cell 1
      have y6 : w7.cell? ⟨gz, 0, none⟩ = some (.slice C1 z.cols.length f1) := ((HBz.out).keep (Kz7).out (by simp)).cell 0
      have y7 : w7.cell? ⟨gz, 1, none⟩ = some (.slice C2 z.rows.length f2) := ((HBz.out).keep (Kz7).out (by simp)).cell 1
      have y8 : w7.cell? ⟨gk, 0, none⟩ = some (.int .i64 (k : Int)) := ((HBk.out).keep (Kk7).out (by simp)).cell 0
      have ly0 : bt < w7.heap.size := ((HB1.out).keep (K7).out (by simp)).lt
      have ly2 : ga < w7.heap.size := ((HBa.out).keep (Ka7).out (by simp)).lt
      have ly4 : gb < w7.heap.size := ((HBb.out).keep (Kb7).out (by simp)).lt
      have ly6 : gz < w7.heap.size := ((HBz.out).keep (Kz7).out (by simp)).lt
      have ly8 : gk < w7.heap.size := ((HBk.out).keep (Kk7).out (by simp)).lt
      go_wp2_with fail
      refine (HSAME.out B1 B2 e1 e2 w7 (HK0.out.trans K7.out) (HTb.out.quiet Kb7.out)).mono ?_
      rintro e w8 ⟨rfl, hk8⟩
      clear y0 y1 y2 y3 y4 y5 y6 y7 y8 ly0 ly2 ly4 ly6 ly8
      have K8 := Lib.hid (K7.out.trans hk8)
      have Ka8 := Lib.hid (Ka7.out.trans hk8)
      have Kb8 := Lib.hid (Kb7.out.trans hk8)
      have Kz8 := Lib.hid (Kz7.out.trans hk8)
      have Kk8 := Lib.hid (Kk7.out.trans hk8)
      clear hk8
      have y0 : w8.cell? ⟨bt, 0, none⟩ = some (.slice A t.cols.length c) := ((HB1.out).keep (K8).out (by simp)).cell 0
      have y1 : w8.cell? ⟨bt, 1, none⟩ = some (.slice B t.rows.length d) := ((HB1.out).keep (K8).out (by simp)).cell 1
      have y2 : w8.cell? ⟨ga, 0, none⟩ = some (.slice A1 t.cols.length c1) := ((HBa.out).keep (Ka8).out (by simp)).cell 0
      have y3 : w8.cell? ⟨ga, 1, none⟩ = some (.slice A2 t.rows.length c2) := ((HBa.out).keep (Ka8).out (by simp)).cell 1
      have y4 : w8.cell? ⟨gb, 0, none⟩ = some (.slice B1 t.cols.length e1) := ((HBb.out).keep (Kb8).out (by simp)).cell 0
      have y5 : w8.cell? ⟨gb, 1, none⟩ = some (.slice B2 t.rows.length e2) := ((HBb.out).keep (Kb8).out (by simp)).cell 1
      have y6 : w8.cell? ⟨gz, 0, none⟩ = some (.slice C1 z.cols.length f1) := ((HBz.out).keep (Kz8).out (by simp)).cell 0
      have y7 : w8.cell? ⟨gz, 1, none⟩ = some (.slice C2 z.rows.length f2) := ((HBz.out).keep (Kz8).out (by simp)).cell 1
      have y8 : w8.cell? ⟨gk, 0, none⟩ = some (.int .i64 (k : Int)) := ((HBk.out).keep (Kk8).out (by simp)).cell 0
      have ly0 : bt < w8.heap.size := ((HB1.out).keep (K8).out (by simp)).lt
      have ly2 : ga < w8.heap.size := ((HBa.out).keep (Ka8).out (by simp)).lt
      have ly4 : gb < w8.heap.size := ((HBb.out).keep (Kb8).out (by simp)).lt
      have ly6 : gz < w8.heap.size := ((HBz.out).keep (Kz8).out (by simp)).lt
      have ly8 : gk < w8.heap.size := ((HBk.out).keep (Kk8).out (by simp)).lt
      have HCT : Hid (Calls Tryz.prog 31 #[.slice C2 z.rows.length f2, .func (.func 32) #[] #[.pointer (some ⟨gk, 0, none⟩)]] w8 fun e w' => e = .returned (.bool false) ∧ Keeps [] w8 w') := Lib.hid (by
        have hT := HTz.out.quiet Kz8.out
        have h := containsFuncR_any 32 #[.pointer (some ⟨gk, 0, none⟩)] (enters_of Tryz.func32 (by kernel_rfl) rfl) (fun r => (r.getD k zV).num != 0) z.rows C2 f2 w8 hT.rows hT.lm (fun r hr A9 c9 W q _ hR => by
          obtain ⟨hkr, _⟩ := HZR.out r hr
          have h2 := sets4_any r k gk A9 c9 W hR hkr ((((HBk.out.keep Kk8.out (by simp)).keep q (by simp))).cell 0)
          rw [show r[k] = r.getD k zV by rw [List.getD_eq_getElem?_getD, List.getElem?_eq_getElem hkr]; rfl] at h2
          exact h2)
        rw [show z.rows.any (fun r => (r.getD k zV).num != 0) = false by
          rw [List.any_eq_false]
          intro r hr
          rw [(HZR.out r hr).2]
          decide] at h
        exact h)
      go_wp2_with fail
      refine HCT.out.mono ?_
      rintro e w9 ⟨rfl, hk9⟩
      clear y0 y1 y2 y3 y4 y5 y6 y7 y8 ly0 ly2 ly4 ly6 ly8
      have K9 := Lib.hid (K8.out.trans hk9)
      have Ka9 := Lib.hid (Ka8.out.trans hk9)
      have Kb9 := Lib.hid (Kb8.out.trans hk9)
      have Kz9 := Lib.hid (Kz8.out.trans hk9)
      have Kk9 := Lib.hid (Kk8.out.trans hk9)
      clear hk9 HCT
      go_upto_region 17 with (fail)
      have y0 : w9.cell? ⟨bt + 1 + 1, 0, none⟩ = some (.int .i64 n) := (HB3.out.keep K9.out (by simp)).cell 0
      have y1 := (HB3.out.keep K9.out (by simp)).frozen 0
      have ly0 : bt + 1 + 1 < w9.heap.size := (HB3.out.keep K9.out (by simp)).lt
      go_wp2_with fail
      refine (HPK.out w9).mono ?_
      rintro e w10 ⟨rfl, rfl⟩
      go_upto_region 18 with (fail)
      clear y0 y1 ly0
      have hm2 := pickN_lt n (show 0 < 1000000000 by decide)
      obtain ⟨m, hm⟩ : ∃ m : Nat, pickN n 1000000000 = m := ⟨_, rfl⟩
      rw [hm] at hm2 ⊢
      have HC1 := Lib.hid ((HB1.out.keep K9.out (by simp)).far (p := ⟨bt + 1 + 1, 0, none⟩) (show bt ≠ bt + 1 + 1 by omega) (.int .i64 (m : Int)))
      have HC2 := Lib.hid ((HB2.out.keep K9.out (by simp)).far (p := ⟨bt + 1 + 1, 0, none⟩) (show bt + 1 ≠ bt + 1 + 1 by omega) (.int .i64 (m : Int)))
      have HC3 := Lib.hid (((HB3.out.keep K9.out (by simp)).set 0 (.int .i64 (m : Int))).congr (cs' := #[.int .i64 (m : Int)]) rfl)
      have HC4 := Lib.hid ((HBk.out.keep Kk9.out (by simp)).far (p := ⟨bt + 1 + 1, 0, none⟩) (Ne.symm HGK.out) (.int .i64 (m : Int)))
      have KX := Lib.hid ((HK0.out.trans K9.out).setCell (p := ⟨bt + 1 + 1, 0, none⟩) (.inr HLB.out) (.int .i64 (m : Int)))
      obtain ⟨x1, hx1⟩ : ∃ x, w9.setCell ⟨bt + 1 + 1, 0, none⟩ (.int .i64 (m : Int)) = x := ⟨_, rfl⟩
      rw [hx1] at HC1 HC2 HC3 HC4 KX ⊢
      have Kr := Lib.hid (Keeps.refl [] x1)
      clear hm hx1
      rcases sets_more (n := (m : Int)) HSK.out (by omega) (by omega) with ⟨mt, hmt1, hmt2⟩ | ⟨hmt1, hex⟩
      · have HRUm := Lib.hid (one_right (.inr (.inl rfl)) hmt1)
        have HM : Hid (∀ W, Keeps [] x1 W → Calls Tryz.prog 28 #[.string ⟨#[43]⟩, .agg #[.string ⟨#[]⟩, .int .i64 1, .int .i64 (m : Int), .string ⟨#[]⟩], .agg #[.slice A t.cols.length c, .slice B t.rows.length d], .pointer (some ⟨bt + 1, 0, none⟩)] W fun e w' => (∃ A1 c1 A2 c2, e = .returned (.tuple #[.agg #[.slice A1 mt.cols.length c1, .slice A2 mt.rows.length c2], .bool true]) ∧ TabIn w' mt A1 A2 c1 c2) ∧ Keeps [] W w') := Lib.hid fun W q => by
          have h := setc_any col [43] (numA (m : Int)) t A B c d (bt + 1) W (HE.out.quiet (KX.out.trans q)) (HTN.out.quiet (KX.out.trans q)) ((HC2.out.keep q (by simp)).cell 0)
          rw [hmt1] at h
          exact h
        have HMT2 := Lib.hid hmt2
        clear hmt1 hmt2
        have q0 : x1.cell? ⟨bt, 0, none⟩ = some (.slice A t.cols.length c) := ((HC1.out).keep Kr.out (by simp)).cell 0
        have q1 : x1.cell? ⟨bt, 1, none⟩ = some (.slice B t.rows.length d) := ((HC1.out).keep Kr.out (by simp)).cell 1
        have q2 : x1.cell? ⟨bt + 1 + 1, 0, none⟩ = some (.int .i64 (m : Int)) := ((HC3.out).keep Kr.out (by simp)).cell 0
        have lq0 : bt < x1.heap.size := ((HC1.out).keep Kr.out (by simp)).lt
        have lq2 : bt + 1 + 1 < x1.heap.size := ((HC3.out).keep Kr.out (by simp)).lt
        go_upto_region 18 with (fail)
        go_cut [16, 10] (fun p q wx => BoxIs x1 wx p q (some mt))
        case first =>
          -- BEGIN r18
          go_region_held3 (fun w' => w'.cell? ⟨bt, 0, none⟩ = some (.slice A t.cols.length c) ∧ w'.cell? ⟨bt, 1, none⟩ = some (.slice B t.rows.length d) ∧ w'.cell? ⟨bt + 1 + 1, 0, none⟩ = some (.int .i64 (m : Int))) (first | exact ⟨((kk6.setCell (.inr kk5.size) _).setCell (.inr kk5.size) _).cell_of q0 (by simp), ((kk6.setCell (.inr kk5.size) _).setCell (.inr kk5.size) _).cell_of q1 (by simp), ((kk6.setCell (.inr kk5.size) _).setCell (.inr kk5.size) _).cell_of q2 (by simp)⟩ | exact ⟨((kk6.setCell (.inr (Nat.le_refl _)) _).setCell (.inr (Nat.le_refl _)) _).cell_of q0 (by simp), ((kk6.setCell (.inr (Nat.le_refl _)) _).setCell (.inr (Nat.le_refl _)) _).cell_of q1 (by simp), ((kk6.setCell (.inr (Nat.le_refl _)) _).setCell (.inr (Nat.le_refl _)) _).cell_of q2 (by simp)⟩ | exact ⟨(kk6.alloc _).cell_of q0 (by simp), (kk6.alloc _).cell_of q1 (by simp), (kk6.alloc _).cell_of q2 (by simp)⟩ | exact ⟨(kk6).cell_of q0 (by simp), (kk6).cell_of q1 (by simp), (kk6).cell_of q2 (by simp)⟩ | exact ⟨(kk5).cell_of q0 (by simp), (kk5).cell_of q1 (by simp), (kk5).cell_of q2 (by simp)⟩ | exact ⟨q0, q1, q2⟩ | go_keep) (first | ((with_reducible refine (num_any (m : Int) _).mono ?_); rintro e w5 ⟨rfl, k5⟩; have kk5 : Keeps [] x1 w5 := (by first | exact Keeps.of_drew k5 | exact ((Keeps.refl [] x1).drew.alloc _).trans k5); have z0 := kk5.cell_of q0 (by simp); have lz : bt < w5.heap.size := World.block_lt_of_cell? _ _ z0; try (have hb5 : Blk w5 x1.heap.size 25 #[.slice none 0 0, .slice none 0 0] := (Blk.new x1.drew 25 #[.slice none 0 0, .slice none 0 0]).keep k5 (by simp))) | ((with_reducible refine (HM.out _ ?_).mono ?_); (first | exact Kr.out.trans kk5 | exact (Kr.out.trans kk5).alloc _); rintro e v8 ⟨⟨A8, c8, B8, d8, rfl, ht8⟩, hk8⟩; have kk6 : Keeps [] x1 v8 := (by first | exact kk5.trans hk8 | exact (kk5.alloc _).trans hk8); try (first | (have hb6 := hb5.keep hk8 (by simp); have bx0 := hb6.cell 0; have bx1 := hb6.cell 1; have gx0 := hb6.frozen 0; have gx1 := hb6.frozen 1; have hbl := hb6.lt) | (have hb6 := (Blk.new w5 25 #[.slice none 0 0, .slice none 0 0]).keep hk8 (by simp); have bx0 := hb6.cell 0; have bx1 := hb6.cell 1; have gx0 := hb6.frozen 0; have gx1 := hb6.frozen 1; have hbl := hb6.lt))))
          all_goals
            go_wp2_with fail
            go_meet
            case rel => first | exact ⟨kk6.alloc _, rfl, _, _, _, _, _, rfl, Blk.new _ _ _, ht8.quiet ((Keeps.refl _ _).alloc _)⟩ | exact ⟨(kk6.setCell (.inr kk5.size) _).setCell (.inr kk5.size) _, rfl, _, _, _, _, _, rfl, ((hb6.set 0 _).set 1 _).congr rfl, tabIn_box hb6 HRUm.out ht8⟩ | exact ⟨(kk6.setCell (.inr (Nat.le_refl _)) _).setCell (.inr (Nat.le_refl _)) _, rfl, _, _, _, _, _, rfl, ((hb6.set 0 _).set 1 _).congr rfl, tabIn_box hb6 HRUm.out ht8⟩
          -- END r18
        case rest =>
          clear q0 q1 q2 lq0 lq2
          obtain ⟨kx, hq, gm, M1, m1, M2, m2, hp, hbm, htm⟩ := hcut
          subst hq hp
          obtain ⟨wd, rfl⟩ : ∃ wd : World, wd = wc := ⟨_, rfl⟩
          have Kwd := Lib.hid kx
          have HBm := Lib.hid hbm
          have HTm := Lib.hid htm
          have Kdd := Lib.hid (Keeps.refl [] wd)
          clear kx hbm htm
          have HN : Hid (∀ W, Keeps [] wd W → Calls Tryz.prog 28 #[.string ⟨#[45]⟩, .agg #[.string ⟨#[]⟩, .int .i64 1, .int .i64 (m : Int), .string ⟨#[]⟩], .agg #[.slice M1 mt.cols.length m1, .slice M2 mt.rows.length m2], .pointer (some ⟨bt + 1, 0, none⟩)] W fun e w' => (∃ A1 c1 A2 c2, e = .returned (.tuple #[.agg #[.slice A1 t.cols.length c1, .slice A2 t.rows.length c2], .bool true]) ∧ TabIn w' t A1 A2 c1 c2) ∧ Keeps [] W w') := Lib.hid fun W q => by
            have h := setc_any col [45] (numA (m : Int)) mt M1 M2 m1 m2 (bt + 1) W (HE.out.quiet (KX.out.trans (Kwd.out.trans q))) (HTm.out.quiet q) (((HC2.out.keep Kwd.out (by simp)).keep q (by simp)).cell 0)
            rw [HMT2.out] at h
            exact h
          have q0 : wd.cell? ⟨gm, 0, none⟩ = some (.slice M1 mt.cols.length m1) := ((HBm.out).keep Kdd.out (by simp)).cell 0
          have q1 : wd.cell? ⟨gm, 1, none⟩ = some (.slice M2 mt.rows.length m2) := ((HBm.out).keep Kdd.out (by simp)).cell 1
          have q2 : wd.cell? ⟨bt + 1 + 1, 0, none⟩ = some (.int .i64 (m : Int)) := ((HC3.out).keep Kwd.out (by simp)).cell 0
          have lq0 : gm < wd.heap.size := ((HBm.out).keep Kdd.out (by simp)).lt
          have lq2 : bt + 1 + 1 < wd.heap.size := ((HC3.out).keep Kwd.out (by simp)).lt
          go_upto_region 21 with (fail)
          go_cut [17, 10] (fun p q wx => BoxIs wd wx p q (some t))
          case first =>
            -- BEGIN r21
            go_region_held3 (fun w' => w'.cell? ⟨gm, 0, none⟩ = some (.slice M1 mt.cols.length m1) ∧ w'.cell? ⟨gm, 1, none⟩ = some (.slice M2 mt.rows.length m2) ∧ w'.cell? ⟨bt + 1 + 1, 0, none⟩ = some (.int .i64 (m : Int))) (first | exact ⟨((kk6.setCell (.inr kk5.size) _).setCell (.inr kk5.size) _).cell_of q0 (by simp), ((kk6.setCell (.inr kk5.size) _).setCell (.inr kk5.size) _).cell_of q1 (by simp), ((kk6.setCell (.inr kk5.size) _).setCell (.inr kk5.size) _).cell_of q2 (by simp)⟩ | exact ⟨((kk6.setCell (.inr (Nat.le_refl _)) _).setCell (.inr (Nat.le_refl _)) _).cell_of q0 (by simp), ((kk6.setCell (.inr (Nat.le_refl _)) _).setCell (.inr (Nat.le_refl _)) _).cell_of q1 (by simp), ((kk6.setCell (.inr (Nat.le_refl _)) _).setCell (.inr (Nat.le_refl _)) _).cell_of q2 (by simp)⟩ | exact ⟨(kk6.alloc _).cell_of q0 (by simp), (kk6.alloc _).cell_of q1 (by simp), (kk6.alloc _).cell_of q2 (by simp)⟩ | exact ⟨(kk6).cell_of q0 (by simp), (kk6).cell_of q1 (by simp), (kk6).cell_of q2 (by simp)⟩ | exact ⟨(kk5).cell_of q0 (by simp), (kk5).cell_of q1 (by simp), (kk5).cell_of q2 (by simp)⟩ | exact ⟨q0, q1, q2⟩ | go_keep) (first | ((with_reducible refine (num_any (m : Int) _).mono ?_); rintro e w5 ⟨rfl, k5⟩; have kk5 : Keeps [] wd w5 := (by first | exact Keeps.of_drew k5 | exact ((Keeps.refl [] wd).drew.alloc _).trans k5); have z0 := kk5.cell_of q0 (by simp); have lz : gm < w5.heap.size := World.block_lt_of_cell? _ _ z0; try (have hb5 : Blk w5 wd.heap.size 25 #[.slice none 0 0, .slice none 0 0] := (Blk.new wd.drew 25 #[.slice none 0 0, .slice none 0 0]).keep k5 (by simp))) | ((with_reducible refine (HN.out _ ?_).mono ?_); (first | exact Kdd.out.trans kk5 | exact (Kdd.out.trans kk5).alloc _); rintro e v9 ⟨⟨A9, c9, B9, d9, rfl, ht9⟩, hk9⟩; have kk6 : Keeps [] wd v9 := (by first | exact kk5.trans hk9 | exact (kk5.alloc _).trans hk9); try (first | (have hb6 := hb5.keep hk9 (by simp); have bx0 := hb6.cell 0; have bx1 := hb6.cell 1; have gx0 := hb6.frozen 0; have gx1 := hb6.frozen 1; have hbl := hb6.lt) | (have hb6 := (Blk.new w5 25 #[.slice none 0 0, .slice none 0 0]).keep hk9 (by simp); have bx0 := hb6.cell 0; have bx1 := hb6.cell 1; have gx0 := hb6.frozen 0; have gx1 := hb6.frozen 1; have hbl := hb6.lt))))
            all_goals
              go_wp2_with fail
              go_meet
              case rel => first | exact ⟨kk6.alloc _, rfl, _, _, _, _, _, rfl, Blk.new _ _ _, ht9.quiet ((Keeps.refl _ _).alloc _)⟩ | exact ⟨(kk6.setCell (.inr kk5.size) _).setCell (.inr kk5.size) _, rfl, _, _, _, _, _, rfl, ((hb6.set 0 _).set 1 _).congr rfl, tabIn_box hb6 HRU1.out ht9⟩ | exact ⟨(kk6.setCell (.inr (Nat.le_refl _)) _).setCell (.inr (Nat.le_refl _)) _, rfl, _, _, _, _, _, rfl, ((hb6.set 0 _).set 1 _).congr rfl, tabIn_box hb6 HRU1.out ht9⟩
            -- END r21
          case rest =>
            clear q0 q1 q2 lq0 lq2
            obtain ⟨kx, hq, gn, N1, n1, N2, n2, hp, hbn, htn⟩ := hcut
            subst hq hp
            obtain ⟨we, rfl⟩ : ∃ we : World, we = wc := ⟨_, rfl⟩
            have Kwe := Lib.hid (Kwd.out.trans kx)
            have HBn := Lib.hid hbn
            have HTn := Lib.hid htn
            clear kx hbn htn
            have y0 : we.cell? ⟨gn, 0, none⟩ = some (.slice N1 t.cols.length n1) := ((HBn.out).keep (Keeps.refl [] we) (by simp)).cell 0
            have y1 : we.cell? ⟨gn, 1, none⟩ = some (.slice N2 t.rows.length n2) := ((HBn.out).keep (Keeps.refl [] we) (by simp)).cell 1
            have y2 : we.cell? ⟨bt, 0, none⟩ = some (.slice A t.cols.length c) := ((HC1.out).keep Kwe.out (by simp)).cell 0
            have y3 : we.cell? ⟨bt, 1, none⟩ = some (.slice B t.rows.length d) := ((HC1.out).keep Kwe.out (by simp)).cell 1
            have ly0 : gn < we.heap.size := ((HBn.out).keep (Keeps.refl [] we) (by simp)).lt
            have ly2 : bt < we.heap.size := ((HC1.out).keep Kwe.out (by simp)).lt
            go_wp2_with fail
            refine (HSAME.out N1 N2 n1 n2 we (KX.out.trans Kwe.out) HTn.out).mono ?_
            rintro e w11 ⟨rfl, hk11⟩
            go_wp2
            go_ret
            exact ⟨rfl, (KX.out.trans Kwe.out).trans hk11⟩
      · have HEX := Lib.hid hex
        have HM : Hid (∀ W, Keeps [] x1 W → Calls Tryz.prog 28 #[.string ⟨#[43]⟩, .agg #[.string ⟨#[]⟩, .int .i64 1, .int .i64 (m : Int), .string ⟨#[]⟩], .agg #[.slice A t.cols.length c, .slice B t.rows.length d], .pointer (some ⟨bt + 1, 0, none⟩)] W fun e w' => e = .returned (.tuple #[.agg #[.slice none 0 0, .slice none 0 0], .bool false]) ∧ Keeps [] W w') := Lib.hid fun W q => by
          have h := setc_any col [43] (numA (m : Int)) t A B c d (bt + 1) W (HE.out.quiet (KX.out.trans q)) (HTN.out.quiet (KX.out.trans q)) ((HC2.out.keep q (by simp)).cell 0)
          rw [hmt1] at h
          exact h
        clear hmt1 hex
        have q0 : x1.cell? ⟨bt, 0, none⟩ = some (.slice A t.cols.length c) := ((HC1.out).keep Kr.out (by simp)).cell 0
        have q1 : x1.cell? ⟨bt, 1, none⟩ = some (.slice B t.rows.length d) := ((HC1.out).keep Kr.out (by simp)).cell 1
        have q2 : x1.cell? ⟨bt + 1 + 1, 0, none⟩ = some (.int .i64 (m : Int)) := ((HC3.out).keep Kr.out (by simp)).cell 0
        have lq0 : bt < x1.heap.size := ((HC1.out).keep Kr.out (by simp)).lt
        have lq2 : bt + 1 + 1 < x1.heap.size := ((HC3.out).keep Kr.out (by simp)).lt
        go_upto_region 18 with (fail)
        go_cut [16, 10] (fun p q wx => BoxIs x1 wx p q none)
        case first =>
          -- BEGIN r18n
          go_region_held3 (fun w' => w'.cell? ⟨bt, 0, none⟩ = some (.slice A t.cols.length c) ∧ w'.cell? ⟨bt, 1, none⟩ = some (.slice B t.rows.length d) ∧ w'.cell? ⟨bt + 1 + 1, 0, none⟩ = some (.int .i64 (m : Int))) (first | exact ⟨((kk6.setCell (.inr kk5.size) _).setCell (.inr kk5.size) _).cell_of q0 (by simp), ((kk6.setCell (.inr kk5.size) _).setCell (.inr kk5.size) _).cell_of q1 (by simp), ((kk6.setCell (.inr kk5.size) _).setCell (.inr kk5.size) _).cell_of q2 (by simp)⟩ | exact ⟨((kk6.setCell (.inr (Nat.le_refl _)) _).setCell (.inr (Nat.le_refl _)) _).cell_of q0 (by simp), ((kk6.setCell (.inr (Nat.le_refl _)) _).setCell (.inr (Nat.le_refl _)) _).cell_of q1 (by simp), ((kk6.setCell (.inr (Nat.le_refl _)) _).setCell (.inr (Nat.le_refl _)) _).cell_of q2 (by simp)⟩ | exact ⟨(kk6.alloc _).cell_of q0 (by simp), (kk6.alloc _).cell_of q1 (by simp), (kk6.alloc _).cell_of q2 (by simp)⟩ | exact ⟨(kk6).cell_of q0 (by simp), (kk6).cell_of q1 (by simp), (kk6).cell_of q2 (by simp)⟩ | exact ⟨(kk5).cell_of q0 (by simp), (kk5).cell_of q1 (by simp), (kk5).cell_of q2 (by simp)⟩ | exact ⟨q0, q1, q2⟩ | go_keep) (first | ((with_reducible refine (num_any (m : Int) _).mono ?_); rintro e w5 ⟨rfl, k5⟩; have kk5 : Keeps [] x1 w5 := (by first | exact Keeps.of_drew k5 | exact ((Keeps.refl [] x1).drew.alloc _).trans k5); have z0 := kk5.cell_of q0 (by simp); have lz : bt < w5.heap.size := World.block_lt_of_cell? _ _ z0; try (have hb5 : Blk w5 x1.heap.size 25 #[.slice none 0 0, .slice none 0 0] := (Blk.new x1.drew 25 #[.slice none 0 0, .slice none 0 0]).keep k5 (by simp))) | ((with_reducible refine (HM.out _ ?_).mono ?_); (first | exact Kr.out.trans kk5 | exact (Kr.out.trans kk5).alloc _); rintro e v8 ⟨rfl, hk8⟩; have kk6 : Keeps [] x1 v8 := (by first | exact kk5.trans hk8 | exact (kk5.alloc _).trans hk8); try (first | (have hb6 := hb5.keep hk8 (by simp); have bx0 := hb6.cell 0; have bx1 := hb6.cell 1; have gx0 := hb6.frozen 0; have gx1 := hb6.frozen 1; have hbl := hb6.lt) | (have hb6 := (Blk.new w5 25 #[.slice none 0 0, .slice none 0 0]).keep hk8 (by simp); have bx0 := hb6.cell 0; have bx1 := hb6.cell 1; have gx0 := hb6.frozen 0; have gx1 := hb6.frozen 1; have hbl := hb6.lt))))
          all_goals
            go_wp2_with fail
            go_meet
            case rel => first | exact ⟨kk6.alloc _, rfl⟩ | exact ⟨(kk6.setCell (.inr kk5.size) _).setCell (.inr kk5.size) _, rfl⟩ | exact ⟨(kk6.setCell (.inr (Nat.le_refl _)) _).setCell (.inr (Nat.le_refl _)) _, rfl⟩
          -- END r18n
        case rest =>
          clear q0 q1 q2 lq0 lq2
          obtain ⟨kx, hq⟩ := hcut
          obtain rfl : u10 = .bool false := hq
          obtain ⟨wd, rfl⟩ : ∃ wd : World, wd = wc := ⟨_, rfl⟩
          have Kwd := Lib.hid kx
          clear kx
          have HC5 : Hid (Calls Tryz.prog 31 #[.slice B t.rows.length d, .func (.func 34) #[] #[.pointer (some ⟨gk, 0, none⟩), .pointer (some ⟨bt + 1 + 1, 0, none⟩)]] wd fun e w' => e = .returned (.bool true) ∧ Keeps [] wd w') := Lib.hid (by
            have hT := HTN.out.quiet (KX.out.trans Kwd.out)
            have h := containsFuncR_any 34 #[.pointer (some ⟨gk, 0, none⟩), .pointer (some ⟨bt + 1 + 1, 0, none⟩)] (enters_of Tryz.func34 (by kernel_rfl) rfl) (fun r => decide (1000000000 - (m : Int) < (r.getD k zV).num)) t.rows B d wd hT.rows hT.lm (fun r hr A9 c9 W q _ hR => by
              obtain ⟨hkr, _⟩ := row_num HSK.out hr
              have h2 := sets5_any r k gk (bt + 1 + 1) (m : Int) (by omega) (by omega) A9 c9 W hR hkr (((HC4.out.keep Kwd.out (by simp)).keep q (by simp)).cell 0) (((HC3.out.keep Kwd.out (by simp)).keep q (by simp)).cell 0)
              rw [show r[k] = r.getD k zV by rw [List.getD_eq_getElem?_getD, List.getElem?_eq_getElem hkr]; rfl] at h2
              exact h2)
            rw [show t.rows.any (fun r => decide (1000000000 - (m : Int) < (r.getD k zV).num)) = true by
              rw [List.any_eq_true]
              obtain ⟨r, hr, hgt⟩ := HEX.out
              exact ⟨r, hr, decide_eq_true hgt⟩] at h
            exact h)
          have y0 : wd.cell? ⟨bt, 0, none⟩ = some (.slice A t.cols.length c) := ((HC1.out).keep Kwd.out (by simp)).cell 0
          have y1 : wd.cell? ⟨bt, 1, none⟩ = some (.slice B t.rows.length d) := ((HC1.out).keep Kwd.out (by simp)).cell 1
          have ly0 : bt < wd.heap.size := ((HC1.out).keep Kwd.out (by simp)).lt
          go_wp2_with fail
          refine HC5.out.mono ?_
          rintro e w11 ⟨rfl, hk11⟩
          go_wp2
          go_ret
          exact ⟨rfl, (KX.out.trans Kwd.out).trans hk11⟩
end Go.Proofs.YtomgnjgaafnkiaaGreatDoor
namespace Go.Proofs.YtomgnjgaafnkiaaGreatDoor
theorem osets_all (t : Tb) (A B : Option Addr) (c d : Nat) (col : Bs) (n : Int) (w : World) (hT : TabAny w t A B c d) (hE : OEnv w) :
    Calls Tryz.prog 8 #[tAgg A t.cols.length c B t.rows.length d, .string (bs col), .int .i64 n] w fun e w' => e = .returned (.bool true) ∧ Keeps [] w w' := by
  cases hs : smallB t with
  | false => exact osets_0 t A B c d col n w hT hE hs
  | true =>
    by_cases hc : col.length ≤ 40
    · by_cases hk : ∃ k, SetK t col k
      · obtain ⟨k, hk⟩ := hk
        exact osets_good t A B c d col n w hT hE hs hc k hk
      · exact osets_bad t A B c d col n w hT hE hs hc hk
    · exact osets_1 t A B c d col n w hT hE hs (by omega)
end Go.Proofs.YtomgnjgaafnkiaaGreatDoor
