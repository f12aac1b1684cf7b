/- DiskKeeps: the walk. -/
import Derived.Test.YtjoolemhcpcnoaaDoorFull
import Derived.Deep.CutRange
import Derived.Deep.DeepCutAuto
import Derived.Deep.CutBlock
namespace Go.Proofs.YtjoolemhcpcnoaaDoor
open Go.RowKit Go.Shelf
attribute [local go_sem] bs_size bs_extract bs_append bs_toList errV_0 errV_2

/-- An act of the law, and where its flags lie. -/
structure OpC where
  what : Int
  at_ : Int
  s : Bs
  ks : List Bool
  kA : Option Addr
  kc : Nat
def opCell (o : OpC) : List Value := [.int .i64 o.what, .int .i64 o.at_, .string (bs o.s), .slice o.kA o.ks.length o.kc]
def opCells (l : List OpC) : List Value := l.flatMap opCell
theorem opCells_length (l : List OpC) : (opCells l).length = l.length * 4 := by
  induction l with
  | nil => rfl
  | cons p l ih => simp [opCells, opCell] at ih ⊢; omega
theorem opCells_at (l : List OpC) (k : Nat) (h : k < l.length) : (opCells l)[k * 4]? = some (.int .i64 l[k].what) ∧ (opCells l)[k * 4 + 1]? = some (.int .i64 l[k].at_) ∧
    (opCells l)[k * 4 + 2]? = some (.string (bs l[k].s)) ∧ (opCells l)[k * 4 + 3]? = some (.slice l[k].kA l[k].ks.length l[k].kc) := by
  induction l generalizing k with
  | nil => simp at h
  | cons p l ih =>
    rcases k with _ | k
    · simp [opCells, opCell]
    · have := ih k (by simpa using h)
      simpa [opCells, opCell, Nat.succ_mul] using this

def Dk.step (D : Dk) (o : OpC) : Dk :=
  if o.what = 0 then (D.write o.at_ o.s).2 else if o.what = 1 then D.sync.2 else if o.what = 2 then D.fused o.at_ else if o.what = 3 then D.crash o.ks else D

theorem step_cases (D : Dk) (o : OpC) : (o.what = 0 ∧ D.step o = (D.write o.at_ o.s).2) ∨ (o.what = 1 ∧ D.step o = D.sync.2) ∨ (o.what = 2 ∧ D.step o = D.fused o.at_) ∨ (o.what = 3 ∧ D.step o = D.crash o.ks) ∨
    (o.what ≠ 0 ∧ o.what ≠ 1 ∧ o.what ≠ 2 ∧ o.what ≠ 3 ∧ D.step o = D) := by
  unfold Dk.step
  by_cases h0 : o.what = 0
  · exact .inl ⟨h0, if_pos h0⟩
  by_cases h1 : o.what = 1
  · exact .inr (.inl ⟨h1, by rw [if_neg h0, if_pos h1]⟩)
  by_cases h2 : o.what = 2
  · exact .inr (.inr (.inl ⟨h2, by rw [if_neg h0, if_neg h1, if_pos h2]⟩))
  by_cases h3 : o.what = 3
  · exact .inr (.inr (.inr (.inl ⟨h3, by rw [if_neg h0, if_neg h1, if_neg h2, if_pos h3]⟩)))
  · exact .inr (.inr (.inr (.inr ⟨h0, h1, h2, h3, by rw [if_neg h0, if_neg h1, if_neg h2, if_neg h3]⟩)))
theorem step_ok (D : Dk) (o : OpC) (h : D.Ok) : (D.step o).Ok := by
  rcases step_cases D o with ⟨_, e⟩ | ⟨_, e⟩ | ⟨_, e⟩ | ⟨_, e⟩ | ⟨_, _, _, _, e⟩ <;> rw [e]
  · exact ok_write _ _ _ h
  · exact ok_sync _ h
  · exact h
  · exact ok_crash _ _ h
  · exact h
theorem step_wait (D : Dk) (o : OpC) : (D.step o).wait.length ≤ D.wait.length + 1 := by
  rcases step_cases D o with ⟨_, e⟩ | ⟨_, e⟩ | ⟨_, e⟩ | ⟨_, e⟩ | ⟨_, _, _, _, e⟩ <;> rw [e]
  · exact write_wait _ _ _
  · exact Nat.le_succ_of_le (sync_wait _)
  · exact Nat.le_succ _
  · exact Nat.zero_le _
  · exact Nat.le_succ _
theorem step_sure (D : Dk) (o : OpC) : (D.step o).sure.length = D.sure.length := by
  rcases step_cases D o with ⟨_, e⟩ | ⟨_, e⟩ | ⟨_, e⟩ | ⟨_, e⟩ | ⟨_, _, _, _, e⟩ <;> rw [e]
  · exact write_sure _ _ _
  · exact sync_sure _
  · rfl
  · exact puts_length _ _
theorem size_any {w : World} {L : List Nat} {g : Nat} {D : Dk} (h : Dsk w L g D) (n : Nat) (hn : D.sure.length = n) :
    Calls Tryd.prog 40 #[.pointer (some ⟨g, 0, none⟩)] w fun e w' => e = .returned (.int .i64 (n : Int)) ∧ w = w' := by
  obtain ⟨gs, v, f0, f1, f2, fz⟩ := h.fields
  rw [hn] at f0
  clear h f1 f2 fz hn
  go_enter Tryd.func40, Tryd.ntmps40
  go_wp2
  go_ret
  exact ⟨rfl, rfl⟩
/-- The sectors that the law reads. -/
def seven (a : Int) (n : Nat) : List Int := [a, 0, 1, 7, (n : Int) - 1, (n : Int), -1]
theorem seven_cells (a : Int) (n : Nat) (w : World) (t : TypeId) (j : Nat) (hj : j < 7) :
    (w.alloc (.cells #[.int .i64 a, .int .i64 0, .int .i64 1, .int .i64 7, .int .i64 ((n : Int) - 1), .int .i64 (n : Int), .int .i64 (-1)] t)).cell? ⟨w.heap.size, j, none⟩ = some (.int .i64 ((seven a n).getD j 0)) := by
  rw [(Blk.new w t #[.int .i64 a, .int .i64 0, .int .i64 1, .int .i64 7, .int .i64 ((n : Int) - 1), .int .i64 (n : Int), .int .i64 (-1)]).cell j]
  rcases j with _ | _ | _ | _ | _ | _ | _ | j
  all_goals first | rfl | omega
theorem bytes_self (b : ByteArray) : (b == b) = true := by
  rcases b with ⟨a⟩
  exact beq_self_eq_true a
/-- What holds at the head of the law's loop. -/
def KRel (w : World) (n : Nat) (g g' : Nat) (k : Nat) (wr : World) : Prop :=
  ∃ D L L', Two w wr L L' g g' D D.full ∧ D.Ok ∧ D.wait.length ≤ k ∧ D.sure.length = n

set_option maxRecDepth 100000 in
set_option maxHeartbeats 4000000 in
theorem keeps_main (n : Nat) (l : List OpC) (A : Option Addr) (c : Nat) (w : World) (hE : ErrTy w) (h1 : 8 ≤ n) (h2 : n ≤ 16384) (hl : l.length ≤ 40)
    (hA : Rd w [] 4 A l.length (opCells l)) (hK : ∀ o ∈ l, Rd w [] 1 o.kA o.ks.length (bools o.ks)) (hB : ∀ o ∈ l, o.at_ ≤ 9223372036854775807) :
    Calls Tryd.prog 6 #[.int .i64 (n : Int), .slice A l.length c] w fun ev w' => ev = .returned (.bool true) ∧ Keeps [] w w' := by
  have HE := Lib.hid hE
  have HA := Lib.hid hA
  have HK := Lib.hid hK
  have HB := Lib.hid hB
  have hl' : (l.length : Int) ≤ 40 := by omega
  clear hE hA hK hB
  go_enter Tryd.func6, Tryd.ntmps6
  go_wp2_with fail
  refine (rnew_yes n w h1 h2).mono ?_
  rintro ev W1 ⟨rfl, ⟨L1, hR, hL1⟩, k1⟩
  have HR := Lib.hid hR
  have HL1 := Lib.hid hL1
  have hgl : w.heap.size < W1.heap.size := by
    obtain ⟨v0, v1, v2, c1, _⟩ := hR; exact c1.lt
  clear hR hL1
  go_wp2_with fail
  refine (new_da k1 n h1 h2).mono ?_
  rintro ev W2 ⟨rfl, h3, k2⟩
  have hT : Two w W2 [W1.heap.size + 1, W1.heap.size] L1 (W1.heap.size + 1) w.heap.size (Dk.new n) (Dk.new n).full := by
    rw [full_new]
    refine ⟨h3, HR.out.keep k2 (by simp), HL1.out, fun x hx hm => ?_⟩
    have := HR.out.lt x hm
    rcases List.mem_cons.1 hx with rfl | hx
    · omega
    · rw [List.mem_singleton.1 hx] at this; omega
  have HT := Lib.hid hT
  have hE2 : ErrTy W2 := HE.out.keep (k1.trans k2) (by simp)
  clear hT h3
  go_wp2_with fail
  refine (bare_same 0 W2 hE2).mono ?_
  rintro ev W3 ⟨rfl, k3⟩
  have hR : KRel w n (W1.heap.size + 1) w.heap.size 0 W3 := ⟨Dk.new n, _, _, HT.out.quiet k3, ok_new n, by simp [Dk.new], by simp [Dk.new]⟩
  have HRel := Lib.hid hR
  clear hR hE2 k1 k2 k3 HR HL1 HT hgl
  generalize W1.heap.size + 1 = g at HRel ⊢
  generalize w.heap.size = g' at HRel ⊢
  go_wp2
  go_loopw [9] (fun i wr => ∃ k : Nat, k ≤ l.length ∧ i = .int .i64 k ∧ KRel w n g g' k wr) (fun i _ => l.length - (intOf i).toNat)
  case atStart => exact ⟨0, Nat.zero_le _, rfl, HRel.out⟩
  case round =>
    clear HRel
    obtain ⟨k, hk, rfl, D, L, L', hT, hok, hw, hn⟩ := hrel
    have HT := Lib.hid hT
    have HO := Lib.hid hok
    have HN := Lib.hid hn
    clear hT hok hn
    by_cases hlt : k < l.length
    · obtain ⟨b, o, rfl, _, hb, hc⟩ := (HA.out.keep HT.out.1.2.1).open' (by omega) (by omega)
      obtain ⟨q0, q1, q2, q3⟩ := opCells_at l k hlt
      have d0 := hc _ _ q0
      have d1 : wr.cell? ⟨b, o + k * 4 + 1, none⟩ = _ := (hc _ _ q1)
      have d2 : wr.cell? ⟨b, o + k * 4 + 2, none⟩ = _ := (hc _ _ q2)
      have d3 : wr.cell? ⟨b, o + k * 4 + 3, none⟩ = _ := (hc _ _ q3)
      have HKk := Lib.hid ((HK.out l[k] (List.getElem_mem hlt)).keep HT.out.1.2.1)
      have HKk0 := Lib.hid (HK.out l[k] (List.getElem_mem hlt))
      have hBk := HB.out l[k] (List.getElem_mem hlt)
      clear hc q0 q1 q2 q3
      generalize l[k] = op at d0 d1 d2 d3 HKk HKk0 hBk
      by_cases hs1 : (80 : Int) < (op.s.length : Int)
      · go_wp2
        go_ret
        exact ⟨rfl, HT.out.1.2.1.alloc _⟩
      by_cases hs2 : (40 : Int) < (op.ks.length : Int)
      · go_wp2
        go_ret
        exact ⟨rfl, HT.out.1.2.1.alloc _⟩
      go_upto_block 2 with (fail)
      have hT0 := HT.out.quiet ((Keeps.refl _ wr).alloc (.cells #[.int .i64 op.what, .int .i64 op.at_, .string (bs op.s), .slice op.kA op.ks.length op.kc] 57))
      have hB0 : Blk (wr.alloc (.cells #[.int .i64 op.what, .int .i64 op.at_, .string (bs op.s), .slice op.kA op.ks.length op.kc] 57)) wr.heap.size _ _ := Blk.new _ _ _
      have hK0 := HKk.out.keep ((Keeps.refl _ wr).alloc (.cells #[.int .i64 op.what, .int .i64 op.at_, .string (bs op.s), .slice op.kA op.ks.length op.kc] 57))
      have hN0 : wr.heap.size ∉ L ++ L' := fun hm => by
        rcases List.mem_append.1 hm with h | h
        · exact Nat.lt_irrefl _ (HT.out.1.1.lt _ h)
        · exact Nat.lt_irrefl _ (HT.out.2.1.lt _ h)
      clear HKk HT d0 d1 d2 d3 hb
      generalize wr.alloc (.cells #[.int .i64 op.what, .int .i64 op.at_, .string (bs op.s), .slice op.kA op.ks.length op.kc] 57) = W0 at hT0 hB0 hK0 ⊢
      generalize wr.heap.size = bx at hB0 hN0 ⊢
      have x0 : W0.cell? ⟨bx, 0, none⟩ = some (.int .i64 op.what) := (hB0.cell 0).trans rfl
      have x1 : W0.cell? ⟨bx, 1, none⟩ = some (.int .i64 op.at_) := (hB0.cell 1).trans rfl
      have x2 : W0.cell? ⟨bx, 2, none⟩ = some (.string (bs op.s)) := (hB0.cell 2).trans rfl
      have x3 : W0.cell? ⟨bx, 3, none⟩ = some (.slice op.kA op.ks.length op.kc) := (hB0.cell 3).trans rfl
      have xl := hB0.lt
      have HT0 := Lib.hid hT0
      have HK0 := Lib.hid hK0
      have HN0 := Lib.hid hN0
      clear hT0 hK0 hB0 hN0
      go_cut [] (fun wx => ∃ L1 L1', Two w wx L1 L1' g g' (D.step op) (D.step op).full ∧ wx.cell? ⟨bx, 1, none⟩ = some (.int .i64 op.at_))
      case first =>
        rcases step_cases D op with ⟨hw0, hs⟩ | ⟨hw0, hs⟩ | ⟨hw0, hs⟩ | ⟨hw0, hs⟩ | ⟨hw0, hw1, hw2, hw3, hs⟩
        · have z0 : (op.what == 0) = true := by rw [hw0]; rfl
          have HS := Lib.hid hs
          clear hw0 hs
          go_wp2
          have HTd := Lib.hid (HT0.out.quiet ((Keeps.refl [] W0).drew))
          have hwl : D.wait.length ≤ 4294967296 := by omega
          go_region_held3 (fun w' => w'.cell? ⟨bx, 1, none⟩ = some (.int .i64 op.at_) ∧ w'.cell? ⟨bx, 2, none⟩ = some (.string (bs op.s))) (first | exact ⟨((T5.trans T6).quiet k7).1.cell_of (p := ⟨bx, 1, none⟩) x1 HN0.out, ((T5.trans T6).quiet k7).1.cell_of (p := ⟨bx, 2, none⟩) x2 HN0.out⟩ | exact ⟨(T5.trans T6).1.cell_of (p := ⟨bx, 1, none⟩) x1 HN0.out, (T5.trans T6).1.cell_of (p := ⟨bx, 2, none⟩) x2 HN0.out⟩ | exact ⟨T5.1.cell_of (p := ⟨bx, 1, none⟩) x1 HN0.out, T5.1.cell_of (p := ⟨bx, 2, none⟩) x2 HN0.out⟩ | go_keep) (first | (go_at_call 13; refine (two_write_d HTd.out op.at_ op.s hwl).mono ?_; rintro e W5 ⟨rfl, L5, hT5, T5⟩) | (go_at_call 35; refine (two_write_r hT5 op.at_ op.s hwl).mono ?_; rintro e W6 ⟨rfl, L6, hT6, T6⟩) | (go_at_call 34; refine (bare_same _ _ (HE.out.keep hT6.1.2.1 (by simp))).mono ?_; rintro e W7 ⟨rfl, k7⟩))
          all_goals go_wp2
          all_goals go_meet
          all_goals exact ⟨L5, L6, by rw [HS.out]; exact hT6.quiet k7, ((T5.trans T6).quiet k7).1.cell_of (p := ⟨bx, 1, none⟩) x1 HN0.out⟩
        · have z0 : (op.what == 0) = false := by rw [hw0]; rfl
          have z1 : (op.what == 1) = true := by rw [hw0]; rfl
          have HS := Lib.hid hs
          clear hw0 hs
          go_wp2_with fail
          refine (two_sync_d HT0.out (by omega)).mono ?_
          rintro e W5 ⟨rfl, hT5, T5⟩
          go_wp2_with fail
          refine (two_sync_r hT5 HO.out (by omega)).mono ?_
          rintro e W6 ⟨rfl, hT6, T6⟩
          have hE6 : ErrTy W6 := HE.out.keep hT6.1.2.1 (by simp)
          go_wp2_with fail
          refine (bare_same _ _ hE6).mono ?_
          rintro e W7 ⟨rfl, k7⟩
          go_wp2
          go_meet
          exact ⟨L, L', by rw [HS.out]; exact hT6.quiet k7, ((T5.trans T6).quiet k7).1.cell_of (p := ⟨bx, 1, none⟩) x1 HN0.out⟩
        · have z0 : (op.what == 0) = false := by rw [hw0]; rfl
          have z1 : (op.what == 1) = false := by rw [hw0]; rfl
          have z2 : (op.what == 2) = true := by rw [hw0]; rfl
          have HS := Lib.hid hs
          clear hw0 hs
          go_wp2_with fail
          refine (two_fuse_d HT0.out op.at_ hBk).mono ?_
          rintro e W5 ⟨rfl, hT5, T5⟩
          have y1 := T5.1.cell_of (p := ⟨bx, 1, none⟩) x1 HN0.out
          go_wp2_with fail
          refine (two_fuse_r hT5 op.at_ hBk).mono ?_
          rintro e W6 ⟨rfl, hT6, T6⟩
          go_wp2
          go_meet
          exact ⟨L, L', by rw [HS.out]; exact hT6, (T5.trans T6).1.cell_of (p := ⟨bx, 1, none⟩) x1 HN0.out⟩
        · have z0 : (op.what == 0) = false := by rw [hw0]; rfl
          have z1 : (op.what == 1) = false := by rw [hw0]; rfl
          have z2 : (op.what == 2) = false := by rw [hw0]; rfl
          have z3 : (op.what == 3) = true := by rw [hw0]; rfl
          have HS := Lib.hid hs
          clear hw0 hs
          have hKL : Rd W0 (L ++ L') 1 op.kA op.ks.length (bools op.ks) := by
            refine ⟨HK0.out.1, fun hn => ?_⟩
            obtain ⟨ad, e1, e2, e3, e4⟩ := HKk0.out.2 hn
            refine ⟨ad, e1, fun hm => ?_, Nat.lt_of_lt_of_le e3 HT0.out.1.2.1.size, fun j u hu => HT0.out.1.2.1.cell_of (e4 j u hu) (by simp)⟩
            rcases List.mem_append.1 hm with h | h
            · have := HT0.out.1.2.2 _ h; omega
            · have := HT0.out.2.2.1 _ h; omega
          have HKL := Lib.hid hKL
          clear hKL
          go_wp2_with fail
          refine (two_crash_d HT0.out (by omega) _ _ _ op.ks rfl HKL.out (by omega)).mono ?_
          rintro e W5 ⟨rfl, hT5, T5⟩
          have y3 := T5.1.cell_of (p := ⟨bx, 3, none⟩) x3 HN0.out
          go_wp2_with fail
          refine (two_crash_r hT5 HO.out (by omega) _ _ _ op.ks rfl (HKL.out.keep T5.1)).mono ?_
          rintro e W6 ⟨rfl, hT6, T6⟩
          go_wp2
          go_meet
          exact ⟨L, L', by rw [HS.out]; exact hT6, (T5.trans T6).1.cell_of (p := ⟨bx, 1, none⟩) x1 HN0.out⟩
        · have z0 : (op.what == 0) = false := by rw [beq_eq_false_iff_ne]; exact hw0
          have z1 : (op.what == 1) = false := by rw [beq_eq_false_iff_ne]; exact hw1
          have z2 : (op.what == 2) = false := by rw [beq_eq_false_iff_ne]; exact hw2
          have z3 : (op.what == 3) = false := by rw [beq_eq_false_iff_ne]; exact hw3
          have HS := Lib.hid hs
          clear hw0 hw1 hw2 hw3 hs
          go_wp2
          go_meet
          exact ⟨L, L', by rw [HS.out]; exact HT0.out, x1⟩
      case rest =>
        obtain ⟨M1, M2, hT1, y1⟩ := hcut
        have hT1o := step_ok D op HO.out
        have hT1w := step_wait D op
        have hT1s : (D.step op).sure.length = n := (step_sure D op).trans HN.out
        generalize D.step op = D1 at hT1 hT1o hT1w hT1s
        obtain ⟨A0, c0, A1, c1, A2, c2, f0, -, -, -, -⟩ := hT1.2.1.fields
        rw [full_length, hT1s] at f0
        have HT1 := Lib.hid hT1
        have HO1 := Lib.hid hT1o
        have HS1 := Lib.hid hT1s
        have hwl : D1.wait.length ≤ 4294967296 := by omega
        have hwr : IntKind.i64.wrap ((n : Int) - 1) = (n : Int) - 1 := IntWalk.i64_in _ (by omega)
        clear hT1 hT1o hT1s HT0 HK0 HO HN x0 x1 x2 x3 HKk0
        go_wp2
        go_region
        go_wp2
        have hT2 := HT1.out.quiet (((Keeps.refl [] wc).alloc (.cells #[.int .i64 op.at_, .int .i64 0, .int .i64 1, .int .i64 7, .int .i64 ((n : Int) - 1), .int .i64 (n : Int), .int .i64 (-1)] 3)).drew)
        have hc7 : ∀ j, j < 7 → (wc.alloc (.cells #[.int .i64 op.at_, .int .i64 0, .int .i64 1, .int .i64 7, .int .i64 ((n : Int) - 1), .int .i64 (n : Int), .int .i64 (-1)] 3)).drew.cell? ⟨wc.heap.size, j, none⟩ = some (.int .i64 ((seven op.at_ n).getD j 0)) := seven_cells op.at_ n wc 3
        have HT2 := Lib.hid hT2
        have HC7 := Lib.hid hc7
        clear hT2 hc7 HT1 f0 y1
        generalize (wc.alloc (.cells #[.int .i64 op.at_, .int .i64 0, .int .i64 1, .int .i64 7, .int .i64 ((n : Int) - 1), .int .i64 (n : Int), .int .i64 (-1)] 3)).drew = W5 at HT2 HC7 ⊢
        generalize wc.heap.size = lb at HC7 ⊢
        go_loopw [126] (fun i wr2 => ∃ j : Nat, j ≤ 7 ∧ i = .int .i64 j ∧ Keeps [] W5 wr2) (fun i _ => 7 - (intOf i).toNat)
        case atStart => exact ⟨0, by omega, rfl, Keeps.refl _ _⟩
        case round =>
          obtain ⟨j, hj, rfl, k5⟩ := hrel
          by_cases hj7 : j < 7
          · have e7 := k5.cell_of (p := ⟨lb, j, none⟩) (HC7.out j hj7) (by simp)
            have HT5 := Lib.hid (HT2.out.quiet k5)
            have HK5 := Lib.hid k5
            clear k5
            generalize (seven op.at_ n).getD j 0 = a at e7
            go_wp2_with fail
            refine (two_read_r HT5.out a hwl).mono ?_
            rintro e W6 ⟨rfl, rfl⟩
            go_wp2_with fail
            refine (two_read_d HT5.out a hwl).mono ?_
            rintro e W7 ⟨rfl, k7⟩
            have hE7 : ErrTy W7 := HE.out.keep (HT5.out.1.2.1.trans k7) (by simp)
            have HK7 := Lib.hid (HK5.out.trans k7)
            clear k7
            go_wp2_with fail
            refine (bare_same _ _ hE7).mono ?_
            rintro e W8 ⟨rfl, k8⟩
            have HK8 := Lib.hid (HK7.out.trans k8)
            have hbb : (bs (D1.read a).2 == bs (D1.read a).2) = true := bytes_self _
            clear k8 hE7
            go_wp2
            go_roundw
            case rel => exact ⟨j + 1, by omega, by go_num, HK8.out⟩
            case measure => simp [intOf]; omega
          · go_wp2
            go_roundw
            case rel => exact ⟨k + 1, by omega, by go_num, D1, M1, M2, HT2.out.quiet k5, HO1.out, by omega, HS1.out⟩
            case measure => simp [intOf]; omega
    · have hkl : k = l.length := by omega
      obtain ⟨A0, c0, A1, c1, A2, c2, f0, f1, -, -, -⟩ := HT.out.2.1.fields
      rw [full_length, HN.out] at f0
      have hgl : g' < wr.heap.size := World.block_lt_of_cell? wr ⟨g', 0, none⟩ f0
      have HS := Lib.hid (size_any (HT.out.1.1.keep ((Keeps.refl [] wr).drew) (by simp)) n HN.out)
      go_wp2
      go_region_held3 (fun w' => w'.cell? ⟨g', 0, none⟩ = some (.slice A0 n c0) ∧ w'.cell? ⟨g', 1, none⟩ = some (.slice A1 D.full.wait.length c1)) (first | exact ⟨f0, f1⟩ | go_keep) (first | (go_at_call 40; refine HS.out.mono ?_; rintro e W6 ⟨rfl, rfl⟩))
      all_goals go_wp2
      all_goals go_ret
      all_goals exact ⟨rfl, HT.out.1.2.1.trans ((Keeps.refl [] wr).drew)⟩
end Go.Proofs.YtjoolemhcpcnoaaDoor
