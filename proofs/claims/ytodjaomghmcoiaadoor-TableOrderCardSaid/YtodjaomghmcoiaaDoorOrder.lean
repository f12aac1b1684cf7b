/- TableOrder: the plain law, and the walk. -/
import Derived.Test.YtodjaomghmcoiaaDoorWritten
import Derived.Test.YtodjaomghmcoiaaDoorNeq
import Derived.Test.YtodjaomghmcoiaaDoorQuiet
namespace Go.Proofs.YtodjaomghmcoiaaDoor
open Go.RowKit Go.BigFrame
attribute [local go_sem] KW.cell
attribute [local go_sem] bs_size bs_extract bs_append bs_toList
attribute [local go_sem ↓] Go.wp_at_zero Go.wp_at_succ
/-! ### The plain law -/
theorem bl : ∀ a b : Bs, Op.bytesLess a b = decide (a < b)
  | [], [] => by simp [Op.bytesLess]
  | _ :: _, [] => by simp [Op.bytesLess]
  | [], _ :: _ => by simp [Op.bytesLess]
  | x :: a, y :: b => by
    have ih := bl a b
    unfold Op.bytesLess
    rw [ih, Bool.eq_iff_iff]
    simp [List.cons_lt_cons_iff]
theorem less_irrefl (a : Vl) : lessB a a = false := by
  unfold lessB
  rw [if_pos rfl]
  split
  · simp
  · rw [bl]; exact decide_eq_false (List.lt_irrefl a.word)
theorem rv_kind {a : Vl} (h : rvB a = true) : a.kind = 1 ∧ a.word = [] ∨ a.kind = 2 ∧ a.num = 0 := by
  by_cases h1 : a.kind = 1
  · exact .inl ⟨h1, (rvB_int h h1).1⟩
  · exact .inr ⟨(rvB_text h h1).1, (rvB_text h h1).2.1⟩
theorem less_one {a b : Vl} (ha : rvB a = true) (hb : rvB b = true) (hne : a ≠ b) : (lessB a b = true ∧ lessB b a = false) ∨ (lessB a b = false ∧ lessB b a = true) := by
  obtain ⟨k, n, s⟩ := a
  obtain ⟨k2, n2, s2⟩ := b
  have h1 := rv_kind ha
  have h2 := rv_kind hb
  clear ha hb
  unfold lessB
  simp only at h1 h2 ⊢
  rcases h1 with ⟨rfl, rfl⟩ | ⟨rfl, rfl⟩ <;> rcases h2 with ⟨rfl, rfl⟩ | ⟨rfl, rfl⟩
  · have hn : n ≠ n2 := fun e => hne (by rw [e])
    simp
    omega
  · simp
  · simp
  · have hs : s ≠ s2 := fun e => hne (by rw [e])
    simp only [if_true, if_neg (show ¬ ((2 : Int) = 1) by decide), bl]
    by_cases h : s < s2
    · exact .inl ⟨decide_eq_true h, decide_eq_false (List.lt_asymm h)⟩
    · refine .inr ⟨decide_eq_false h, decide_eq_true ?_⟩
      refine Classical.byContradiction fun h2 => hs (List.le_antisymm (List.not_lt.1 h2) (List.not_lt.1 h))
theorem less_trans {a b c : Vl} (ha : rvB a = true) (hb : rvB b = true) (hc : rvB c = true) (h1 : lessB a b = true) (h2 : lessB b c = true) : lessB a c = true := by
  obtain ⟨k, n, s⟩ := a
  obtain ⟨k2, n2, s2⟩ := b
  obtain ⟨k3, n3, s3⟩ := c
  have e1 := rv_kind ha
  have e2 := rv_kind hb
  have e3 := rv_kind hc
  clear ha hb hc
  unfold lessB at h1 h2 ⊢
  simp only at e1 e2 e3 h1 h2 ⊢
  rcases e1 with ⟨rfl, rfl⟩ | ⟨rfl, rfl⟩ <;> rcases e2 with ⟨rfl, rfl⟩ | ⟨rfl, rfl⟩ <;> rcases e3 with ⟨rfl, rfl⟩ | ⟨rfl, rfl⟩ <;> simp only [if_true, if_neg (show ¬ ((2 : Int) = 1) by decide), if_neg (show ¬ ((1 : Int) = 2) by decide), bl, decide_eq_true_eq] at h1 h2 ⊢ <;> first | omega | exact List.lt_trans h1 h2
theorem value_inj {a b : Vl} (ha : rvB a = true) (hb : rvB b = true) : (valueL a == valueL b) = decide (a = b) := by
  rw [Bool.eq_iff_iff, beq_iff_eq, decide_eq_true_iff]
  constructor
  · intro h
    have h1 := pvL_value ha
    rw [h, pvL_value hb] at h1
    exact (Option.some.inj h1).symm
  · intro h; rw [h]
theorem vEql (k n : Int) (s : Bs) (k2 n2 : Int) (s2 : Bs) (W : World) : (binOp .eql 23 (.agg #[.int .i64 k, .int .i64 n, .string (bs s)]) (.agg #[.int .i64 k2, .int .i64 n2, .string (bs s2)])).run Tryd.prog W = .ok (.bool (decide ((⟨k, n, s⟩ : Vl) = ⟨k2, n2, s2⟩))) W := by
  have hd : decide ((⟨k, n, s⟩ : Vl) = ⟨k2, n2, s2⟩) = (decide (k = k2) && decide (n = n2) && decide (s = s2)) := by
    rw [Bool.eq_iff_iff]
    simp [and_assoc]
  rw [hd]
  simp [go_sem]
  by_cases h1 : k = k2 <;> by_cases h2 : n = n2 <;> by_cases h3 : s = s2 <;> simp [h1, h2, h3, go_sem]
/-- Three values in three boxes. -/
def Three (w : World) (b : Nat) (k n : Int) (s : Bs) (k2 n2 : Int) (s2 : Bs) (k3 n3 : Int) (s3 : Bs) : Prop :=
  w.cell? ⟨b, 0, none⟩ = some (.int .i64 k) ∧ w.cell? ⟨b, 1, none⟩ = some (.int .i64 n) ∧ w.cell? ⟨b, 2, none⟩ = some (.string (bs s)) ∧
  w.cell? ⟨b + 1, 0, none⟩ = some (.int .i64 k2) ∧ w.cell? ⟨b + 1, 1, none⟩ = some (.int .i64 n2) ∧ w.cell? ⟨b + 1, 2, none⟩ = some (.string (bs s2)) ∧
  w.cell? ⟨b + 1 + 1, 0, none⟩ = some (.int .i64 k3) ∧ w.cell? ⟨b + 1 + 1, 1, none⟩ = some (.int .i64 n3) ∧ w.cell? ⟨b + 1 + 1, 2, none⟩ = some (.string (bs s3))
theorem Three.keep {w w' : World} {b : Nat} {k n : Int} {s : Bs} {k2 n2 : Int} {s2 : Bs} {k3 n3 : Int} {s3 : Bs} (h : Three w b k n s k2 n2 s2 k3 n3 s3) (hk : Keeps [] w w') : Three w' b k n s k2 n2 s2 k3 n3 s3 := by
  obtain ⟨h0, h1, h2, h3, h4, h5, h6, h7, h8⟩ := h
  exact ⟨hk.cell_of h0 (by simp), hk.cell_of h1 (by simp), hk.cell_of h2 (by simp), hk.cell_of h3 (by simp), hk.cell_of h4 (by simp), hk.cell_of h5 (by simp), hk.cell_of h6 (by simp), hk.cell_of h7 (by simp), hk.cell_of h8 (by simp)⟩
theorem three_new (w : World) (k n : Int) (s : Bs) (k2 n2 : Int) (s2 : Bs) (k3 n3 : Int) (s3 : Bs) : Three (((w.alloc (.cells #[.int .i64 k, .int .i64 n, .string (bs s)] 23)).alloc (.cells #[.int .i64 k2, .int .i64 n2, .string (bs s2)] 23)).alloc (.cells #[.int .i64 k3, .int .i64 n3, .string (bs s3)] 23)) w.heap.size k n s k2 n2 s2 k3 n3 s3 := by
  unfold Three
  refine ⟨?_, ?_, ?_, ?_, ?_, ?_, ?_, ?_, ?_⟩ <;> go_simp
set_option maxRecDepth 100000 in
set_option maxHeartbeats 8000000 in
theorem order_all (a b c : Vl) (ha : numOk a.num ∧ a.word.length ≤ maxLen) (hb : numOk b.num ∧ b.word.length ≤ maxLen) (hc : numOk c.num ∧ c.word.length ≤ maxLen) (w : World) (hE : TEnv w) :
    Calls Tryd.prog 3 #[vAgg a, vAgg b, vAgg c] w fun e w' => e = .returned (.bool true) ∧ Keeps [] w w' := by
  have HA := Lib.hid ha
  have HB := Lib.hid hb
  have HC := Lib.hid hc
  have HW := Lib.hid (fun W (q : Keeps [] w W) => written_any W (hE.quiet q))
  have HE := Lib.hid hE
  have HRA := Lib.hid (fun W => rightValue_any a W)
  have HRB := Lib.hid (fun W => rightValue_any b W)
  have HRC := Lib.hid (fun W => rightValue_any c W)
  have HLAB := Lib.hid (fun W => less_any a b W)
  have HLBA := Lib.hid (fun W => less_any b a W)
  have HLBC := Lib.hid (fun W => less_any b c W)
  have HLAC := Lib.hid (fun W => less_any a c W)
  have HVA := Lib.hid (fun W (h : a.word.length ≤ 1000000000) (q : TEnv W) => value_any a ha.1 h W q)
  have HVB := Lib.hid (fun W (h : b.word.length ≤ 1000000000) (q : TEnv W) => value_any b hb.1 h W q)
  clear ha hb hc hE
  obtain ⟨k, n, s⟩ := a
  obtain ⟨k2, n2, s2⟩ := b
  obtain ⟨k3, n3, s3⟩ := c
  show Calls _ _ #[.agg #[.int .i64 k, .int .i64 n, .string (bs s)], .agg #[.int .i64 k2, .int .i64 n2, .string (bs s2)], .agg #[.int .i64 k3, .int .i64 n3, .string (bs s3)]] w _
  go_enter Tryd.func3, Tryd.ntmps3
  go_wp2_with fail
  refine (HW.out _ ((((Keeps.refl _ _).alloc _).alloc _).alloc _)).mono ?_
  rintro e w2 ⟨rfl, hk2⟩
  have HK := Lib.hid (((((Keeps.refl [] w).alloc (.cells #[.int .i64 k, .int .i64 n, .string (bs s)] 23)).alloc (.cells #[.int .i64 k2, .int .i64 n2, .string (bs s2)] 23)).alloc (.cells #[.int .i64 k3, .int .i64 n3, .string (bs s3)] 23)).trans hk2)
  have hT : Three w2 w.heap.size k n s k2 n2 s2 k3 n3 s3 := (three_new w k n s k2 n2 s2 k3 n3 s3).keep hk2
  obtain ⟨bx, hbx⟩ : ∃ bx, w.heap.size = bx := ⟨_, rfl⟩
  rw [hbx] at hT ⊢
  have HT := Lib.hid hT
  clear hk2 hbx
  obtain ⟨c0, c1, c2, c3, c4, c5, c6, c7, c8⟩ := hT
  cases hra : rvB ⟨k, n, s⟩ with
  | false =>
    rw [hra] at HRA
    go_wp2_with fail
    refine (HRA.out _).mono ?_
    rintro e w3 ⟨rfl, hk3⟩
    go_wp2
    go_ret
    exact ⟨rfl, HK.out.trans hk3⟩
  | true =>
    rw [hra] at HRA
    go_wp2_with fail
    refine (HRA.out _).mono ?_
    rintro e w3 ⟨rfl, hk3⟩
    have HT3 := Lib.hid (HT.out.keep hk3)
    have HK3 := Lib.hid (HK.out.trans hk3)
    have hT3 := HT3.out
    clear c0 c1 c2 c3 c4 c5 c6 c7 c8 hk3
    obtain ⟨c0, c1, c2, c3, c4, c5, c6, c7, c8⟩ := hT3
    cases hrb : rvB ⟨k2, n2, s2⟩ with
    | false =>
      rw [hrb] at HRB
      go_wp2_with fail
      refine (HRB.out _).mono ?_
      rintro e w4 ⟨rfl, hk4⟩
      go_wp2
      go_ret
      exact ⟨rfl, HK3.out.trans hk4⟩
    | true =>
      rw [hrb] at HRB
      go_wp2_with fail
      refine (HRB.out _).mono ?_
      rintro e w4 ⟨rfl, hk4⟩
      have HT4 := Lib.hid (HT3.out.keep hk4)
      have HK4 := Lib.hid (HK3.out.trans hk4)
      have hT4 := HT4.out
      clear c0 c1 c2 c3 c4 c5 c6 c7 c8 hk4
      obtain ⟨c0, c1, c2, c3, c4, c5, c6, c7, c8⟩ := hT4
      cases hrc : rvB ⟨k3, n3, s3⟩ with
      | false =>
        rw [hrc] at HRC
        go_wp2_with fail
        refine (HRC.out _).mono ?_
        rintro e w5 ⟨rfl, hk5⟩
        go_wp2
        go_ret
        exact ⟨rfl, HK4.out.trans hk5⟩
      | true =>
        rw [hrc] at HRC
        go_wp2_with fail
        refine (HRC.out _).mono ?_
        rintro e w5 ⟨rfl, hk5⟩
        have HT5 := Lib.hid (HT4.out.keep hk5)
        have HK5 := Lib.hid (HK4.out.trans hk5)
        have HLT := Lib.hid (less_trans hra hrb hrc)
        have HL1 := Lib.hid (less_one hra hrb)
        have HVI := Lib.hid (value_inj hra hrb)
        have HSA := Lib.hid (rv_len hra).2.2
        have HSB := Lib.hid (rv_len hrb).2.2
        clear hra hrb hrc c0 c1 c2 c3 c4 c5 c6 c7 c8 hk5 HT HT3 HT4 HK HK3 HK4 HRA HRB HRC HW HA HB HC
        obtain ⟨c0, c1, c2, c3, c4, c5, c6, c7, c8⟩ := HT5.out
        have hz2 : bx + 1 + 1 < w5.heap.size := World.block_lt_of_cell? _ _ c6
        have hz1 : bx + 1 < w5.heap.size := by omega
        have hz0 : bx < w5.heap.size := by omega
        have KVA : Hid (∀ W, Keeps [] w5 W → Calls Tryd.prog 7 #[.agg #[.int .i64 k, .int .i64 n, .string (bs s)]] W fun e W' => e = .returned (.string (bs (valueL ⟨k, n, s⟩))) ∧ Keeps [] W W') := Lib.hid fun W q => HVA.out W (Nat.le_trans HSA.out (by decide)) (HE.out.quiet (HK5.out.trans q))
        have KVB : Hid (∀ W, Keeps [] w5 W → Calls Tryd.prog 7 #[.agg #[.int .i64 k2, .int .i64 n2, .string (bs s2)]] W fun e W' => e = .returned (.string (bs (valueL ⟨k2, n2, s2⟩))) ∧ Keeps [] W W') := Lib.hid fun W q => HVB.out W (Nat.le_trans HSB.out (by decide)) (HE.out.quiet (HK5.out.trans q))
        clear HVA HVB HE HSA HSB HT5
        obtain ⟨va, hva⟩ : ∃ va, valueL ⟨k, n, s⟩ = va := ⟨_, rfl⟩
        obtain ⟨vb, hvb⟩ : ∃ vb, valueL ⟨k2, n2, s2⟩ = vb := ⟨_, rfl⟩
        rw [hva] at KVA HVI
        rw [hvb] at KVB HVI
        by_cases hab : (⟨k, n, s⟩ : Vl) = ⟨k2, n2, s2⟩
        · have hm : lessB ⟨k, n, s⟩ ⟨k2, n2, s2⟩ = false := by rw [hab]; exact less_irrefl _
          have hn : lessB ⟨k2, n2, s2⟩ ⟨k, n, s⟩ = false := by rw [hab]; exact less_irrefl _
          have KAB : Hid (∀ W, Keeps [] w5 W → Calls Tryd.prog 6 #[.agg #[.int .i64 k, .int .i64 n, .string (bs s)], .agg #[.int .i64 k2, .int .i64 n2, .string (bs s2)]] W fun e W' => e = .returned (.bool false) ∧ Keeps [] W W') := Lib.hid fun W _ => hm ▸ HLAB.out W
          have KBA : Hid (∀ W, Keeps [] w5 W → Calls Tryd.prog 6 #[.agg #[.int .i64 k2, .int .i64 n2, .string (bs s2)], .agg #[.int .i64 k, .int .i64 n, .string (bs s)]] W fun e W' => e = .returned (.bool false) ∧ Keeps [] W W') := Lib.hid fun W _ => hn ▸ HLBA.out W
          have hq1 : ∀ W, (binOp .neq 23 (.agg #[.int .i64 k, .int .i64 n, .string (bs s)]) (.agg #[.int .i64 k2, .int .i64 n2, .string (bs s2)])).run Tryd.prog W = .ok (.bool false) W := fun W => by
            rw [vNeq ⟨k, n, s⟩ ⟨k2, n2, s2⟩ W, decide_eq_true hab]
            rfl
          have hq2 : ∀ W, (binOp .eql 23 (.agg #[.int .i64 k, .int .i64 n, .string (bs s)]) (.agg #[.int .i64 k2, .int .i64 n2, .string (bs s2)])).run Tryd.prog W = .ok (.bool true) W := fun W => by rw [vEql, decide_eq_true hab]
          have hvv : (va == vb) = true := by rw [HVI.out, decide_eq_true hab]
          clear HLAB HLBA HLBC HLAC hab HL1 HLT HVI hva hvb hm hn
          go_wp2_with fail
          refine wp_region_keeps (by kernel_rfl) (by kernel_rfl) ?_
          repeat (go_big_quiet_step (first | with_reducible exact KW.of KAB.out _ | with_reducible exact KW.of KBA.out _ | with_reducible exact KW.of KVA.out _ | with_reducible exact KW.of KVB.out _))
          refine wpQuiet_nil ?_
          intro wx kx
          have hx0 : bx < wx.heap.size := Nat.lt_of_lt_of_le hz0 kx.size
          have hx1 : bx + 1 < wx.heap.size := Nat.lt_of_lt_of_le hz1 kx.size
          have hx2 : bx + 1 + 1 < wx.heap.size := Nat.lt_of_lt_of_le hz2 kx.size
          replace c0 := kx.cell_of c0 (by simp)
          replace c1 := kx.cell_of c1 (by simp)
          replace c2 := kx.cell_of c2 (by simp)
          replace c3 := kx.cell_of c3 (by simp)
          replace c4 := kx.cell_of c4 (by simp)
          replace c5 := kx.cell_of c5 (by simp)
          replace c6 := kx.cell_of c6 (by simp)
          replace c7 := kx.cell_of c7 (by simp)
          replace c8 := kx.cell_of c8 (by simp)
          replace KAB := Lib.hid fun W (q : Keeps [] wx W) => KAB.out W (kx.trans q)
          replace KBA := Lib.hid fun W (q : Keeps [] wx W) => KBA.out W (kx.trans q)
          replace KVA := Lib.hid fun W (q : Keeps [] wx W) => KVA.out W (kx.trans q)
          replace KVB := Lib.hid fun W (q : Keeps [] wx W) => KVB.out W (kx.trans q)
          go_wp2_with fail
          refine wp_region_keeps (by kernel_rfl) (by kernel_rfl) ?_
          repeat (go_big_quiet_step (first | with_reducible exact KW.of KAB.out _ | with_reducible exact KW.of KBA.out _ | with_reducible exact KW.of KVA.out _ | with_reducible exact KW.of KVB.out _))
          refine wpQuiet_nil ?_
          intro wy ky
          go_wp2
          go_ret
          exact ⟨rfl, (HK5.out.trans kx).trans ky⟩
        · rcases HL1.out hab with ⟨hm, hn⟩ | ⟨hm, hn⟩
          · cases hbc : lessB ⟨k2, n2, s2⟩ ⟨k3, n3, s3⟩ with
            | false =>
              have KAB : Hid (∀ W, Keeps [] w5 W → Calls Tryd.prog 6 #[.agg #[.int .i64 k, .int .i64 n, .string (bs s)], .agg #[.int .i64 k2, .int .i64 n2, .string (bs s2)]] W fun e W' => e = .returned (.bool true) ∧ Keeps [] W W') := Lib.hid fun W _ => hm ▸ HLAB.out W
              have KBA : Hid (∀ W, Keeps [] w5 W → Calls Tryd.prog 6 #[.agg #[.int .i64 k2, .int .i64 n2, .string (bs s2)], .agg #[.int .i64 k, .int .i64 n, .string (bs s)]] W fun e W' => e = .returned (.bool false) ∧ Keeps [] W W') := Lib.hid fun W _ => hn ▸ HLBA.out W
              have KBC : Hid (∀ W, Keeps [] w5 W → Calls Tryd.prog 6 #[.agg #[.int .i64 k2, .int .i64 n2, .string (bs s2)], .agg #[.int .i64 k3, .int .i64 n3, .string (bs s3)]] W fun e W' => e = .returned (.bool false) ∧ Keeps [] W W') := Lib.hid fun W _ => hbc ▸ HLBC.out W
              have hq1 : ∀ W, (binOp .neq 23 (.agg #[.int .i64 k, .int .i64 n, .string (bs s)]) (.agg #[.int .i64 k2, .int .i64 n2, .string (bs s2)])).run Tryd.prog W = .ok (.bool true) W := fun W => by
                rw [vNeq ⟨k, n, s⟩ ⟨k2, n2, s2⟩ W, decide_eq_false hab]
                rfl
              have hq2 : ∀ W, (binOp .eql 23 (.agg #[.int .i64 k, .int .i64 n, .string (bs s)]) (.agg #[.int .i64 k2, .int .i64 n2, .string (bs s2)])).run Tryd.prog W = .ok (.bool false) W := fun W => by rw [vEql, decide_eq_false hab]
              have hvv : (va == vb) = false := by rw [HVI.out, decide_eq_false hab]
              clear HLAB HLBA HLBC HLAC hab HL1 HLT HVI hva hvb hm hn hbc
              go_wp2_with fail
              refine wp_region_keeps (by kernel_rfl) (by kernel_rfl) ?_
              repeat (go_big_quiet_step (first | with_reducible exact KW.of KAB.out _ | with_reducible exact KW.of KBA.out _ | with_reducible exact KW.of KBC.out _ | with_reducible exact KW.of KVA.out _ | with_reducible exact KW.of KVB.out _))
              refine wpQuiet_nil ?_
              intro wx kx
              have hx0 : bx < wx.heap.size := Nat.lt_of_lt_of_le hz0 kx.size
              have hx1 : bx + 1 < wx.heap.size := Nat.lt_of_lt_of_le hz1 kx.size
              have hx2 : bx + 1 + 1 < wx.heap.size := Nat.lt_of_lt_of_le hz2 kx.size
              replace c0 := kx.cell_of c0 (by simp)
              replace c1 := kx.cell_of c1 (by simp)
              replace c2 := kx.cell_of c2 (by simp)
              replace c3 := kx.cell_of c3 (by simp)
              replace c4 := kx.cell_of c4 (by simp)
              replace c5 := kx.cell_of c5 (by simp)
              replace c6 := kx.cell_of c6 (by simp)
              replace c7 := kx.cell_of c7 (by simp)
              replace c8 := kx.cell_of c8 (by simp)
              replace KAB := Lib.hid fun W (q : Keeps [] wx W) => KAB.out W (kx.trans q)
              replace KBA := Lib.hid fun W (q : Keeps [] wx W) => KBA.out W (kx.trans q)
              replace KBC := Lib.hid fun W (q : Keeps [] wx W) => KBC.out W (kx.trans q)
              replace KVA := Lib.hid fun W (q : Keeps [] wx W) => KVA.out W (kx.trans q)
              replace KVB := Lib.hid fun W (q : Keeps [] wx W) => KVB.out W (kx.trans q)
              go_wp2_with fail
              refine wp_region_keeps (by kernel_rfl) (by kernel_rfl) ?_
              repeat (go_big_quiet_step (first | with_reducible exact KW.of KAB.out _ | with_reducible exact KW.of KBA.out _ | with_reducible exact KW.of KBC.out _ | with_reducible exact KW.of KVA.out _ | with_reducible exact KW.of KVB.out _))
              refine wpQuiet_nil ?_
              intro wy ky
              go_wp2
              go_ret
              exact ⟨rfl, (HK5.out.trans kx).trans ky⟩
            | true =>
              have hac := HLT.out hm hbc
              have KAB : Hid (∀ W, Keeps [] w5 W → Calls Tryd.prog 6 #[.agg #[.int .i64 k, .int .i64 n, .string (bs s)], .agg #[.int .i64 k2, .int .i64 n2, .string (bs s2)]] W fun e W' => e = .returned (.bool true) ∧ Keeps [] W W') := Lib.hid fun W _ => hm ▸ HLAB.out W
              have KBA : Hid (∀ W, Keeps [] w5 W → Calls Tryd.prog 6 #[.agg #[.int .i64 k2, .int .i64 n2, .string (bs s2)], .agg #[.int .i64 k, .int .i64 n, .string (bs s)]] W fun e W' => e = .returned (.bool false) ∧ Keeps [] W W') := Lib.hid fun W _ => hn ▸ HLBA.out W
              have KBC : Hid (∀ W, Keeps [] w5 W → Calls Tryd.prog 6 #[.agg #[.int .i64 k2, .int .i64 n2, .string (bs s2)], .agg #[.int .i64 k3, .int .i64 n3, .string (bs s3)]] W fun e W' => e = .returned (.bool true) ∧ Keeps [] W W') := Lib.hid fun W _ => hbc ▸ HLBC.out W
              have KAC : Hid (∀ W, Keeps [] w5 W → Calls Tryd.prog 6 #[.agg #[.int .i64 k, .int .i64 n, .string (bs s)], .agg #[.int .i64 k3, .int .i64 n3, .string (bs s3)]] W fun e W' => e = .returned (.bool true) ∧ Keeps [] W W') := Lib.hid fun W _ => hac ▸ HLAC.out W
              have hq1 : ∀ W, (binOp .neq 23 (.agg #[.int .i64 k, .int .i64 n, .string (bs s)]) (.agg #[.int .i64 k2, .int .i64 n2, .string (bs s2)])).run Tryd.prog W = .ok (.bool true) W := fun W => by
                rw [vNeq ⟨k, n, s⟩ ⟨k2, n2, s2⟩ W, decide_eq_false hab]
                rfl
              have hq2 : ∀ W, (binOp .eql 23 (.agg #[.int .i64 k, .int .i64 n, .string (bs s)]) (.agg #[.int .i64 k2, .int .i64 n2, .string (bs s2)])).run Tryd.prog W = .ok (.bool false) W := fun W => by rw [vEql, decide_eq_false hab]
              have hvv : (va == vb) = false := by rw [HVI.out, decide_eq_false hab]
              clear HLAB HLBA HLBC HLAC hab HL1 HLT HVI hva hvb hm hn hbc hac
              go_wp2_with fail
              refine wp_region_keeps (by kernel_rfl) (by kernel_rfl) ?_
              repeat (go_big_quiet_step (first | with_reducible exact KW.of KAB.out _ | with_reducible exact KW.of KBA.out _ | with_reducible exact KW.of KBC.out _ | with_reducible exact KW.of KAC.out _ | with_reducible exact KW.of KVA.out _ | with_reducible exact KW.of KVB.out _))
              refine wpQuiet_nil ?_
              intro wx kx
              have hx0 : bx < wx.heap.size := Nat.lt_of_lt_of_le hz0 kx.size
              have hx1 : bx + 1 < wx.heap.size := Nat.lt_of_lt_of_le hz1 kx.size
              have hx2 : bx + 1 + 1 < wx.heap.size := Nat.lt_of_lt_of_le hz2 kx.size
              replace c0 := kx.cell_of c0 (by simp)
              replace c1 := kx.cell_of c1 (by simp)
              replace c2 := kx.cell_of c2 (by simp)
              replace c3 := kx.cell_of c3 (by simp)
              replace c4 := kx.cell_of c4 (by simp)
              replace c5 := kx.cell_of c5 (by simp)
              replace c6 := kx.cell_of c6 (by simp)
              replace c7 := kx.cell_of c7 (by simp)
              replace c8 := kx.cell_of c8 (by simp)
              replace KAB := Lib.hid fun W (q : Keeps [] wx W) => KAB.out W (kx.trans q)
              replace KBA := Lib.hid fun W (q : Keeps [] wx W) => KBA.out W (kx.trans q)
              replace KBC := Lib.hid fun W (q : Keeps [] wx W) => KBC.out W (kx.trans q)
              replace KAC := Lib.hid fun W (q : Keeps [] wx W) => KAC.out W (kx.trans q)
              replace KVA := Lib.hid fun W (q : Keeps [] wx W) => KVA.out W (kx.trans q)
              replace KVB := Lib.hid fun W (q : Keeps [] wx W) => KVB.out W (kx.trans q)
              go_wp2_with fail
              refine wp_region_keeps (by kernel_rfl) (by kernel_rfl) ?_
              repeat (go_big_quiet_step (first | with_reducible exact KW.of KAB.out _ | with_reducible exact KW.of KBA.out _ | with_reducible exact KW.of KBC.out _ | with_reducible exact KW.of KAC.out _ | with_reducible exact KW.of KVA.out _ | with_reducible exact KW.of KVB.out _))
              refine wpQuiet_nil ?_
              intro wy ky
              go_wp2
              go_ret
              exact ⟨rfl, (HK5.out.trans kx).trans ky⟩
          · have KAB : Hid (∀ W, Keeps [] w5 W → Calls Tryd.prog 6 #[.agg #[.int .i64 k, .int .i64 n, .string (bs s)], .agg #[.int .i64 k2, .int .i64 n2, .string (bs s2)]] W fun e W' => e = .returned (.bool false) ∧ Keeps [] W W') := Lib.hid fun W _ => hm ▸ HLAB.out W
            have KBA : Hid (∀ W, Keeps [] w5 W → Calls Tryd.prog 6 #[.agg #[.int .i64 k2, .int .i64 n2, .string (bs s2)], .agg #[.int .i64 k, .int .i64 n, .string (bs s)]] W fun e W' => e = .returned (.bool true) ∧ Keeps [] W W') := Lib.hid fun W _ => hn ▸ HLBA.out W
            have hq1 : ∀ W, (binOp .neq 23 (.agg #[.int .i64 k, .int .i64 n, .string (bs s)]) (.agg #[.int .i64 k2, .int .i64 n2, .string (bs s2)])).run Tryd.prog W = .ok (.bool true) W := fun W => by
              rw [vNeq ⟨k, n, s⟩ ⟨k2, n2, s2⟩ W, decide_eq_false hab]
              rfl
            have hq2 : ∀ W, (binOp .eql 23 (.agg #[.int .i64 k, .int .i64 n, .string (bs s)]) (.agg #[.int .i64 k2, .int .i64 n2, .string (bs s2)])).run Tryd.prog W = .ok (.bool false) W := fun W => by rw [vEql, decide_eq_false hab]
            have hvv : (va == vb) = false := by rw [HVI.out, decide_eq_false hab]
            clear HLAB HLBA HLBC HLAC hab HL1 HLT HVI hva hvb hm hn
            go_wp2_with fail
            refine wp_region_keeps (by kernel_rfl) (by kernel_rfl) ?_
            repeat (go_big_quiet_step (first | with_reducible exact KW.of KAB.out _ | with_reducible exact KW.of KBA.out _ | with_reducible exact KW.of KVA.out _ | with_reducible exact KW.of KVB.out _))
            refine wpQuiet_nil ?_
            intro wx kx
            have hx0 : bx < wx.heap.size := Nat.lt_of_lt_of_le hz0 kx.size
            have hx1 : bx + 1 < wx.heap.size := Nat.lt_of_lt_of_le hz1 kx.size
            have hx2 : bx + 1 + 1 < wx.heap.size := Nat.lt_of_lt_of_le hz2 kx.size
            replace c0 := kx.cell_of c0 (by simp)
            replace c1 := kx.cell_of c1 (by simp)
            replace c2 := kx.cell_of c2 (by simp)
            replace c3 := kx.cell_of c3 (by simp)
            replace c4 := kx.cell_of c4 (by simp)
            replace c5 := kx.cell_of c5 (by simp)
            replace c6 := kx.cell_of c6 (by simp)
            replace c7 := kx.cell_of c7 (by simp)
            replace c8 := kx.cell_of c8 (by simp)
            replace KAB := Lib.hid fun W (q : Keeps [] wx W) => KAB.out W (kx.trans q)
            replace KBA := Lib.hid fun W (q : Keeps [] wx W) => KBA.out W (kx.trans q)
            replace KVA := Lib.hid fun W (q : Keeps [] wx W) => KVA.out W (kx.trans q)
            replace KVB := Lib.hid fun W (q : Keeps [] wx W) => KVB.out W (kx.trans q)
            go_wp2_with fail
            refine wp_region_keeps (by kernel_rfl) (by kernel_rfl) ?_
            repeat (go_big_quiet_step (first | with_reducible exact KW.of KAB.out _ | with_reducible exact KW.of KBA.out _ | with_reducible exact KW.of KVA.out _ | with_reducible exact KW.of KVB.out _))
            refine wpQuiet_nil ?_
            intro wy ky
            go_wp2
            go_ret
            exact ⟨rfl, (HK5.out.trans kx).trans ky⟩
end Go.Proofs.YtodjaomghmcoiaaDoor
