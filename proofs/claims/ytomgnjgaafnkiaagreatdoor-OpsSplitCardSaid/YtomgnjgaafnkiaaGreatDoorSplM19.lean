/- The map of opposite marks, as it is laid. OpsSplit: the walk. What tables lean on, out of a row's condition; a world in which it is laid. -/
import Derived.Test.YtomgnjgaafnkiaaGreatDoorSplM18
import Derived.Test.YtomgnjgaafnkiaaGreatDoorSplM14
import Derived.Test.YtomgnjgaafnkiaaGreatDoorProg
import Derived.Test.YtomgnjgaafnkiaaGreatDoorSplM15
import Derived.Test.YtomgnjgaafnkiaaGreatDoorSplM16
import Derived.Test.YtomgnjgaafnkiaaGreatDoorSplM8
import Derived.Test.YtomgnjgaafnkiaaGreatDoorSplM4
import Derived.Test.YtomgnjgaafnkiaaGreatDoorSplM17
import Derived.Test.YtomgnjgaafnkiaaGreatDoorSplM7
import Derived.Test.YtomgnjgaafnkiaaGreatDoorRows
import Derived.Lib.LaidTab
import Derived.LaidLaws
import Derived.LaidSub
import Derived.LaidMore
import Derived.Shelf.Vars
import Derived.HandedShaped
namespace Go.Proofs.YtomgnjgaafnkiaaGreatDoor
open Go.RowKit Go.Maps
def setM (m : Bs → Option Bs) (k v : Bs) : Bs → Option Bs := fun x => if x = k then some v else m x
def oppM : Bs → Option Bs := setM (setM (setM (setM (setM (setM (fun _ => none) [61] [60, 62]) [60, 62] [61]) [60] [62, 61]) [62, 61] [60]) [62] [60, 61]) [60, 61] [62]
theorem oppM_is (op : Bs) : (oppM op).getD [] = oppB op := by
  unfold oppM setM oppB
  by_cases h1 : op = [61]
  · subst h1; rfl
  by_cases h2 : op = [60, 62]
  · subst h2; rfl
  by_cases h3 : op = [60]
  · subst h3; rfl
  by_cases h4 : op = [62, 61]
  · subst h4; rfl
  by_cases h5 : op = [62]
  · subst h5; rfl
  by_cases h6 : op = [60, 61]
  · subst h6; rfl
  simp [h1, h2, h3, h4, h5, h6]
def putRun (w : World) (b : Nat) (k v : Bs) (w' : World) : Prop := (Instr.mapUpdate 50 (.map (some b)) (.string (bs k)) (.string (bs v))).run Tryz.prog w = .ok () w'
theorem opp_laid (w : World) : ∃ w1 w2 w3 w4 w5 w6 : World, putRun (w.alloc (.map #[] 0)) w.heap.size [61] [60, 62] w1 ∧ putRun w1 w.heap.size [60, 62] [61] w2 ∧ putRun w2 w.heap.size [60] [62, 61] w3 ∧ putRun w3 w.heap.size [62, 61] [60] w4 ∧ putRun w4 w.heap.size [62] [60, 61] w5 ∧ putRun w5 w.heap.size [60, 61] [62] w6 ∧ Keeps [] w w6 ∧
    ∀ op : Bs, op.length ≤ maxLen → (Instr.lookup 50 (.map (some w.heap.size)) (.string (bs op)) false).run Tryz.prog w6 = .ok (.string (bs (oppB op))) w6 := by
  have hT := Tryz.underlying50
  have hS := Tryz.underlying9
  have m0 := MapOf.made (P := Tryz.prog) (S := 9) w
  obtain ⟨w1, r1, m1, g1⟩ := m0.store hT hS [61] [60, 62] (by decide) (by decide) (by decide)
  obtain ⟨w2, r2, m2, g2⟩ := m1.store hT hS [60, 62] [61] (by decide) (by decide) (by decide)
  obtain ⟨w3, r3, m3, g3⟩ := m2.store hT hS [60] [62, 61] (by decide) (by decide) (by decide)
  obtain ⟨w4, r4, m4, g4⟩ := m3.store hT hS [62, 61] [60] (by decide) (by decide) (by decide)
  obtain ⟨w5, r5, m5, g5⟩ := m4.store hT hS [62] [60, 61] (by decide) (by decide) (by decide)
  obtain ⟨w6, r6, m6, g6⟩ := m5.store hT hS [60, 61] [62] (by decide) (by decide) (by decide)
  have hg : ∀ g, (some w.heap.size : Option Nat) = some g → g ∈ ([] : List Nat) ∨ w.heap.size ≤ g := fun g h => .inr (by injection h with h; omega)
  refine ⟨w1, w2, w3, w4, w5, w6, r1, r2, r3, r4, r5, r6, ((((((Keeps.refl [] w).alloc _).grown g1 hg).grown g2 hg).grown g3 hg).grown g4 hg |>.grown g5 hg).grown g6 hg, fun op ho => ?_⟩
  rw [← oppM_is]
  exact m6.look0 hT hS (by kernel_rfl) op ho
end Go.Proofs.YtomgnjgaafnkiaaGreatDoor
namespace Go.Proofs.YtomgnjgaafnkiaaGreatDoor
open Go.RowKit Go.BigFrame
attribute [local go_sem] bs_size bs_extract bs_append bs_toList
attribute [local go_sem] KW.cell
theorem size_set (w : World) (p : Addr) (v : Value) : (w.setCell p v).heap.size = w.heap.size := by simp [World.setCell]
theorem TbB.of_right {t : Tb} (h : rightB t = true) : TbB t := by
  obtain ⟨h1, h2, h3, _⟩ := rightB_of h
  refine ⟨fun x hx => ?_, by omega, by omega, fun r hr => by rw [row_len h r hr]; omega⟩
  obtain ⟨k, hk, rfl⟩ := List.getElem_of_mem hx
  have := nameB_len (okCol_of h1 hk).1
  omega
theorem TbIs.rd {w : World} {A B : Option Addr} {c d : Nat} {t : Tb} (h : TbIs w (.slice A t.cols.length c, .slice B t.rows.length d) t) (hb : TbB t) : TabRd w t A B := by
  obtain ⟨⟨A1, c1, e1, _, h1⟩, ⟨B1, d1, e2, _, h2⟩⟩ := h
  injection e1 with e1 _ _
  injection e2 with e2 _ _
  subst e1 e2
  exact ⟨h1, h2, hb.ln, hb.lm, hb.lr⟩
theorem RdTbs.get {w : World} {A : Option Addr} {ts : List Tb} {t : Tb} {k : Nat} (h : RdTbs w A ts) (hk : k < ts.length) (ht : ts[k] = t) : ∃ b o A1 c1 A2 c2, A = some ⟨b, o, none⟩ ∧ w.cell? ⟨b, o + k * 2, none⟩ = some (.slice A1 t.cols.length c1) ∧ w.cell? ⟨b, o + k * 2 + 1, none⟩ = some (.slice A2 t.rows.length c2) ∧ TbIs w (.slice A1 t.cols.length c1, .slice A2 t.rows.length c2) t := by
  obtain ⟨us, hul, hur, hui⟩ := h
  obtain ⟨b, o, hA, _, _, hcs⟩ := hur.open' (by omega) (by omega)
  have d0 := hcs _ _ (flat2_at us k (by omega)).1
  have d1 := hcs _ _ (flat2_at us k (by omega)).2
  obtain ⟨⟨A1, c1, e1, h1, h2⟩, ⟨A2, c2, e2, h3, h4⟩⟩ := hui k (by omega) hk
  rw [ht] at e1 h1 h2 e2 h3 h4
  rw [e1] at d0
  rw [e2, ← Nat.add_assoc] at d1
  exact ⟨b, o, A1, c1, A2, c2, hA, d0, d1, ⟨⟨A1, c1, rfl, h1, h2⟩, ⟨A2, c2, rfl, h3, h4⟩⟩⟩
set_option maxHeartbeats 8000000 in
set_option maxRecDepth 40000 in
theorem osplit_0 (j : Jb) (Ao : Option Addr) (co : Nat) (Ai : Option Addr) (ni ci : Nat) (Ac : Option Addr) (cc : Nat) (t : Tb) (A B : Option Addr) (c d : Nat) (w : World) (hJ : JobAny w j Ao co Ac cc) (hT : TabAny w t A B c d) (hE : OEnv w) (hsh : shortB j = false) :
    Calls Tryz.prog 4 #[jAgg j Ao co Ai ni ci Ac cc, tAgg A t.cols.length c B t.rows.length d] w fun e w' => e = .returned (.bool true) ∧ Keeps [] w w' := by
  have HSH0 := Lib.hid (fun W (q : Keeps [] w W) => short_any j Ao co Ai ni ci Ac cc W (hJ.cols.keep q))
  have HSM : Hid (∀ W, Keeps [] w W → Calls Tryz.prog 9 #[.agg #[.slice A t.cols.length c, .slice B t.rows.length d]] W fun e W' => e = .returned (.bool (smallB t)) ∧ Keeps [] W W') := Lib.hid fun W q => small_any t A B c d W (hT.cols.keep q) (hT.rows.keep q)
  have HDN := Lib.hid (fun W (q : Keeps [] w W) => done_any W (hE.quiet q))
  have HT := Lib.hid hT
  have HE := Lib.hid hE
  have HJ := Lib.hid hJ
  clear hT hE hJ
  rw [hsh] at HSH0
  clear hsh
  obtain ⟨at_, code, outs, js, cols, op, ⟨lc, lk, ln, lw⟩, ⟨rc, rk, rn, rw'⟩, retry⟩ := j
  have HSH : Hid (∀ W, Keeps [] w W → Calls Tryz.prog 17 #[.agg #[.int .i64 at_, .int .i64 code, .slice Ao outs.length co, .slice Ai ni ci, .slice Ac cols.length cc, .string (bs op), .string (bs lc), .int .i64 lk, .int .i64 ln, .string (bs lw), .string (bs rc), .int .i64 rk, .int .i64 rn, .string (bs rw'), .int .i64 retry]] W fun e W' => e = .returned (.bool false) ∧ Keeps [] W W') := HSH0
  show Calls _ _ #[.agg #[.int .i64 at_, .int .i64 code, .slice Ao outs.length co, .slice Ai ni ci, .slice Ac cols.length cc, .string (bs op), .string (bs lc), .int .i64 lk, .int .i64 ln, .string (bs lw), .string (bs rc), .int .i64 rk, .int .i64 rn, .string (bs rw'), .int .i64 retry], .agg #[.slice A t.cols.length c, .slice B t.rows.length d]] w _
  go_enter Tryz.func4, Tryz.ntmps4
  go_wp2_with fail
  refine (HSH.out _ (((Keeps.refl _ _).alloc _).alloc _)).mono ?_
  rintro e w2 ⟨rfl, hk2⟩
  go_wp2
  go_ret
  exact ⟨rfl, (((Keeps.refl _ _).alloc _).alloc _).trans hk2⟩
set_option maxHeartbeats 8000000 in
set_option maxRecDepth 40000 in
theorem osplit_1 (j : Jb) (Ao : Option Addr) (co : Nat) (Ai : Option Addr) (ni ci : Nat) (Ac : Option Addr) (cc : Nat) (t : Tb) (A B : Option Addr) (c d : Nat) (w : World) (hJ : JobAny w j Ao co Ac cc) (hT : TabAny w t A B c d) (hE : OEnv w) (hsh : shortB j = true) (hsm : smallB t = false) :
    Calls Tryz.prog 4 #[jAgg j Ao co Ai ni ci Ac cc, tAgg A t.cols.length c B t.rows.length d] w fun e w' => e = .returned (.bool true) ∧ Keeps [] w w' := by
  have HSH0 := Lib.hid (fun W (q : Keeps [] w W) => short_any j Ao co Ai ni ci Ac cc W (hJ.cols.keep q))
  have HSM : Hid (∀ W, Keeps [] w W → Calls Tryz.prog 9 #[.agg #[.slice A t.cols.length c, .slice B t.rows.length d]] W fun e W' => e = .returned (.bool (smallB t)) ∧ Keeps [] W W') := Lib.hid fun W q => small_any t A B c d W (hT.cols.keep q) (hT.rows.keep q)
  have HDN := Lib.hid (fun W (q : Keeps [] w W) => done_any W (hE.quiet q))
  have HT := Lib.hid hT
  have HE := Lib.hid hE
  have HJ := Lib.hid hJ
  clear hT hE hJ
  rw [hsh] at HSH0
  rw [hsm] at HSM
  clear hsh hsm
  obtain ⟨at_, code, outs, js, cols, op, ⟨lc, lk, ln, lw⟩, ⟨rc, rk, rn, rw'⟩, retry⟩ := j
  have HSH : Hid (∀ W, Keeps [] w W → Calls Tryz.prog 17 #[.agg #[.int .i64 at_, .int .i64 code, .slice Ao outs.length co, .slice Ai ni ci, .slice Ac cols.length cc, .string (bs op), .string (bs lc), .int .i64 lk, .int .i64 ln, .string (bs lw), .string (bs rc), .int .i64 rk, .int .i64 rn, .string (bs rw'), .int .i64 retry]] W fun e W' => e = .returned (.bool true) ∧ Keeps [] W W') := HSH0
  show Calls _ _ #[.agg #[.int .i64 at_, .int .i64 code, .slice Ao outs.length co, .slice Ai ni ci, .slice Ac cols.length cc, .string (bs op), .string (bs lc), .int .i64 lk, .int .i64 ln, .string (bs lw), .string (bs rc), .int .i64 rk, .int .i64 rn, .string (bs rw'), .int .i64 retry], .agg #[.slice A t.cols.length c, .slice B t.rows.length d]] w _
  go_enter Tryz.func4, Tryz.ntmps4
  go_wp2_with fail
  refine (HSH.out _ (((Keeps.refl _ _).alloc _).alloc _)).mono ?_
  rintro e w2 ⟨rfl, hk2⟩
  have c0 := hk2.cell_of (p := ⟨w.heap.size + 1, 0, none⟩) (v := .slice A t.cols.length c) (by go_simp) (by simp)
  have c1 := hk2.cell_of (p := ⟨w.heap.size + 1, 1, none⟩) (v := .slice B t.rows.length d) (by go_simp) (by simp)
  have HK2 := Lib.hid ((((Keeps.refl [] w).alloc _).alloc _).trans hk2)
  clear hk2
  go_wp2_with fail
  refine (HSM.out _ HK2.out).mono ?_
  rintro e w3 ⟨rfl, hk3⟩
  go_wp2
  go_ret
  exact ⟨rfl, HK2.out.trans hk3⟩
set_option maxHeartbeats 8000000 in
set_option maxRecDepth 40000 in
theorem osplit_A (j : Jb) (Ao : Option Addr) (co : Nat) (Ai : Option Addr) (ni ci : Nat) (Ac : Option Addr) (cc : Nat) (t : Tb) (A B : Option Addr) (c d : Nat) (w : World) (hJ : JobAny w j Ao co Ac cc) (hT : TabAny w t A B c d) (hE : OEnv w) (hsh : shortB j = true) (hsm : smallB t = true) (hlaw : ∃ e, doJ (jobS j) [t] = .error e ∧ oneJ (jobF j) [t] = none ∧ oneJ (jobN j) [t] = none) :
    Calls Tryz.prog 4 #[jAgg j Ao co Ai ni ci Ac cc, tAgg A t.cols.length c B t.rows.length d] w fun e w' => e = .returned (.bool true) ∧ Keeps [] w w' := by
  have HSH0 := Lib.hid (fun W (q : Keeps [] w W) => short_any j Ao co Ai ni ci Ac cc W (hJ.cols.keep q))
  have HSM : Hid (∀ W, Keeps [] w W → Calls Tryz.prog 9 #[.agg #[.slice A t.cols.length c, .slice B t.rows.length d]] W fun e W' => e = .returned (.bool (smallB t)) ∧ Keeps [] W W') := Lib.hid fun W q => small_any t A B c d W (hT.cols.keep q) (hT.rows.keep q)
  have HDN := Lib.hid (fun W (q : Keeps [] w W) => done_any W (hE.quiet q))
  have HT := Lib.hid hT
  have HE := Lib.hid hE
  have HJ := Lib.hid hJ
  clear hT hE hJ
  rw [hsh] at HSH0
  have hs10 : j.cols.length ≤ 10 := by
    unfold shortB at hsh
    simp only [Bool.and_eq_true, decide_eq_true_eq] at hsh
    exact hsh.1
  have hso : j.op.length ≤ 20 := by
    unfold shortB at hsh
    simp only [Bool.and_eq_true, decide_eq_true_eq] at hsh
    exact hsh.2.1
  rw [hsm] at HSM
  have HIN := Lib.hid (HT.out.inn hsm)
  have HTB := Lib.hid HIN.out.1.tbB
  clear hsm hsh
  obtain ⟨R9, hR9⟩ : ∃ R, doJ (jobS j) [t] = R := ⟨_, rfl⟩
  obtain ⟨RF, hRF⟩ : ∃ R, oneJ (jobF j) [t] = R := ⟨_, rfl⟩
  obtain ⟨RN, hRN⟩ : ∃ R, oneJ (jobN j) [t] = R := ⟨_, rfl⟩
  rw [hR9, hRF, hRN] at hlaw
  have HLAW := Lib.hid hlaw
  have HD9 : Hid (∀ W, Keeps [] w W → ∀ Ax AT ct, Rd W [] 1 Ax 2 (strs [[120], [121]]) → RdTbs W AT [t] → Calls Tryz.prog 18 #[jAgg (jobS j) Ax 2 Ai ni ci Ac cc, .slice AT 1 ct] W fun e W' => DoOut R9 e W' ∧ Keeps [] W W') := Lib.hid fun W q Ax AT ct hx hI => by
    rw [← hR9]
    exact do_cmp (jobS j) (.inr rfl) Ax 2 Ai ni ci Ac cc [t] AT ct W (HE.out.quiet q) ⟨hx, Nat.le_refl _, HJ.out.cols.keep q, HJ.out.cq, by show 2 ≤ _; omega, by show j.cols.length ≤ _; omega⟩ hI (fun x hx => by rw [List.mem_singleton] at hx; rw [hx]; exact HTB.out) (by show 1 ≤ _; omega)
  have HOF : Hid (∀ W, Keeps [] w W → ∀ Ax AT ct, RdTbs W AT [t] → Calls Tryz.prog 11 #[jAgg { jobS j with code := 1 } Ax 2 Ai ni ci Ac cc, .slice AT 1 ct] W fun e W' => OneOut RF e W' ∧ Keeps [] W W') := Lib.hid fun W q Ax AT ct hI => by
    rw [← hRF]
    exact one_cmp { jobS j with code := 1 } rfl Ax 2 Ai ni ci Ac cc t AT ct W (HE.out.quiet q) (HJ.out.cols.keep q) HJ.out.cq (by show j.cols.length ≤ _; omega) hI HTB.out
  have HON : Hid (∀ W, Keeps [] w W → ∀ Ax AT ct, RdTbs W AT [t] → Calls Tryz.prog 11 #[jAgg { jobS j with code := 1, op := oppB j.op } Ax 2 Ai ni ci Ac cc, .slice AT 1 ct] W fun e W' => OneOut RN e W' ∧ Keeps [] W W') := Lib.hid fun W q Ax AT ct hI => by
    rw [← hRN]
    exact one_cmp { jobS j with code := 1, op := oppB j.op } rfl Ax 2 Ai ni ci Ac cc t AT ct W (HE.out.quiet q) (HJ.out.cols.keep q) HJ.out.cq (by show j.cols.length ≤ _; omega) hI HTB.out
  have HBF : Hid (∀ u, RF = some u → TbB u) := Lib.hid fun u hu => by
    rw [← hRF, one_filter (jobF j) t rfl] at hu
    split at hu
    · rename_i h
      injection hu with hu
      rw [← hu]
      exact TbB.of_right (filter_right _ h.1)
    · cases hu
  have HBN : Hid (∀ u, RN = some u → TbB u) := Lib.hid fun u hu => by
    rw [← hRN, one_filter (jobN j) t rfl] at hu
    split at hu
    · rename_i h
      injection hu with hu
      rw [← hu]
      exact TbB.of_right (filter_right _ h.1)
    · cases hu
  clear hR9 hRF hRN hlaw HJ HT
  obtain ⟨at_, code, outs, js, cols, op, ⟨lc, lk, ln, lw⟩, ⟨rc, rk, rn, rw'⟩, retry⟩ := j
  have HSH : Hid (∀ W, Keeps [] w W → Calls Tryz.prog 17 #[.agg #[.int .i64 at_, .int .i64 code, .slice Ao outs.length co, .slice Ai ni ci, .slice Ac cols.length cc, .string (bs op), .string (bs lc), .int .i64 lk, .int .i64 ln, .string (bs lw), .string (bs rc), .int .i64 rk, .int .i64 rn, .string (bs rw'), .int .i64 retry]] W fun e W' => e = .returned (.bool true) ∧ Keeps [] W W') := HSH0
  have HD9' : Hid (∀ W, Keeps [] w W → ∀ Ax AT ct, Rd W [] 1 Ax 2 (strs [[120], [121]]) → RdTbs W AT [t] → Calls Tryz.prog 18 #[.agg #[.int .i64 at_, .int .i64 9, .slice Ax 2 2, .slice Ai ni ci, .slice Ac cols.length cc, .string (bs op), .string (bs lc), .int .i64 lk, .int .i64 ln, .string (bs lw), .string (bs rc), .int .i64 rk, .int .i64 rn, .string (bs rw'), .int .i64 retry], .slice AT 1 ct] W fun e W' => DoOut R9 e W' ∧ Keeps [] W W') := HD9
  have HOF' : Hid (∀ W, Keeps [] w W → ∀ Ax AT ct, RdTbs W AT [t] → Calls Tryz.prog 11 #[.agg #[.int .i64 at_, .int .i64 1, .slice Ax 2 2, .slice Ai ni ci, .slice Ac cols.length cc, .string (bs op), .string (bs lc), .int .i64 lk, .int .i64 ln, .string (bs lw), .string (bs rc), .int .i64 rk, .int .i64 rn, .string (bs rw'), .int .i64 retry], .slice AT 1 ct] W fun e W' => OneOut RF e W' ∧ Keeps [] W W') := HOF
  have HON' : Hid (∀ W, Keeps [] w W → ∀ Ax AT ct, RdTbs W AT [t] → Calls Tryz.prog 11 #[.agg #[.int .i64 at_, .int .i64 1, .slice Ax 2 2, .slice Ai ni ci, .slice Ac cols.length cc, .string (bs (oppB op)), .string (bs lc), .int .i64 lk, .int .i64 ln, .string (bs lw), .string (bs rc), .int .i64 rk, .int .i64 rn, .string (bs rw'), .int .i64 retry], .slice AT 1 ct] W fun e W' => OneOut RN e W' ∧ Keeps [] W W') := HON
  clear HSH0 HD9 HOF HON
  obtain ⟨no, hno⟩ : ∃ n, outs.length = n := ⟨_, rfl⟩
  obtain ⟨nc, hnc⟩ : ∃ n, cols.length = n := ⟨_, rfl⟩
  rw [hno] at HSH
  rw [hnc] at HSH HD9' HOF' HON'
  show Calls _ _ #[.agg #[.int .i64 at_, .int .i64 code, .slice Ao outs.length co, .slice Ai ni ci, .slice Ac cols.length cc, .string (bs op), .string (bs lc), .int .i64 lk, .int .i64 ln, .string (bs lw), .string (bs rc), .int .i64 rk, .int .i64 rn, .string (bs rw'), .int .i64 retry], .agg #[.slice A t.cols.length c, .slice B t.rows.length d]] w _
  rw [hno, hnc]
  clear hno hnc
  have HBJ := Lib.hid ((Blk.new w 36 #[.int .i64 at_, .int .i64 code, .slice Ao no co, .slice Ai ni ci, .slice Ac nc cc, .string (bs op), .string (bs lc), .int .i64 lk, .int .i64 ln, .string (bs lw), .string (bs rc), .int .i64 rk, .int .i64 rn, .string (bs rw'), .int .i64 retry]).alloc (.cells #[.slice A t.cols.length c, .slice B t.rows.length d] 25))
  have HBT := Lib.hid (Blk.new (w.alloc (.cells #[.int .i64 at_, .int .i64 code, .slice Ao no co, .slice Ai ni ci, .slice Ac nc cc, .string (bs op), .string (bs lc), .int .i64 lk, .int .i64 ln, .string (bs lw), .string (bs rc), .int .i64 rk, .int .i64 rn, .string (bs rw'), .int .i64 retry] 36)) 25 #[.slice A t.cols.length c, .slice B t.rows.length d])
  rw [size_alloc] at HBT
  have HK0 : Hid (Keeps [] w ((w.alloc (.cells #[.int .i64 at_, .int .i64 code, .slice Ao no co, .slice Ai ni ci, .slice Ac nc cc, .string (bs op), .string (bs lc), .int .i64 lk, .int .i64 ln, .string (bs lw), .string (bs rc), .int .i64 rk, .int .i64 rn, .string (bs rw'), .int .i64 retry] 36)).alloc (.cells #[.slice A t.cols.length c, .slice B t.rows.length d] 25))) := Lib.hid (((Keeps.refl _ _).alloc _).alloc _)
  go_enter Tryz.func4, Tryz.ntmps4
  go_wp2_with fail
  refine (HSH.out _ (((Keeps.refl _ _).alloc _).alloc _)).mono ?_
  rintro e w2 ⟨rfl, hk2⟩
  have HJ2 := Lib.hid (HBJ.out.keep hk2 (by simp))
  have HT2 := Lib.hid (HBT.out.keep hk2 (by simp))
  have HK2 := Lib.hid (HK0.out.trans hk2)
  obtain ⟨bj, hbj⟩ : ∃ b, w.heap.size = b := ⟨_, rfl⟩
  have HLB : Hid (w.heap.size ≤ bj) := Lib.hid (by omega)
  rw [hbj] at HJ2 HT2 ⊢
  clear hk2 HBJ HBT HK0 hbj
  have c0 : w2.cell? ⟨bj + 1, 0, none⟩ = some (.slice A t.cols.length c) := HT2.out.cell 0
  have c1 : w2.cell? ⟨bj + 1, 1, none⟩ = some (.slice B t.rows.length d) := HT2.out.cell 1
  go_wp2_with fail
  refine (HSM.out _ HK2.out).mono ?_
  rintro e w3 ⟨rfl, hk3⟩
  have HK3 := Lib.hid (HK2.out.trans hk3)
  have HJ3 := Lib.hid (HJ2.out.keep hk3 (by simp))
  have HT3 := Lib.hid (HT2.out.keep hk3 (by simp))
  clear hk3 c0 c1 HJ2 HT2
  go_wp2_with fail
  refine (HDN.out _ HK3.out).mono ?_
  rintro e w4 ⟨rfl, hk4⟩
  have HK4 := Lib.hid (HK3.out.trans hk4)
  have HJ4 := Lib.hid (HJ3.out.keep hk4 (by simp))
  have HT4 := Lib.hid (HT3.out.keep hk4 (by simp))
  clear hk4 HJ3 HT3 HDN HSM HSH
  obtain ⟨y0, y1, y2, y3, y4, y5, y6, y7, y8, y9, y10, y11, y12, y13, y14⟩ := box15 HJ4.out
  have f1 := HJ4.out.frozen 1
  have f2 := HJ4.out.frozen 2
  have c0 : w4.cell? ⟨bj + 1, 0, none⟩ = some (.slice A t.cols.length c) := HT4.out.cell 0
  have c1 : w4.cell? ⟨bj + 1, 1, none⟩ = some (.slice B t.rows.length d) := HT4.out.cell 1
  have hl4 : bj < w4.heap.size := HJ4.out.lt
  have hl5 : bj + 1 < w4.heap.size := HT4.out.lt
  go_wp2_with fail
  have HK5 : Hid (Keeps [] w ((((w4.setCell ⟨bj, 1, none⟩ (.int .i64 9)).setCell ⟨bj, 2, none⟩ (.slice (some ⟨w4.heap.size, 0, none⟩) 2 2)).alloc (.cells #[.string ⟨#[120]⟩, .string ⟨#[121]⟩] 9)).alloc (.cells #[.slice A t.cols.length c, .slice B t.rows.length d] 25))) := Lib.hid ((((HK4.out.setCell (.inr HLB.out) _).setCell (.inr HLB.out) _).alloc _).alloc _)
  have HJ5 := Lib.hid (((((HJ4.out.set 1 (.int .i64 9)).set 2 (.slice (some ⟨w4.heap.size, 0, none⟩) 2 2)).alloc (.cells #[.string ⟨#[120]⟩, .string ⟨#[121]⟩] 9)).alloc (.cells #[.slice A t.cols.length c, .slice B t.rows.length d] 25)).congr (cs' := #[.int .i64 at_, .int .i64 9, .slice (some ⟨w4.heap.size, 0, none⟩) 2 2, .slice Ai ni ci, .slice Ac nc cc, .string (bs op), .string (bs lc), .int .i64 lk, .int .i64 ln, .string (bs lw), .string (bs rc), .int .i64 rk, .int .i64 rn, .string (bs rw'), .int .i64 retry]) rfl)
  have HT5 := Lib.hid ((((HT4.out.far (p := ⟨bj, 1, none⟩) (by simp) (.int .i64 9)).far (p := ⟨bj, 2, none⟩) (by simp) (.slice (some ⟨w4.heap.size, 0, none⟩) 2 2)).alloc (.cells #[.string ⟨#[120]⟩, .string ⟨#[121]⟩] 9)).alloc (.cells #[.slice A t.cols.length c, .slice B t.rows.length d] 25))
  have HX5 := Lib.hid ((Blk.new ((w4.setCell ⟨bj, 1, none⟩ (.int .i64 9)).setCell ⟨bj, 2, none⟩ (.slice (some ⟨w4.heap.size, 0, none⟩) 2 2)) 9 #[.string ⟨#[120]⟩, .string ⟨#[121]⟩]).alloc (.cells #[.slice A t.cols.length c, .slice B t.rows.length d] 25))
  have HA5 := Lib.hid (Blk.new (((w4.setCell ⟨bj, 1, none⟩ (.int .i64 9)).setCell ⟨bj, 2, none⟩ (.slice (some ⟨w4.heap.size, 0, none⟩) 2 2)).alloc (.cells #[.string ⟨#[120]⟩, .string ⟨#[121]⟩] 9)) 25 #[.slice A t.cols.length c, .slice B t.rows.length d])
  rw [size_set, size_set] at HX5
  rw [size_alloc, size_set, size_set] at HA5
  obtain ⟨w5, hw5⟩ : ∃ w5, ((((w4.setCell ⟨bj, 1, none⟩ (.int .i64 9)).setCell ⟨bj, 2, none⟩ (.slice (some ⟨w4.heap.size, 0, none⟩) 2 2)).alloc (.cells #[.string ⟨#[120]⟩, .string ⟨#[121]⟩] 9)).alloc (.cells #[.slice A t.cols.length c, .slice B t.rows.length d] 25)) = w5 := ⟨_, rfl⟩
  rw [hw5] at HK5 HJ5 HT5 HX5 HA5 ⊢
  have HDW := Lib.hid (HD9'.out w5 HK5.out (some ⟨w4.heap.size, 0, none⟩) (some ⟨w4.heap.size + 1, 0, none⟩) 1 (rd_blk HX5.out _ rfl) (rdTbs_blk HA5.out (HIN.out.1.quiet HK5.out)))
  obtain ⟨gx, hgx⟩ : ∃ g, w4.heap.size = g := ⟨_, rfl⟩
  rw [hgx] at HJ5 HDW ⊢
  clear hw5 hgx y0 y1 y2 y3 y4 y5 y6 y7 y8 y9 y10 y11 y12 y13 y14 f1 f2 c0 c1 hl4 hl5 HX5 HA5 HD9' HJ4 HT4 HK4
  obtain ⟨x, e9, eF, eN⟩ := HLAW.out
  subst e9 eF eN
  clear HLAW HBF HBN
  have HDE : Hid (Calls Tryz.prog 18 #[.agg #[.int .i64 at_, .int .i64 9, .slice (some ⟨gx, 0, none⟩) 2 2, .slice Ai ni ci, .slice Ac nc cc, .string (bs op), .string (bs lc), .int .i64 lk, .int .i64 ln, .string (bs lw), .string (bs rc), .int .i64 rk, .int .i64 rn, .string (bs rw'), .int .i64 retry], .slice (some ⟨gx + 1, 0, none⟩) 1 1] w5 fun e w' => e = .returned (.tuple #[.slice none 0 0, .iface 74 (.int .i64 x)]) ∧ Keeps [] w5 w') := HDW
  clear HDW
  with_reducible refine HDE.out.mono ?_
  rintro e w6 ⟨rfl, hk6⟩
-- A
  have HK6 := Lib.hid (HK5.out.trans hk6)
  have HJ6 := Lib.hid (HJ5.out.keep hk6 (by simp))
  have HT6 := Lib.hid (HT5.out.keep hk6 (by simp))
  clear hk6 HDE HJ5 HT5 HK5
  obtain ⟨y0, y1, y2, y3, y4, y5, y6, y7, y8, y9, y10, y11, y12, y13, y14⟩ := box15 HJ6.out
  have f1 := HJ6.out.frozen 1
  have c0 : w6.cell? ⟨bj + 1, 0, none⟩ = some (.slice A t.cols.length c) := HT6.out.cell 0
  have c1 : w6.cell? ⟨bj + 1, 1, none⟩ = some (.slice B t.rows.length d) := HT6.out.cell 1
  have hl4 : bj < w6.heap.size := HJ6.out.lt
  have hl5 : bj + 1 < w6.heap.size := HT6.out.lt
  go_wp2_with fail
  have HK7 : Hid (Keeps [] w ((w6.setCell ⟨bj, 1, none⟩ (.int .i64 1)).alloc (.cells #[.slice A t.cols.length c, .slice B t.rows.length d] 25))) := Lib.hid ((HK6.out.setCell (.inr HLB.out) _).alloc _)
  have HJ7 := Lib.hid (((HJ6.out.set 1 (.int .i64 1)).alloc (.cells #[.slice A t.cols.length c, .slice B t.rows.length d] 25)).congr (cs' := #[.int .i64 at_, .int .i64 1, .slice (some ⟨gx, 0, none⟩) 2 2, .slice Ai ni ci, .slice Ac nc cc, .string (bs op), .string (bs lc), .int .i64 lk, .int .i64 ln, .string (bs lw), .string (bs rc), .int .i64 rk, .int .i64 rn, .string (bs rw'), .int .i64 retry]) rfl)
  have HT7 := Lib.hid ((HT6.out.far (p := ⟨bj, 1, none⟩) (by simp) (.int .i64 1)).alloc (.cells #[.slice A t.cols.length c, .slice B t.rows.length d] 25))
  have HA7 := Lib.hid (Blk.new (w6.setCell ⟨bj, 1, none⟩ (.int .i64 1)) 25 #[.slice A t.cols.length c, .slice B t.rows.length d])
  rw [size_set] at HA7
  obtain ⟨w7, hw7⟩ : ∃ w7, ((w6.setCell ⟨bj, 1, none⟩ (.int .i64 1)).alloc (.cells #[.slice A t.cols.length c, .slice B t.rows.length d] 25)) = w7 := ⟨_, rfl⟩
  rw [hw7] at HK7 HJ7 HT7 HA7 ⊢
  have HOW := Lib.hid (HOF'.out w7 HK7.out (some ⟨gx, 0, none⟩) (some ⟨w6.heap.size, 0, none⟩) 1 (rdTbs_blk HA7.out (HIN.out.1.quiet HK7.out)))
  obtain ⟨g6, hg6⟩ : ∃ g, w6.heap.size = g := ⟨_, rfl⟩
  rw [hg6] at HOW ⊢
  clear hw7 hg6 y0 y1 y2 y3 y4 y5 y6 y7 y8 y9 y10 y11 y12 y13 y14 f1 c0 c1 hl4 hl5 HA7 HOF' HJ6 HT6 HK6
  have HOE : Hid (Calls Tryz.prog 11 #[.agg #[.int .i64 at_, .int .i64 1, .slice (some ⟨gx, 0, none⟩) 2 2, .slice Ai ni ci, .slice Ac nc cc, .string (bs op), .string (bs lc), .int .i64 lk, .int .i64 ln, .string (bs lw), .string (bs rc), .int .i64 rk, .int .i64 rn, .string (bs rw'), .int .i64 retry], .slice (some ⟨g6, 0, none⟩) 1 1] w7 fun e w' => (e = .returned (.tuple #[.agg #[.slice none 0 0, .slice none 0 0], .bool false])) ∧ Keeps [] w7 w') := HOW
  clear HOW
  with_reducible refine HOE.out.mono ?_
  rintro e w8 ⟨rfl, hk8⟩
  have HK8 := Lib.hid (HK7.out.trans hk8)
  have HJ8 := Lib.hid ((HJ7.out.keep hk8 (by simp)).alloc (.cells #[.slice none 0 0, .slice none 0 0] 25))
  have HT8 := Lib.hid ((HT7.out.keep hk8 (by simp)).alloc (.cells #[.slice none 0 0, .slice none 0 0] 25))
  have HY8 := Lib.hid (Blk.new w8 25 #[.slice none 0 0, .slice none 0 0])
  have HK8' := Lib.hid (HK8.out.alloc (.cells #[.slice none 0 0, .slice none 0 0] 25))
  obtain ⟨m1, m2, m3, m4, m5, m6, r1, r2, r3, r4, r5, r6, hkm, hlook⟩ := opp_laid (w8.alloc (.cells #[.slice none 0 0, .slice none 0 0] 25))
  rw [size_alloc] at r1 r2 r3 r4 r5 r6 hlook
  have q1 : (Instr.mapUpdate 50 (.map (some (w8.heap.size + 1))) (.string ⟨#[61]⟩) (.string ⟨#[60, 62]⟩)).run Tryz.prog ((w8.alloc (.cells #[.slice none 0 0, .slice none 0 0] 25)).alloc (.map #[] 0)) = .ok () m1 := r1
  have q2 : (Instr.mapUpdate 50 (.map (some (w8.heap.size + 1))) (.string ⟨#[60, 62]⟩) (.string ⟨#[61]⟩)).run Tryz.prog m1 = .ok () m2 := r2
  have q3 : (Instr.mapUpdate 50 (.map (some (w8.heap.size + 1))) (.string ⟨#[60]⟩) (.string ⟨#[62, 61]⟩)).run Tryz.prog m2 = .ok () m3 := r3
  have q4 : (Instr.mapUpdate 50 (.map (some (w8.heap.size + 1))) (.string ⟨#[62, 61]⟩) (.string ⟨#[60]⟩)).run Tryz.prog m3 = .ok () m4 := r4
  have q5 : (Instr.mapUpdate 50 (.map (some (w8.heap.size + 1))) (.string ⟨#[62]⟩) (.string ⟨#[60, 61]⟩)).run Tryz.prog m4 = .ok () m5 := r5
  have q6 : (Instr.mapUpdate 50 (.map (some (w8.heap.size + 1))) (.string ⟨#[60, 61]⟩) (.string ⟨#[62]⟩)).run Tryz.prog m5 = .ok () m6 := r6
  have ql := hlook op (Nat.le_trans hso (by decide))
  have HK9 := Lib.hid (HK8'.out.trans hkm)
  have HJ9 := Lib.hid (HJ8.out.keep hkm (by simp))
  have HT9 := Lib.hid (HT8.out.keep hkm (by simp))
  have HY9 := Lib.hid (HY8.out.keep hkm (by simp))
  have HML := Lib.hid (show w8.heap.size < m6.heap.size by have := hkm.size; rw [size_alloc] at this; omega)
  clear hk8 HOE HJ7 HT7 HK7 r1 r2 r3 r4 r5 r6 hlook hkm HJ8 HT8 HY8 HK8 HK8'
  obtain ⟨y0, y1, y2, y3, y4, y5, y6, y7, y8, y9, y10, y11, y12, y13, y14⟩ := box15 HJ9.out
  have f5 := HJ9.out.frozen 5
  have c0 : m6.cell? ⟨bj + 1, 0, none⟩ = some (.slice A t.cols.length c) := HT9.out.cell 0
  have c1 : m6.cell? ⟨bj + 1, 1, none⟩ = some (.slice B t.rows.length d) := HT9.out.cell 1
  have hl4 : bj < m6.heap.size := HJ9.out.lt
  have hl5 : bj + 1 < m6.heap.size := HT9.out.lt
  have hmm := @run_makeMap Tryz.prog
  go_wp2_with fail
  clear hmm q1 q2 q3 q4 q5 q6 ql
  have HKX : Hid (Keeps [] w ((m6.setCell ⟨bj, 5, none⟩ (.string (bs (oppB op)))).alloc (.cells #[.slice A t.cols.length c, .slice B t.rows.length d] 25))) := Lib.hid ((HK9.out.setCell (.inr HLB.out) _).alloc _)
  have HTX := Lib.hid ((HT9.out.far (p := ⟨bj, 5, none⟩) (by simp) (.string (bs (oppB op)))).alloc (.cells #[.slice A t.cols.length c, .slice B t.rows.length d] 25))
  have HYX := Lib.hid ((HY9.out.far (p := ⟨bj, 5, none⟩) (HY9.out.ne HJ9.out (by decide)) (.string (bs (oppB op)))).alloc (.cells #[.slice A t.cols.length c, .slice B t.rows.length d] 25))
  have HAX := Lib.hid (Blk.new (m6.setCell ⟨bj, 5, none⟩ (.string (bs (oppB op)))) 25 #[.slice A t.cols.length c, .slice B t.rows.length d])
  rw [size_set] at HAX
  obtain ⟨wX, hwX⟩ : ∃ wX, ((m6.setCell ⟨bj, 5, none⟩ (.string (bs (oppB op)))).alloc (.cells #[.slice A t.cols.length c, .slice B t.rows.length d] 25)) = wX := ⟨_, rfl⟩
  rw [hwX] at HKX HTX HYX HAX ⊢
  have HOW := Lib.hid (HON'.out wX HKX.out (some ⟨gx, 0, none⟩) (some ⟨m6.heap.size, 0, none⟩) 1 (rdTbs_blk HAX.out (HIN.out.1.quiet HKX.out)))
  obtain ⟨g9, hg9⟩ : ∃ g, m6.heap.size = g := ⟨_, rfl⟩
  rw [hg9] at HOW ⊢
  obtain ⟨g8, hg8⟩ : ∃ g, w8.heap.size = g := ⟨_, rfl⟩
  rw [hg8] at HYX ⊢
  clear hwX hg8 hg9 HML y0 y1 y2 y3 y4 y5 y6 y7 y8 y9 y10 y11 y12 y13 y14 f5 c0 c1 hl4 hl5 HAX HON' HJ9 HT9 HY9 HK9
  have HOE : Hid (Calls Tryz.prog 11 #[.agg #[.int .i64 at_, .int .i64 1, .slice (some ⟨gx, 0, none⟩) 2 2, .slice Ai ni ci, .slice Ac nc cc, .string (bs (oppB op)), .string (bs lc), .int .i64 lk, .int .i64 ln, .string (bs lw), .string (bs rc), .int .i64 rk, .int .i64 rn, .string (bs rw'), .int .i64 retry], .slice (some ⟨g9, 0, none⟩) 1 1] wX fun e w' => (e = .returned (.tuple #[.agg #[.slice none 0 0, .slice none 0 0], .bool false])) ∧ Keeps [] wX w') := HOW
  clear HOW
  with_reducible refine HOE.out.mono ?_
  rintro e wY ⟨rfl, hkY⟩
  have HKY := Lib.hid ((HKX.out.trans hkY).alloc (.cells #[.slice none 0 0, .slice none 0 0] 25))
  clear HOE hkY
  go_wp2
  go_ret
  exact ⟨rfl, HKY.out⟩
set_option maxHeartbeats 8000000 in
set_option maxRecDepth 40000 in
theorem osplit_B (j : Jb) (Ao : Option Addr) (co : Nat) (Ai : Option Addr) (ni ci : Nat) (Ac : Option Addr) (cc : Nat) (t : Tb) (A B : Option Addr) (c d : Nat) (w : World) (hJ : JobAny w j Ao co Ac cc) (hT : TabAny w t A B c d) (hE : OEnv w) (hsh : shortB j = true) (hsm : smallB t = true) (hlaw : ∃ y n, doJ (jobS j) [t] = .ok [y, n] ∧ oneJ (jobF j) [t] = some y ∧ oneJ (jobN j) [t] = some n ∧ y.rows.length + n.rows.length = t.rows.length) :
    Calls Tryz.prog 4 #[jAgg j Ao co Ai ni ci Ac cc, tAgg A t.cols.length c B t.rows.length d] w fun e w' => e = .returned (.bool true) ∧ Keeps [] w w' := by
  have HSH0 := Lib.hid (fun W (q : Keeps [] w W) => short_any j Ao co Ai ni ci Ac cc W (hJ.cols.keep q))
  have HSM : Hid (∀ W, Keeps [] w W → Calls Tryz.prog 9 #[.agg #[.slice A t.cols.length c, .slice B t.rows.length d]] W fun e W' => e = .returned (.bool (smallB t)) ∧ Keeps [] W W') := Lib.hid fun W q => small_any t A B c d W (hT.cols.keep q) (hT.rows.keep q)
  have HDN := Lib.hid (fun W (q : Keeps [] w W) => done_any W (hE.quiet q))
  have HT := Lib.hid hT
  have HE := Lib.hid hE
  have HJ := Lib.hid hJ
  clear hT hE hJ
  rw [hsh] at HSH0
  have hs10 : j.cols.length ≤ 10 := by
    unfold shortB at hsh
    simp only [Bool.and_eq_true, decide_eq_true_eq] at hsh
    exact hsh.1
  have hso : j.op.length ≤ 20 := by
    unfold shortB at hsh
    simp only [Bool.and_eq_true, decide_eq_true_eq] at hsh
    exact hsh.2.1
  rw [hsm] at HSM
  have HIN := Lib.hid (HT.out.inn hsm)
  have HTB := Lib.hid HIN.out.1.tbB
  clear hsm hsh
  obtain ⟨R9, hR9⟩ : ∃ R, doJ (jobS j) [t] = R := ⟨_, rfl⟩
  obtain ⟨RF, hRF⟩ : ∃ R, oneJ (jobF j) [t] = R := ⟨_, rfl⟩
  obtain ⟨RN, hRN⟩ : ∃ R, oneJ (jobN j) [t] = R := ⟨_, rfl⟩
  rw [hR9, hRF, hRN] at hlaw
  have HLAW := Lib.hid hlaw
  have HD9 : Hid (∀ W, Keeps [] w W → ∀ Ax AT ct, Rd W [] 1 Ax 2 (strs [[120], [121]]) → RdTbs W AT [t] → Calls Tryz.prog 18 #[jAgg (jobS j) Ax 2 Ai ni ci Ac cc, .slice AT 1 ct] W fun e W' => DoOut R9 e W' ∧ Keeps [] W W') := Lib.hid fun W q Ax AT ct hx hI => by
    rw [← hR9]
    exact do_cmp (jobS j) (.inr rfl) Ax 2 Ai ni ci Ac cc [t] AT ct W (HE.out.quiet q) ⟨hx, Nat.le_refl _, HJ.out.cols.keep q, HJ.out.cq, by show 2 ≤ _; omega, by show j.cols.length ≤ _; omega⟩ hI (fun x hx => by rw [List.mem_singleton] at hx; rw [hx]; exact HTB.out) (by show 1 ≤ _; omega)
  have HOF : Hid (∀ W, Keeps [] w W → ∀ Ax AT ct, RdTbs W AT [t] → Calls Tryz.prog 11 #[jAgg { jobS j with code := 1 } Ax 2 Ai ni ci Ac cc, .slice AT 1 ct] W fun e W' => OneOut RF e W' ∧ Keeps [] W W') := Lib.hid fun W q Ax AT ct hI => by
    rw [← hRF]
    exact one_cmp { jobS j with code := 1 } rfl Ax 2 Ai ni ci Ac cc t AT ct W (HE.out.quiet q) (HJ.out.cols.keep q) HJ.out.cq (by show j.cols.length ≤ _; omega) hI HTB.out
  have HON : Hid (∀ W, Keeps [] w W → ∀ Ax AT ct, RdTbs W AT [t] → Calls Tryz.prog 11 #[jAgg { jobS j with code := 1, op := oppB j.op } Ax 2 Ai ni ci Ac cc, .slice AT 1 ct] W fun e W' => OneOut RN e W' ∧ Keeps [] W W') := Lib.hid fun W q Ax AT ct hI => by
    rw [← hRN]
    exact one_cmp { jobS j with code := 1, op := oppB j.op } rfl Ax 2 Ai ni ci Ac cc t AT ct W (HE.out.quiet q) (HJ.out.cols.keep q) HJ.out.cq (by show j.cols.length ≤ _; omega) hI HTB.out
  have HBF : Hid (∀ u, RF = some u → TbB u) := Lib.hid fun u hu => by
    rw [← hRF, one_filter (jobF j) t rfl] at hu
    split at hu
    · rename_i h
      injection hu with hu
      rw [← hu]
      exact TbB.of_right (filter_right _ h.1)
    · cases hu
  have HBN : Hid (∀ u, RN = some u → TbB u) := Lib.hid fun u hu => by
    rw [← hRN, one_filter (jobN j) t rfl] at hu
    split at hu
    · rename_i h
      injection hu with hu
      rw [← hu]
      exact TbB.of_right (filter_right _ h.1)
    · cases hu
  clear hR9 hRF hRN hlaw HJ HT
  obtain ⟨at_, code, outs, js, cols, op, ⟨lc, lk, ln, lw⟩, ⟨rc, rk, rn, rw'⟩, retry⟩ := j
  have HSH : Hid (∀ W, Keeps [] w W → Calls Tryz.prog 17 #[.agg #[.int .i64 at_, .int .i64 code, .slice Ao outs.length co, .slice Ai ni ci, .slice Ac cols.length cc, .string (bs op), .string (bs lc), .int .i64 lk, .int .i64 ln, .string (bs lw), .string (bs rc), .int .i64 rk, .int .i64 rn, .string (bs rw'), .int .i64 retry]] W fun e W' => e = .returned (.bool true) ∧ Keeps [] W W') := HSH0
  have HD9' : Hid (∀ W, Keeps [] w W → ∀ Ax AT ct, Rd W [] 1 Ax 2 (strs [[120], [121]]) → RdTbs W AT [t] → Calls Tryz.prog 18 #[.agg #[.int .i64 at_, .int .i64 9, .slice Ax 2 2, .slice Ai ni ci, .slice Ac cols.length cc, .string (bs op), .string (bs lc), .int .i64 lk, .int .i64 ln, .string (bs lw), .string (bs rc), .int .i64 rk, .int .i64 rn, .string (bs rw'), .int .i64 retry], .slice AT 1 ct] W fun e W' => DoOut R9 e W' ∧ Keeps [] W W') := HD9
  have HOF' : Hid (∀ W, Keeps [] w W → ∀ Ax AT ct, RdTbs W AT [t] → Calls Tryz.prog 11 #[.agg #[.int .i64 at_, .int .i64 1, .slice Ax 2 2, .slice Ai ni ci, .slice Ac cols.length cc, .string (bs op), .string (bs lc), .int .i64 lk, .int .i64 ln, .string (bs lw), .string (bs rc), .int .i64 rk, .int .i64 rn, .string (bs rw'), .int .i64 retry], .slice AT 1 ct] W fun e W' => OneOut RF e W' ∧ Keeps [] W W') := HOF
  have HON' : Hid (∀ W, Keeps [] w W → ∀ Ax AT ct, RdTbs W AT [t] → Calls Tryz.prog 11 #[.agg #[.int .i64 at_, .int .i64 1, .slice Ax 2 2, .slice Ai ni ci, .slice Ac cols.length cc, .string (bs (oppB op)), .string (bs lc), .int .i64 lk, .int .i64 ln, .string (bs lw), .string (bs rc), .int .i64 rk, .int .i64 rn, .string (bs rw'), .int .i64 retry], .slice AT 1 ct] W fun e W' => OneOut RN e W' ∧ Keeps [] W W') := HON
  clear HSH0 HD9 HOF HON
  obtain ⟨no, hno⟩ : ∃ n, outs.length = n := ⟨_, rfl⟩
  obtain ⟨nc, hnc⟩ : ∃ n, cols.length = n := ⟨_, rfl⟩
  rw [hno] at HSH
  rw [hnc] at HSH HD9' HOF' HON'
  show Calls _ _ #[.agg #[.int .i64 at_, .int .i64 code, .slice Ao outs.length co, .slice Ai ni ci, .slice Ac cols.length cc, .string (bs op), .string (bs lc), .int .i64 lk, .int .i64 ln, .string (bs lw), .string (bs rc), .int .i64 rk, .int .i64 rn, .string (bs rw'), .int .i64 retry], .agg #[.slice A t.cols.length c, .slice B t.rows.length d]] w _
  rw [hno, hnc]
  clear hno hnc
  have HBJ := Lib.hid ((Blk.new w 36 #[.int .i64 at_, .int .i64 code, .slice Ao no co, .slice Ai ni ci, .slice Ac nc cc, .string (bs op), .string (bs lc), .int .i64 lk, .int .i64 ln, .string (bs lw), .string (bs rc), .int .i64 rk, .int .i64 rn, .string (bs rw'), .int .i64 retry]).alloc (.cells #[.slice A t.cols.length c, .slice B t.rows.length d] 25))
  have HBT := Lib.hid (Blk.new (w.alloc (.cells #[.int .i64 at_, .int .i64 code, .slice Ao no co, .slice Ai ni ci, .slice Ac nc cc, .string (bs op), .string (bs lc), .int .i64 lk, .int .i64 ln, .string (bs lw), .string (bs rc), .int .i64 rk, .int .i64 rn, .string (bs rw'), .int .i64 retry] 36)) 25 #[.slice A t.cols.length c, .slice B t.rows.length d])
  rw [size_alloc] at HBT
  have HK0 : Hid (Keeps [] w ((w.alloc (.cells #[.int .i64 at_, .int .i64 code, .slice Ao no co, .slice Ai ni ci, .slice Ac nc cc, .string (bs op), .string (bs lc), .int .i64 lk, .int .i64 ln, .string (bs lw), .string (bs rc), .int .i64 rk, .int .i64 rn, .string (bs rw'), .int .i64 retry] 36)).alloc (.cells #[.slice A t.cols.length c, .slice B t.rows.length d] 25))) := Lib.hid (((Keeps.refl _ _).alloc _).alloc _)
  go_enter Tryz.func4, Tryz.ntmps4
  go_wp2_with fail
  refine (HSH.out _ (((Keeps.refl _ _).alloc _).alloc _)).mono ?_
  rintro e w2 ⟨rfl, hk2⟩
  have HJ2 := Lib.hid (HBJ.out.keep hk2 (by simp))
  have HT2 := Lib.hid (HBT.out.keep hk2 (by simp))
  have HK2 := Lib.hid (HK0.out.trans hk2)
  obtain ⟨bj, hbj⟩ : ∃ b, w.heap.size = b := ⟨_, rfl⟩
  have HLB : Hid (w.heap.size ≤ bj) := Lib.hid (by omega)
  rw [hbj] at HJ2 HT2 ⊢
  clear hk2 HBJ HBT HK0 hbj
  have c0 : w2.cell? ⟨bj + 1, 0, none⟩ = some (.slice A t.cols.length c) := HT2.out.cell 0
  have c1 : w2.cell? ⟨bj + 1, 1, none⟩ = some (.slice B t.rows.length d) := HT2.out.cell 1
  go_wp2_with fail
  refine (HSM.out _ HK2.out).mono ?_
  rintro e w3 ⟨rfl, hk3⟩
  have HK3 := Lib.hid (HK2.out.trans hk3)
  have HJ3 := Lib.hid (HJ2.out.keep hk3 (by simp))
  have HT3 := Lib.hid (HT2.out.keep hk3 (by simp))
  clear hk3 c0 c1 HJ2 HT2
  go_wp2_with fail
  refine (HDN.out _ HK3.out).mono ?_
  rintro e w4 ⟨rfl, hk4⟩
  have HK4 := Lib.hid (HK3.out.trans hk4)
  have HJ4 := Lib.hid (HJ3.out.keep hk4 (by simp))
  have HT4 := Lib.hid (HT3.out.keep hk4 (by simp))
  clear hk4 HJ3 HT3 HDN HSM HSH
  obtain ⟨y0, y1, y2, y3, y4, y5, y6, y7, y8, y9, y10, y11, y12, y13, y14⟩ := box15 HJ4.out
  have f1 := HJ4.out.frozen 1
  have f2 := HJ4.out.frozen 2
  have c0 : w4.cell? ⟨bj + 1, 0, none⟩ = some (.slice A t.cols.length c) := HT4.out.cell 0
  have c1 : w4.cell? ⟨bj + 1, 1, none⟩ = some (.slice B t.rows.length d) := HT4.out.cell 1
  have hl4 : bj < w4.heap.size := HJ4.out.lt
  have hl5 : bj + 1 < w4.heap.size := HT4.out.lt
  go_wp2_with fail
  have HK5 : Hid (Keeps [] w ((((w4.setCell ⟨bj, 1, none⟩ (.int .i64 9)).setCell ⟨bj, 2, none⟩ (.slice (some ⟨w4.heap.size, 0, none⟩) 2 2)).alloc (.cells #[.string ⟨#[120]⟩, .string ⟨#[121]⟩] 9)).alloc (.cells #[.slice A t.cols.length c, .slice B t.rows.length d] 25))) := Lib.hid ((((HK4.out.setCell (.inr HLB.out) _).setCell (.inr HLB.out) _).alloc _).alloc _)
  have HJ5 := Lib.hid (((((HJ4.out.set 1 (.int .i64 9)).set 2 (.slice (some ⟨w4.heap.size, 0, none⟩) 2 2)).alloc (.cells #[.string ⟨#[120]⟩, .string ⟨#[121]⟩] 9)).alloc (.cells #[.slice A t.cols.length c, .slice B t.rows.length d] 25)).congr (cs' := #[.int .i64 at_, .int .i64 9, .slice (some ⟨w4.heap.size, 0, none⟩) 2 2, .slice Ai ni ci, .slice Ac nc cc, .string (bs op), .string (bs lc), .int .i64 lk, .int .i64 ln, .string (bs lw), .string (bs rc), .int .i64 rk, .int .i64 rn, .string (bs rw'), .int .i64 retry]) rfl)
  have HT5 := Lib.hid ((((HT4.out.far (p := ⟨bj, 1, none⟩) (by simp) (.int .i64 9)).far (p := ⟨bj, 2, none⟩) (by simp) (.slice (some ⟨w4.heap.size, 0, none⟩) 2 2)).alloc (.cells #[.string ⟨#[120]⟩, .string ⟨#[121]⟩] 9)).alloc (.cells #[.slice A t.cols.length c, .slice B t.rows.length d] 25))
  have HX5 := Lib.hid ((Blk.new ((w4.setCell ⟨bj, 1, none⟩ (.int .i64 9)).setCell ⟨bj, 2, none⟩ (.slice (some ⟨w4.heap.size, 0, none⟩) 2 2)) 9 #[.string ⟨#[120]⟩, .string ⟨#[121]⟩]).alloc (.cells #[.slice A t.cols.length c, .slice B t.rows.length d] 25))
  have HA5 := Lib.hid (Blk.new (((w4.setCell ⟨bj, 1, none⟩ (.int .i64 9)).setCell ⟨bj, 2, none⟩ (.slice (some ⟨w4.heap.size, 0, none⟩) 2 2)).alloc (.cells #[.string ⟨#[120]⟩, .string ⟨#[121]⟩] 9)) 25 #[.slice A t.cols.length c, .slice B t.rows.length d])
  rw [size_set, size_set] at HX5
  rw [size_alloc, size_set, size_set] at HA5
  obtain ⟨w5, hw5⟩ : ∃ w5, ((((w4.setCell ⟨bj, 1, none⟩ (.int .i64 9)).setCell ⟨bj, 2, none⟩ (.slice (some ⟨w4.heap.size, 0, none⟩) 2 2)).alloc (.cells #[.string ⟨#[120]⟩, .string ⟨#[121]⟩] 9)).alloc (.cells #[.slice A t.cols.length c, .slice B t.rows.length d] 25)) = w5 := ⟨_, rfl⟩
  rw [hw5] at HK5 HJ5 HT5 HX5 HA5 ⊢
  have HDW := Lib.hid (HD9'.out w5 HK5.out (some ⟨w4.heap.size, 0, none⟩) (some ⟨w4.heap.size + 1, 0, none⟩) 1 (rd_blk HX5.out _ rfl) (rdTbs_blk HA5.out (HIN.out.1.quiet HK5.out)))
  obtain ⟨gx, hgx⟩ : ∃ g, w4.heap.size = g := ⟨_, rfl⟩
  rw [hgx] at HJ5 HDW ⊢
  clear hw5 hgx y0 y1 y2 y3 y4 y5 y6 y7 y8 y9 y10 y11 y12 y13 y14 f1 f2 c0 c1 hl4 hl5 HX5 HA5 HD9' HJ4 HT4 HK4
  obtain ⟨y, n, e9, eF, eN, hlen⟩ := HLAW.out
  subst e9 eF eN
  clear HLAW
  have HDE : Hid (Calls Tryz.prog 18 #[.agg #[.int .i64 at_, .int .i64 9, .slice (some ⟨gx, 0, none⟩) 2 2, .slice Ai ni ci, .slice Ac nc cc, .string (bs op), .string (bs lc), .int .i64 lk, .int .i64 ln, .string (bs lw), .string (bs rc), .int .i64 rk, .int .i64 rn, .string (bs rw'), .int .i64 retry], .slice (some ⟨gx + 1, 0, none⟩) 1 1] w5 fun e w' => (∃ B d, e = .returned (.tuple #[.slice B 2 d, .nilIface]) ∧ 2 ≤ d ∧ RdTbs w' B [y, n]) ∧ Keeps [] w5 w') := HDW
  clear HDW
  with_reducible refine HDE.out.mono ?_
  rintro e w6 ⟨⟨B9, d9, rfl, hd9, hr9⟩, hk6⟩
-- B
  have HK6 := Lib.hid (HK5.out.trans hk6)
  have HJ6 := Lib.hid (HJ5.out.keep hk6 (by simp))
  have HT6 := Lib.hid (HT5.out.keep hk6 (by simp))
  have HR9 := Lib.hid hr9
  clear hr9 hd9
  clear hk6 HDE HJ5 HT5 HK5
  obtain ⟨y0, y1, y2, y3, y4, y5, y6, y7, y8, y9, y10, y11, y12, y13, y14⟩ := box15 HJ6.out
  have f1 := HJ6.out.frozen 1
  have c0 : w6.cell? ⟨bj + 1, 0, none⟩ = some (.slice A t.cols.length c) := HT6.out.cell 0
  have c1 : w6.cell? ⟨bj + 1, 1, none⟩ = some (.slice B t.rows.length d) := HT6.out.cell 1
  have hl4 : bj < w6.heap.size := HJ6.out.lt
  have hl5 : bj + 1 < w6.heap.size := HT6.out.lt
  go_wp2_with fail
  have HK7 : Hid (Keeps [] w ((w6.setCell ⟨bj, 1, none⟩ (.int .i64 1)).alloc (.cells #[.slice A t.cols.length c, .slice B t.rows.length d] 25))) := Lib.hid ((HK6.out.setCell (.inr HLB.out) _).alloc _)
  have HJ7 := Lib.hid (((HJ6.out.set 1 (.int .i64 1)).alloc (.cells #[.slice A t.cols.length c, .slice B t.rows.length d] 25)).congr (cs' := #[.int .i64 at_, .int .i64 1, .slice (some ⟨gx, 0, none⟩) 2 2, .slice Ai ni ci, .slice Ac nc cc, .string (bs op), .string (bs lc), .int .i64 lk, .int .i64 ln, .string (bs lw), .string (bs rc), .int .i64 rk, .int .i64 rn, .string (bs rw'), .int .i64 retry]) rfl)
  have HT7 := Lib.hid ((HT6.out.far (p := ⟨bj, 1, none⟩) (by simp) (.int .i64 1)).alloc (.cells #[.slice A t.cols.length c, .slice B t.rows.length d] 25))
  have HA7 := Lib.hid (Blk.new (w6.setCell ⟨bj, 1, none⟩ (.int .i64 1)) 25 #[.slice A t.cols.length c, .slice B t.rows.length d])
  rw [size_set] at HA7
  have HR7 := Lib.hid ((HR9.out.job (k := 1) (v := .int .i64 1) (JobBox.of HJ6.out) (.inl rfl)).keep ((Keeps.refl [] _).alloc (.cells #[.slice A t.cols.length c, .slice B t.rows.length d] 25)))
  obtain ⟨w7, hw7⟩ : ∃ w7, ((w6.setCell ⟨bj, 1, none⟩ (.int .i64 1)).alloc (.cells #[.slice A t.cols.length c, .slice B t.rows.length d] 25)) = w7 := ⟨_, rfl⟩
  rw [hw7] at HK7 HJ7 HT7 HA7 HR7 ⊢
  have HOW := Lib.hid (HOF'.out w7 HK7.out (some ⟨gx, 0, none⟩) (some ⟨w6.heap.size, 0, none⟩) 1 (rdTbs_blk HA7.out (HIN.out.1.quiet HK7.out)))
  obtain ⟨g6, hg6⟩ : ∃ g, w6.heap.size = g := ⟨_, rfl⟩
  rw [hg6] at HOW ⊢
  clear hw7 hg6 y0 y1 y2 y3 y4 y5 y6 y7 y8 y9 y10 y11 y12 y13 y14 f1 c0 c1 hl4 hl5 HA7 HOF' HJ6 HT6 HK6
  clear HR9
  have HOE : Hid (Calls Tryz.prog 11 #[.agg #[.int .i64 at_, .int .i64 1, .slice (some ⟨gx, 0, none⟩) 2 2, .slice Ai ni ci, .slice Ac nc cc, .string (bs op), .string (bs lc), .int .i64 lk, .int .i64 ln, .string (bs lw), .string (bs rc), .int .i64 rk, .int .i64 rn, .string (bs rw'), .int .i64 retry], .slice (some ⟨g6, 0, none⟩) 1 1] w7 fun e w' => (∃ A1 e1 A2 e2, e = .returned (.tuple #[.agg #[.slice A1 y.cols.length e1, .slice A2 y.rows.length e2], .bool true]) ∧ TbIs w' (.slice A1 y.cols.length e1, .slice A2 y.rows.length e2) y) ∧ Keeps [] w7 w') := HOW
  clear HOW
  with_reducible refine HOE.out.mono ?_
  rintro e w8 ⟨⟨A1, e1, A2, e2, rfl, hti⟩, hk8⟩
  have HK8 := Lib.hid (HK7.out.trans hk8)
  have HJ8 := Lib.hid ((HJ7.out.keep hk8 (by simp)).alloc (.cells #[.slice A1 y.cols.length e1, .slice A2 y.rows.length e2] 25))
  have HT8 := Lib.hid ((HT7.out.keep hk8 (by simp)).alloc (.cells #[.slice A1 y.cols.length e1, .slice A2 y.rows.length e2] 25))
  have HY8 := Lib.hid (Blk.new w8 25 #[.slice A1 y.cols.length e1, .slice A2 y.rows.length e2])
  have HR8 := Lib.hid ((HR7.out.keep hk8).keep ((Keeps.refl [] w8).alloc (.cells #[.slice A1 y.cols.length e1, .slice A2 y.rows.length e2] 25)))
  have HTI := Lib.hid (hti.keep ((Keeps.refl [] w8).alloc (.cells #[.slice A1 y.cols.length e1, .slice A2 y.rows.length e2] 25)))
  clear hti HR7
  have HK8' := Lib.hid (HK8.out.alloc (.cells #[.slice A1 y.cols.length e1, .slice A2 y.rows.length e2] 25))
  obtain ⟨m1, m2, m3, m4, m5, m6, r1, r2, r3, r4, r5, r6, hkm, hlook⟩ := opp_laid (w8.alloc (.cells #[.slice A1 y.cols.length e1, .slice A2 y.rows.length e2] 25))
  rw [size_alloc] at r1 r2 r3 r4 r5 r6 hlook
  have q1 : (Instr.mapUpdate 50 (.map (some (w8.heap.size + 1))) (.string ⟨#[61]⟩) (.string ⟨#[60, 62]⟩)).run Tryz.prog ((w8.alloc (.cells #[.slice A1 y.cols.length e1, .slice A2 y.rows.length e2] 25)).alloc (.map #[] 0)) = .ok () m1 := r1
  have q2 : (Instr.mapUpdate 50 (.map (some (w8.heap.size + 1))) (.string ⟨#[60, 62]⟩) (.string ⟨#[61]⟩)).run Tryz.prog m1 = .ok () m2 := r2
  have q3 : (Instr.mapUpdate 50 (.map (some (w8.heap.size + 1))) (.string ⟨#[60]⟩) (.string ⟨#[62, 61]⟩)).run Tryz.prog m2 = .ok () m3 := r3
  have q4 : (Instr.mapUpdate 50 (.map (some (w8.heap.size + 1))) (.string ⟨#[62, 61]⟩) (.string ⟨#[60]⟩)).run Tryz.prog m3 = .ok () m4 := r4
  have q5 : (Instr.mapUpdate 50 (.map (some (w8.heap.size + 1))) (.string ⟨#[62]⟩) (.string ⟨#[60, 61]⟩)).run Tryz.prog m4 = .ok () m5 := r5
  have q6 : (Instr.mapUpdate 50 (.map (some (w8.heap.size + 1))) (.string ⟨#[60, 61]⟩) (.string ⟨#[62]⟩)).run Tryz.prog m5 = .ok () m6 := r6
  have ql := hlook op (Nat.le_trans hso (by decide))
  have HK9 := Lib.hid (HK8'.out.trans hkm)
  have HJ9 := Lib.hid (HJ8.out.keep hkm (by simp))
  have HT9 := Lib.hid (HT8.out.keep hkm (by simp))
  have HY9 := Lib.hid (HY8.out.keep hkm (by simp))
  have HR9 := Lib.hid (HR8.out.keep hkm)
  have HTI9 := Lib.hid (HTI.out.keep hkm)
  clear HR8 HTI
  have HML := Lib.hid (show w8.heap.size < m6.heap.size by have := hkm.size; rw [size_alloc] at this; omega)
  clear hk8 HOE HJ7 HT7 HK7 r1 r2 r3 r4 r5 r6 hlook hkm HJ8 HT8 HY8 HK8 HK8'
  obtain ⟨y0, y1, y2, y3, y4, y5, y6, y7, y8, y9, y10, y11, y12, y13, y14⟩ := box15 HJ9.out
  have f5 := HJ9.out.frozen 5
  have c0 : m6.cell? ⟨bj + 1, 0, none⟩ = some (.slice A t.cols.length c) := HT9.out.cell 0
  have c1 : m6.cell? ⟨bj + 1, 1, none⟩ = some (.slice B t.rows.length d) := HT9.out.cell 1
  have hl4 : bj < m6.heap.size := HJ9.out.lt
  have hl5 : bj + 1 < m6.heap.size := HT9.out.lt
  have hmm := @run_makeMap Tryz.prog
  go_wp2_with fail
  clear hmm q1 q2 q3 q4 q5 q6 ql
  have HKX : Hid (Keeps [] w ((m6.setCell ⟨bj, 5, none⟩ (.string (bs (oppB op)))).alloc (.cells #[.slice A t.cols.length c, .slice B t.rows.length d] 25))) := Lib.hid ((HK9.out.setCell (.inr HLB.out) _).alloc _)
  have HTX := Lib.hid ((HT9.out.far (p := ⟨bj, 5, none⟩) (by simp) (.string (bs (oppB op)))).alloc (.cells #[.slice A t.cols.length c, .slice B t.rows.length d] 25))
  have HYX := Lib.hid ((HY9.out.far (p := ⟨bj, 5, none⟩) (HY9.out.ne HJ9.out (by decide)) (.string (bs (oppB op)))).alloc (.cells #[.slice A t.cols.length c, .slice B t.rows.length d] 25))
  have HAX := Lib.hid (Blk.new (m6.setCell ⟨bj, 5, none⟩ (.string (bs (oppB op)))) 25 #[.slice A t.cols.length c, .slice B t.rows.length d])
  rw [size_set] at HAX
  have HRX := Lib.hid ((HR9.out.job (k := 5) (v := .string (bs (oppB op))) (JobBox.of HJ9.out) (.inr rfl)).keep ((Keeps.refl [] _).alloc (.cells #[.slice A t.cols.length c, .slice B t.rows.length d] 25)))
  have HTIX := Lib.hid ((HTI9.out.job (k := 5) (v := .string (bs (oppB op))) (JobBox.of HJ9.out) (.inr rfl)).keep ((Keeps.refl [] _).alloc (.cells #[.slice A t.cols.length c, .slice B t.rows.length d] 25)))
  clear HR9 HTI9
  obtain ⟨wX, hwX⟩ : ∃ wX, ((m6.setCell ⟨bj, 5, none⟩ (.string (bs (oppB op)))).alloc (.cells #[.slice A t.cols.length c, .slice B t.rows.length d] 25)) = wX := ⟨_, rfl⟩
  rw [hwX] at HKX HTX HYX HAX HRX HTIX ⊢
  have HOW := Lib.hid (HON'.out wX HKX.out (some ⟨gx, 0, none⟩) (some ⟨m6.heap.size, 0, none⟩) 1 (rdTbs_blk HAX.out (HIN.out.1.quiet HKX.out)))
  obtain ⟨g9, hg9⟩ : ∃ g, m6.heap.size = g := ⟨_, rfl⟩
  rw [hg9] at HOW ⊢
  obtain ⟨g8, hg8⟩ : ∃ g, w8.heap.size = g := ⟨_, rfl⟩
  rw [hg8] at HYX ⊢
  clear hwX hg8 hg9 HML y0 y1 y2 y3 y4 y5 y6 y7 y8 y9 y10 y11 y12 y13 y14 f5 c0 c1 hl4 hl5 HAX HON' HJ9 HT9 HY9 HK9
  have HOE : Hid (Calls Tryz.prog 11 #[.agg #[.int .i64 at_, .int .i64 1, .slice (some ⟨gx, 0, none⟩) 2 2, .slice Ai ni ci, .slice Ac nc cc, .string (bs (oppB op)), .string (bs lc), .int .i64 lk, .int .i64 ln, .string (bs lw), .string (bs rc), .int .i64 rk, .int .i64 rn, .string (bs rw'), .int .i64 retry], .slice (some ⟨g9, 0, none⟩) 1 1] wX fun e w' => (∃ A3 e3 A4 e4, e = .returned (.tuple #[.agg #[.slice A3 n.cols.length e3, .slice A4 n.rows.length e4], .bool true]) ∧ TbIs w' (.slice A3 n.cols.length e3, .slice A4 n.rows.length e4) n) ∧ Keeps [] wX w') := HOW
  clear HOW
  with_reducible refine HOE.out.mono ?_
  rintro e wY ⟨⟨A3, e3, A4, e4, rfl, htj⟩, hkY⟩
  have HKY := Lib.hid ((HKX.out.trans hkY).alloc (.cells #[.slice A3 n.cols.length e3, .slice A4 n.rows.length e4] 25))
  have kY := (Keeps.refl [] wY).alloc (.cells #[.slice A3 n.cols.length e3, .slice A4 n.rows.length e4] 25)
  have HTY := Lib.hid ((HTX.out.keep hkY (by simp)).keep kY (by simp))
  have HYY := Lib.hid ((HYX.out.keep hkY (by simp)).keep kY (by simp))
  have HNY := Lib.hid (Blk.new wY 25 #[.slice A3 n.cols.length e3, .slice A4 n.rows.length e4])
  have HRY := Lib.hid ((HRX.out.keep hkY).keep kY)
  have HTIY := Lib.hid ((HTIX.out.keep hkY).keep kY)
  have HTJY := Lib.hid (htj.keep kY)
  clear HOE hkY kY htj HTX HYX HRX HTIX HKX
  go_wp2
  obtain ⟨wZ, hwZ⟩ : ∃ wZ, wY.alloc (.cells #[.slice A3 n.cols.length e3, .slice A4 n.rows.length e4] 25) = wZ := ⟨_, rfl⟩
  rw [hwZ] at HKY HTY HYY HNY HRY HTIY HTJY ⊢
  obtain ⟨gn, hgn⟩ : ∃ g, wY.heap.size = g := ⟨_, rfl⟩
  rw [hgn] at HNY ⊢
  clear hwZ hgn
  obtain ⟨b9, o9, Aa, ca, Ab, cb, hB9, l0, l1, tl0⟩ := HRY.out.get (k := 0) (by simp) rfl
  obtain ⟨b9', o9', Ac', cc', Ad, cd, hB9', l2, l3, tl1⟩ := HRY.out.get (k := 1) (by simp) rfl
  rw [hB9] at hB9'
  injection hB9' with hB9'
  injection hB9' with hb9 ho9 _
  subst hb9 ho9 hB9
  simp only [Nat.zero_mul, Nat.one_mul, Nat.add_zero] at l0 l1 l2 l3
  have HS1 : Hid (∀ W, Keeps [] wZ W → Calls Tryz.prog 19 #[.agg #[.slice Aa y.cols.length ca, .slice Ab y.rows.length cb], .agg #[.slice A1 y.cols.length e1, .slice A2 y.rows.length e2]] W fun e W' => e = .returned (.bool true) ∧ Keeps [] W W') := Lib.hid fun W q => by
    have h := same_any y y Aa Ab A1 A2 ca cb e1 e2 W ((tl0.rd (HBF.out y rfl)).quiet q) ((HTIY.out.rd (HBF.out y rfl)).quiet q)
    rw [decide_eq_true rfl] at h
    exact h
  have HS2 : Hid (∀ W, Keeps [] wZ W → Calls Tryz.prog 19 #[.agg #[.slice Ac' n.cols.length cc', .slice Ad n.rows.length cd], .agg #[.slice A3 n.cols.length e3, .slice A4 n.rows.length e4]] W fun e W' => e = .returned (.bool true) ∧ Keeps [] W W') := Lib.hid fun W q => by
    have h := same_any n n Ac' Ad A3 A4 cc' cd e3 e4 W ((tl1.rd (HBN.out n rfl)).quiet q) ((HTJY.out.rd (HBN.out n rfl)).quiet q)
    rw [decide_eq_true rfl] at h
    exact h
  have a0 : wZ.cell? ⟨g8, 0, none⟩ = some (.slice A1 y.cols.length e1) := HYY.out.cell 0
  have a1 : wZ.cell? ⟨g8, 1, none⟩ = some (.slice A2 y.rows.length e2) := HYY.out.cell 1
  have a2 : wZ.cell? ⟨gn, 0, none⟩ = some (.slice A3 n.cols.length e3) := HNY.out.cell 0
  have a3 : wZ.cell? ⟨gn, 1, none⟩ = some (.slice A4 n.rows.length e4) := HNY.out.cell 1
  have a4 : wZ.cell? ⟨bj + 1, 0, none⟩ = some (.slice A t.cols.length c) := HTY.out.cell 0
  have a5 : wZ.cell? ⟨bj + 1, 1, none⟩ = some (.slice B t.rows.length d) := HTY.out.cell 1
  have z0 : b9 < wZ.heap.size := World.block_lt_of_cell? _ _ l0
  have z1 := HYY.out.lt
  have z2 := HNY.out.lt
  have z3 := HTY.out.lt
  have hle0 : y.rows.length ≤ 4294967296 := (HBF.out y rfl).lm
  have hle1 : n.rows.length ≤ 4294967296 := (HBN.out n rfl).lm
  have hsum : IntKind.i64.wrap ((y.rows.length : Int) + (n.rows.length : Int)) = (t.rows.length : Int) := by
    rw [IntWalk.i64_in _ (by omega)]
    omega
  have HBY := Lib.hid hlen
  clear hlen tl0 tl1 hle0 hle1
  refine wp_region_keeps (by kernel_rfl) (by kernel_rfl) ?_
  repeat (go_big_quiet_step (first | with_reducible exact KW.of HS1.out _ | with_reducible exact KW.of HS2.out _))
  refine wpQuiet_nil ?_
  intro wx kx
  clear a0 a1 a2 a3 a4 a5 l0 l1 l2 l3 z0 z1 z2 z3
  go_wp2
  go_ret
  exact ⟨rfl, HKY.out.trans kx⟩
theorem osplit_all (j : Jb) (Ao : Option Addr) (co : Nat) (Ai : Option Addr) (ni ci : Nat) (Ac : Option Addr) (cc : Nat) (t : Tb) (A B : Option Addr) (c d : Nat) (w : World) (hJ : JobAny w j Ao co Ac cc) (hT : TabAny w t A B c d) (hE : OEnv w) :
    Calls Tryz.prog 4 #[jAgg j Ao co Ai ni ci Ac cc, tAgg A t.cols.length c B t.rows.length d] w fun e w' => e = .returned (.bool true) ∧ Keeps [] w w' := by
  cases hsh : shortB j with
  | false => exact osplit_0 j Ao co Ai ni ci Ac cc t A B c d w hJ hT hE hsh
  | true =>
    cases hsm : smallB t with
    | false => exact osplit_1 j Ao co Ai ni ci Ac cc t A B c d w hJ hT hE hsh hsm
    | true =>
      rcases split_law j t with h | h
      · exact osplit_A j Ao co Ai ni ci Ac cc t A B c d w hJ hT hE hsh hsm h
      · exact osplit_B j Ao co Ai ni ci Ac cc t A B c d w hJ hT hE hsh hsm h
end Go.Proofs.YtomgnjgaafnkiaaGreatDoor
namespace Go.Proofs.YtomgnjgaafnkiaaGreatDoor
open Go.RowKit Go.Shelf Go.ChangeShapes Go.WideShapes
/-- A row's wrap: the condition and the world's shape, both handed to the contract. -/
theorem returns_shaped {H : Type} {enc : TypeId × Value → H} {a : Assume} {C : Checked} {os : Os} {f : FuncId} {fn : Func} {s : ChangeSpec} {conds : List PathCond} {apart fresh handsOn again : Bool} {X : World → Array Value → Prop}
    (hX : ∀ (w w' : World) (args : Array Value), w.heap = w'.heap → X w args → X w' args)
    (own : ownKnob C.prog.godebug = none) (started : os.Started) (noInit : C.prog.inits.idxOf? f = none) (hfn : C.prog.funcs[f]? = some fn)
    (witness : ∃ (w : World) (tape : Tape) (i : Input), w.os = os ∧ (w.forCall tape i).Shaped C.prog ∧ i.vars = [] ∧ Input.okWide C.prog (w.forCall tape i) .any w.heap.size f i ∧
      ((s.pre enc C.prog fn conds apart (w.forCall tape i).memory i.args ∧ X (w.forCall tape i).memory i.args) ∧ sizedMet enc C.prog fn (OpenSpec.ofChange s) apart (w.forCall tape i).memory i.args) ∧ a.holds C.prog (lone (Frame.enter C.prog f i.args .normal) [] (w.forCall tape i)))
    (contract : ∀ (W : World) (base : Nat) (args : Array Value) (ds gs : List (DataW H)) (before : List MemPlace),
      (∀ (j : Nat) t v, fn.params[j]? = some t → args[j]? = some v → Value.okWide C.prog W .any base t v) →
      DataW.Whole enc C.prog fn.params.toList s.vars apart W args.toList ds gs before → X W args → W.ShapedOpen C.prog →
      Calls C.prog f args W fun e W' => ∃ v, e = .returned v ∧ s.post enc C.prog fn apart fresh handsOn again W args v W') :
    ReturnsInHanded a C os f .any (fun w args => (s.pre enc C.prog fn conds apart w args ∧ X w args) ∧ sizedMet enc C.prog fn (OpenSpec.ofChange s) apart w args) (s.post enc C.prog fn apart fresh handsOn again) := by
  refine returnsInHanded_of_calls own started noInit witness ?_
  intro w tape i _ hsh _ hok hpre _
  obtain ⟨_, _, _, fn', hfn', _, _, _, _, hval⟩ := hok
  obtain rfl : fn' = fn := Option.some.inj (hfn'.symm.trans hfn)
  obtain ⟨⟨⟨ds, gs, before, hw, _⟩, hx⟩, _⟩ := hpre
  have hw' := DataW.Whole.of_heap (w' := w.forCall tape i) (by rfl) hw
  refine (contract (w.forCall tape i) w.heap.size i.args ds gs before hval hw' (hX _ _ _ (by rfl) hx) hsh).mono fun e W' ⟨v, he, hp⟩ => ?_
  subst he
  exact ChangeSpec.post_blind hp
theorem one_of {P : Program} {W : World} {laid : List (String × DataW Unit)} (nm : String) (d : DataW Unit) (hf : laid.filter (fun x => x.1 == nm) = [(nm, d)]) (h : laidMet P laid W) : laidMet P [(nm, d)] W := hf ▸ h.filter fun x => x.1 == nm
/-- An array of strings that reads as texts holds them, cell for cell. -/
theorem cells_of_strs {H : Type} {enc : TypeId × Value → H} {P : Program} {w : World} {base : Nat} {sp : Nat → Bool} {held : Bool} {fuel : Nat} {t e : TypeId} {n : Nat} {cs : List Value} {zs : List Bs} {p : List MemPlace}
    (ht : P.underlying t = some (.array n e)) (he : P.underlying e = some .string) (hce : P.cellsOf e = 1) (hct : P.cellsOf t = n)
    (h : DataW.trod enc P w base sp held fuel t cs = some (.agg (zs.map fun z => .lit (.string z)), p)) : cs = zs.map fun z => Value.string (bs z) := by
  cases fuel with
  | zero => simp [DataW.trod] at h
  | succ fuel =>
    simp only [DataW.trod, ht, hce, hct, Nat.mul_one] at h
    split at h
    · rename_i hl
      obtain ⟨xs, hm, hx⟩ := Option.map_eq_some_iff.1 h
      have hxs : xs.map (·.1) = zs.map fun z => (DataW.lit (.string z) : DataW H) := by
        have := congrArg Prod.fst hx
        simpa using this
      have hxl : xs.length = n := by simpa using Lib.mapM_length hm
      have hzl : zs.length = n := by
        have := congrArg List.length hxs
        simp at this
        omega
      apply List.ext_getElem?
      intro i
      by_cases hi : i < n
      · obtain ⟨b, hb, hf⟩ := Lib.mapM_at hm i i (by simp [hi])
        obtain ⟨s, hc, rfl, _⟩ := DataW.trod_string he hf
        have h1 : cs[i]? = some (.string s) := by
          have := congrArg (·[0]?) hc
          simpa [List.getElem?_take, List.getElem?_drop] using this
        have h2 : (xs.map (·.1))[i]? = some (DataW.lit (.string s.data.toList) : DataW H) := by simp [hb]
        rw [hxs] at h2
        simp only [List.getElem?_map, Option.map_eq_some_iff, DataW.lit.injEq, Lit.string.injEq] at h2
        obtain ⟨z', hz', rfl⟩ := h2
        simp [h1, hz', bs_data]
      · rw [List.getElem?_eq_none (by omega), List.getElem?_eq_none (by simp; omega)]
    · cases h
/-- A variable that holds an error. -/
theorem iface_at {P : Program} {W : World} {nm : String} {g : Nat} {t : TypeId} {ms : Array (String × TypeId)} {name : String} {d : DataW Unit} (hg : P.globalNamed nm = some g) (hty : (P.globals[g]?).map (·.type) = some t) (ht : P.underlying t = some (.interface ms))
    (h : laidMet P [(nm, .iface name d)] W) : ∃ u v, W.cell? ⟨g, 0, none⟩ = some (.iface u v) := by
  obtain ⟨ps, ⟨g', t', cs, fuel, p, q, hg', ht', hvar, hd, _, _⟩, _⟩ := h
  obtain rfl := Option.some.inj (hg.symm.trans hg')
  obtain rfl := Option.some.inj (hty.symm.trans ht')
  obtain ⟨_, u, v, hc, _, _⟩ := iface_of_trod ht hd
  refine ⟨u, v, ?_⟩
  rw [World.var?_cell hg hvar 0]
  have : cs = #[.iface u v] := by rw [← hc]
  rw [this]
  rfl
/-- A flat datum's cells. -/
def litCells : DataW Unit → Array Value
  | .agg l => (l.map fun
    | .lit (.int k z) => Value.int k z
    | .lit (.string s) => Value.string (bs s)
    | _ => undef).toArray
  | _ => #[]
/-- The table of first bytes, laid in a world. -/
def withFirst (w0 : World) : World :=
  { w0 with heap := w0.heap.modify 5 fun
      | .cells _ t fz => .cells (litCells Go.Pinned.utf8First) t fz
      | o => o }
noncomputable def doorWorld (os : Os) : World := withFirst (World.doorLaid Tryz.prog 400 os)
theorem En.p10g : Tryz.prog.globalNamed "internal/strconv.uint64pow10" = some 7 := by kernel_rfl
theorem En.p10t : (Tryz.prog.globals[7]?).map (·.type) = some 201 := by kernel_rfl
theorem En.kg : Tryz.prog.globalNamed "foreman/table.kinds" = some 0 := by kernel_rfl
theorem En.kt : (Tryz.prog.globals[0]?).map (·.type) = some 95 := by kernel_rfl
theorem En.sg : Tryz.prog.globalNamed "strconv.ErrSyntax" = some 3 := by kernel_rfl
theorem En.st : (Tryz.prog.globals[3]?).map (·.type) = some 47 := by kernel_rfl
theorem En.rg : Tryz.prog.globalNamed "strconv.ErrRange" = some 4 := by kernel_rfl
theorem En.rt : (Tryz.prog.globals[4]?).map (·.type) = some 47 := by kernel_rfl
theorem tenv_of {laid : List (String × DataW Unit)} {W : World}
    (h1 : laid.filter (fun x => x.1 == "internal/strconv.uint64pow10") = [("internal/strconv.uint64pow10", Rows.laid_internal_strconv_uint64pow10)])
    (h2 : laid.filter (fun x => x.1 == "foreman/table.kinds") = [("foreman/table.kinds", Rows.laid_foreman_table_kinds)])
    (h3 : laid.filter (fun x => x.1 == "strconv.ErrSyntax") = [("strconv.ErrSyntax", Rows.laid_strconv_ErrSyntax)])
    (h4 : laid.filter (fun x => x.1 == "strconv.ErrRange") = [("strconv.ErrRange", Rows.laid_strconv_ErrRange)])
    (h : laidMet Tryz.prog laid W) (hs : W.ShapedOpen Tryz.prog) : TEnv W := by
  refine ⟨?_, ?_, ?_, iface_at En.sg En.st Tryz.underlying47 (one_of _ _ h3 h), iface_at En.rg En.rt Tryz.underlying47 (one_of _ _ h4 h)⟩
  · have e : (Rows.laid_internal_strconv_uint64pow10 : DataW Unit) = Lib.tabData .u64 Lib.pow10Tab := by kernel_rfl
    have h' := one_of _ _ h1 h
    rw [e] at h'
    exact Lib.tabIs_of_head En.p10g En.p10t Tryz.underlying201 Tryz.underlying171 (by kernel_rfl) (by kernel_rfl) h'
  · have e : (Rows.laid_foreman_table_kinds : DataW Unit) = .agg ([[], [105, 110, 116], [116, 101, 120, 116]].map fun z => .lit (.string z)) := by kernel_rfl
    have h' := one_of _ _ h2 h
    rw [e] at h'
    obtain ⟨ps, ⟨g', t', cs, fuel, p, q, hg', ht', hvar, hd, _, _⟩, _⟩ := h'
    obtain rfl := Option.some.inj (En.kg.symm.trans hg')
    obtain rfl := Option.some.inj (En.kt.symm.trans ht')
    have hc := cells_of_strs Tryz.underlying95 Tryz.underlying9 (by kernel_rfl) (by kernel_rfl) hd
    intro j hj
    rw [World.var?_cell En.kg hvar j, ← Array.getElem?_toList, hc]
    rcases j with _ | _ | _ | j
    · rfl
    · rfl
    · rfl
    · omega
  · exact Go.Proofs.cell_of_shapedOpen_int (t := 3) (zero := #[.int .i64 0]) hs (of_decide_eq_true (by kernel_rfl)) (by kernel_rfl) rfl (by kernel_rfl) (by kernel_rfl) Tryz.underlying3
end Go.Proofs.YtomgnjgaafnkiaaGreatDoor
