/- Read: it goes through the writes backwards, by a function that is ranged over. -/
import Derived.RangeFuncNested
import Derived.RangeFuncBound
import Derived.RangeFuncCalls
import Derived.RangeFuncLeaves
import Derived.RangeFuncBox
import Derived.Shelf.Abstract
import Derived.OwnWalkIn
import Derived.TacticsInMore
import Derived.LoopNIn
import Derived.LoopIn
import Derived.Test.YtelafmakgokhbaaDoorDisk
namespace Go.Proofs.YtelafmakgokhbaaDoor
open Go.RowKit Go.Shelf
attribute [local go_sem] Oper.semAt_some
attribute [local go_sem] bs_size bs_extract bs_append bs_toList

/-- The first k of f 0, f 1, .. -/
def upto {α : Type} (f : Nat → α) (k : Nat) : List α := (List.range k).map f
theorem upto_succ {α : Type} (f : Nat → α) (k : Nat) : upto f (k + 1) = upto f k ++ [f k] := by simp [upto, List.range_succ]
theorem upto_length {α : Type} (f : Nat → α) (k : Nat) : (upto f k).length = k := by simp [upto]

/-- What Backward hands out k-th: an index, and the write there. -/
def backOf (ws : List (Nat × Bs)) (k : Nat) : Nat × (Nat × Bs) := (ws.length - 1 - k, ws[ws.length - 1 - k]?.getD (0, []))
def backEnc (x : Nat × (Nat × Bs)) : Array Value := #[.int .i64 (x.1 : Int), .agg #[.int .i64 (x.2.1 : Int), .string (bs x.2.2)]]

/-- The slice value is the row of the writes, below block n₀. -/
def WaitIn (n₀ : Nat) (W : World) (A : Option Addr) (ws : List (Nat × Bs)) : Prop :=
  0 < ws.length → ∃ b, A = some ⟨b, 0, none⟩ ∧ b < n₀ ∧ ∀ j u, (waitCells ws)[j]? = some u → W.cell? ⟨b, j, none⟩ = some u

set_option maxRecDepth 100000 in
set_option maxHeartbeats 2000000 in
theorem back1_in (F : Fence) (n : Nat) (h7 : F.fn 39) (hro : F.round = none) (hn : 1 ≤ n) (l Bx n₀ c : Nat) (A : Option Addr) (ws : List (Nat × Bs)) (hlen : ws.length ≤ 4294967296) (J Jx : List (Nat × (Nat × Bs)) → World → Prop)
    (hY : ∀ pre x W, J pre W → pre.length < ws.length → YieldAt F (n - 1) Tryd.prog l (backEnc x) W fun e W' =>
      (e = .returned (.bool true) ∧ J (pre ++ [x]) W' ∧ Below n₀ W W') ∨ (e = .returned (.bool false) ∧ Jx (pre ++ [x]) W'))
    (W : World) (hBx : W.cell? ⟨Bx, 0, none⟩ = some (.slice A ws.length c)) (hBl : Bx < n₀) (hc : WaitIn n₀ W A ws) (h0 : J [] W) :
    CallsIn F n Tryd.prog 39 #[.func (.yield l) #[] #[], .pointer (some ⟨Bx, 0, none⟩)] W fun e W' => (∃ v, e = .returned v) ∧
      ((∃ ys, ys = upto (backOf ws) ws.length ∧ J ys W') ∨ (∃ pre, (∃ k, k ≤ ws.length ∧ pre = upto (backOf ws) k) ∧ Jx pre W')) := by
  refine callsIn_of_wp Tryd.func39 rfl h7 ?_ hro
  simp only [Tryd.ntmps39, List.size_toArray, List.length_cons, List.length_nil, Nat.reduceAdd, Nat.reduceSub, Array.replicate_succ, Array.replicate_zero, List.push_toArray, List.append_toArray, List.nil_append, List.cons_append]
  have HC : Hid (WaitIn n₀ W A ws) := hc
  clear hc
  gi_wp2
  gi_loopw [3] (fun i wr => ∃ k : Nat, k ≤ ws.length ∧ i = .int .i64 ((ws.length : Int) - 1 - (k : Int)) ∧ J (upto (backOf ws) k) wr ∧ Below n₀ W wr)
    (fun i _ => (intOf i + 1).toNat)
  case atStart => exact ⟨0, Nat.zero_le _, by go_num, h0, Below.refl _ _⟩
  case round =>
    obtain ⟨k, hk, rfl, hJs, hnx⟩ := hrel
    have hbx : wr.cell? ⟨Bx, 0, none⟩ = some (.slice A ws.length c) := (hnx.cell (p := ⟨Bx, 0, none⟩) hBl).trans hBx
    clear hBx
    by_cases hlt : k < ws.length
    · obtain ⟨m, hm⟩ : ∃ m, ws.length = m + 1 + k := ⟨ws.length - 1 - k, by omega⟩
      have hq : m < ws.length := by omega
      obtain ⟨b, rfl, hb, hcell⟩ := HC.out (by omega)
      obtain ⟨e1, e2⟩ := waitCells_at ws _ hq
      have d1 := (hnx.cell (p := ⟨b, m * 2, none⟩) hb).trans (hcell _ _ e1)
      have d2 := (hnx.cell (p := ⟨b, m * 2 + 1, none⟩) hb).trans (hcell _ _ e2)
      have hbk : backOf ws k = (m, ws[m]) := by
        unfold backOf
        have : ws.length - 1 - k = m := by omega
        rw [this, List.getElem?_eq_getElem hq]; rfl
      obtain ⟨fn, tmps, assign, body, hy, hR⟩ := hY _ (m, ws[m]) wr hJs (by rw [upto_length]; exact hlt)
      dsimp only [backEnc] at hy
      rw [show (ws.length : Int) - 1 - (k : Int) = (m : Int) by omega]
      have hq' : (m : Int) < (ws.length : Int) := by omega
      have HM := Lib.hid hm
      have HB := Lib.hid hbk
      clear hcell e1 e2 hY hm hbk
      gi_wp2
      refine hR.mono ?_
      rintro e W3 (⟨rfl, hJ3, hk3⟩ | ⟨rfl, hJx3⟩)
      · gi_wp2
        go_roundw
        case rel => exact ⟨k + 1, by omega, by have := HM.out; go_num, by rw [upto_succ, HB.out]; exact hJ3, hnx.trans hk3⟩
        case measure => have := HM.out; simp [intOf] <;> omega
      · gi_wp2
        refine bodyPost_ret (results_none rfl _ _ _) rfl ?_
        exact ⟨⟨_, rfl⟩, .inr ⟨_, ⟨k + 1, by omega, by rw [upto_succ, HB.out]⟩, hJx3⟩⟩
    · have hkn : k = ws.length := by omega
      subst hkn
      rw [show (ws.length : Int) - 1 - (ws.length : Int) = -1 by omega]
      gi_wp2
      go_end0
      exact ⟨⟨_, rfl⟩, .inl ⟨_, rfl, hJs⟩⟩

/-- slices.Backward: the slice value is boxed; the function value captures the box. -/
theorem back_in (F : Fence) (n : Nat) (h5 : F.fn 28) (hro : F.round = none) (a : Option Addr) (len cap : Nat) (w : World) :
    CallsIn F n Tryd.prog 28 #[.slice a len cap] w fun e w' => e = .returned (.func (.func 39) #[] #[.pointer (some ⟨w.heap.size, 0, none⟩)]) ∧ w' = w.alloc (.cells #[.slice a len cap] 48) := by
  refine callsIn_of_wp Tryd.func28 rfl h5 ?_ hro
  simp only [Tryd.ntmps28, List.size_toArray, List.length_cons, List.length_nil, Nat.reduceAdd, Nat.reduceSub, Array.replicate_succ, Array.replicate_zero, List.push_toArray, List.append_toArray, List.nil_append, List.cons_append]
  gi_wp2
  go_ret
  exact ⟨rfl, rfl⟩

theorem WaitIn.below {n₀ : Nat} {A B : World} {a : Option Addr} {ws : List (Nat × Bs)} (h : Below n₀ A B) (k : WaitIn n₀ A a ws) : WaitIn n₀ B a ws := fun hn => by
  obtain ⟨b, e, hb, hc⟩ := k hn
  exact ⟨b, e, hb, fun j u hu => (h.cell (p := ⟨b, j, none⟩) hb).trans (hc j u hu)⟩

theorem back_stops (F : Fence) (n : Nat) (h8 : F.fn 39) (hro : F.round = none) (hn : 1 ≤ n) (Bx n₀ c : Nat) (A : Option Addr) (ws : List (Nat × Bs)) (hlen : ws.length ≤ 4294967296) (w : World) (hBx : Bx < n₀) (hn₀ : n₀ ≤ w.heap.size)
    (hc : w.cell? ⟨Bx, 0, none⟩ = some (.slice A ws.length c)) (hI : WaitIn n₀ w A ws) :
    SeqStopsK F n Tryd.prog 39 #[.pointer (some ⟨Bx, 0, none⟩)] backEnc (Below n₀) (fun ys => ys = upto (backOf ws) ws.length)
      (fun pre => ∃ k, k ≤ ws.length ∧ pre = upto (backOf ws) k) ws.length w := fun l J Jx W hW _ _ hY h0 => by
  have hc' := (hW.cell (p := ⟨Bx, 0, none⟩) (show Bx < _ by omega)).trans hc
  exact back1_in F n h8 hro hn l Bx n₀ c A ws hlen J Jx hY W hc' hBx (hI.below (hW.mono hn₀)) h0

/-- The last write to a sector. -/
def lastWrite (ws : List (Nat × Bs)) (a : Nat) : Option Bs := (ws.reverse.find? fun p => p.1 == a).map (·.2)
def content (s : Bs) : Bs := if s = [] then zeros else s
def Dk.at (D : Dk) (a : Nat) : Bs := match lastWrite D.wait a with | some s => s | none => content (D.sure.getD a [])
def Dk.read (D : Dk) (a : Int) : Nat × Bs := if a < 0 ∨ (D.sure.length : Int) ≤ a then (2, []) else (0, D.at a.toNat)

set_option maxRecDepth 100000 in
theorem read_no (D : Dk) {w : World} {L : List Nat} {g : Nat} (h : Dsk w L g D) (a : Int) (hc : a < 0 ∨ (D.sure.length : Int) ≤ a) :
    Calls Tryd.prog 14 #[.pointer (some ⟨g, 0, none⟩), .int .i64 a] w fun e w' => e = .returned (.tuple #[.string (bs []), errV 2]) ∧ Keeps [] w w' := by
  obtain ⟨gs, v, f0, f1, f2, fz⟩ := h.fields
  have hgl : g < w.heap.size := World.block_lt_of_cell? w ⟨g, 0, none⟩ f0
  have hgl1 : g < w.heap.size + 1 := by omega
  have hgl2 : g < w.heap.size + 1 + 1 := by omega
  by_cases hn : a < 0
  · have hd : decide (a < 0) = true := decide_eq_true hn
    go_enter Tryd.func14, Tryd.ntmps14
    go_wp2
    go_quiet (fail)
    go_wp2
    refine bodyPost_ret (v := .tuple #[.string (bs []), errV 2]) (by simp [results, Tryd.f14, go_sem]; exact ⟨rfl, rfl⟩) rfl ⟨rfl, ?_⟩
    repeat first | exact Keeps.refl _ _ | refine Keeps.drewN ?_ _ | refine Keeps.drew ?_ | refine Keeps.alloc ?_ _ | refine Keeps.setCell ?_ (.inr (by first | exact Nat.le_refl _ | (dsimp only; omega))) _
  · have hd : decide (a < 0) = false := decide_eq_false hn
    have hp : (D.sure.length : Int) ≤ a := by omega
    go_enter Tryd.func14, Tryd.ntmps14
    go_wp2
    go_quiet (fail)
    go_wp2
    refine bodyPost_ret (v := .tuple #[.string (bs []), errV 2]) (by simp [results, Tryd.f14, go_sem]; exact ⟨rfl, rfl⟩) rfl ⟨rfl, ?_⟩
    repeat first | exact Keeps.refl _ _ | refine Keeps.drewN ?_ _ | refine Keeps.drew ?_ | refine Keeps.alloc ?_ _ | refine Keeps.setCell ?_ (.inr (by first | exact Nat.le_refl _ | (dsimp only; omega))) _

theorem boxed_drewN {W : World} {B : Nat} {t : TypeId} {v : Value} (h : Boxed W B t v) (n : Nat) : Boxed (W.drewN n) B t v := h
theorem two_cells {W : World} {p q : Addr} (hpq : p ≠ q) (u v : Value) {u0 v0 : Value} (hp : W.cell? p = some u0) (hq : W.cell? q = some v0) :
    ((W.setCell p u).setCell q v).cell? p = some u ∧ ((W.setCell p u).setCell q v).cell? q = some v := by
  have h1 : (W.setCell p u).cell? p = some u := World.cell?_setCell_same' _ _ _ (by rw [hp]; rfl)
  have h2 : (W.setCell p u).cell? q = some v0 := by rw [World.cell?_setCell_other _ _ _ _ (fun e => hpq (by rw [e]))]; exact hq
  exact ⟨by rw [World.cell?_setCell_other _ _ _ _ (fun e => hpq (by rw [e]))]; exact h1, World.cell?_setCell_same' _ _ _ (by rw [h2]; rfl)⟩
theorem upto_back (ws : List (Nat × Bs)) (k : Nat) (h : k ≤ ws.length) : (upto (backOf ws) k).map (·.2) = ws.reverse.take k := by
  apply List.ext_getElem
  · simp [upto, h]
  · intro i h1 h2
    have hi : i < ws.length := by simp [upto] at h1; omega
    have : ws.length - 1 - i < ws.length := by omega
    simp [upto, backOf, List.getElem_reverse, this]
theorem lastWrite_none {ws : List (Nat × Bs)} {a : Nat} (h : ∀ p ∈ upto (backOf ws) ws.length, p.2.1 ≠ a) : lastWrite ws a = none := by
  have e : ws.reverse = (upto (backOf ws) ws.length).map (·.2) := by rw [upto_back _ _ (Nat.le_refl _), List.take_of_length_le (by simp)]
  unfold lastWrite
  rw [e, List.find?_eq_none.2]
  · rfl
  · intro p hp
    obtain ⟨q, hq, rfl⟩ := List.mem_map.1 hp
    simpa using h q hq
theorem at_none {D : Dk} {a : Nat} (h : ∀ p ∈ upto (backOf D.wait) D.wait.length, p.2.1 ≠ a) : D.at a = content (D.sure.getD a []) := by
  unfold Dk.at; rw [lastWrite_none h]
theorem lastWrite_some {ws : List (Nat × Bs)} {a k : Nat} {ini : List (Nat × (Nat × Bs))} {x : Nat × (Nat × Bs)} (hk : k ≤ ws.length) (e : upto (backOf ws) k = ini ++ [x]) (h : ∀ p ∈ ini, p.2.1 ≠ a) (hx : x.2.1 = a) : lastWrite ws a = some x.2.2 := by
  have e2 := upto_back ws k hk
  rw [e, List.map_append] at e2
  have e3 : ws.reverse = (ini.map (·.2) ++ [x.2]) ++ ws.reverse.drop k := by
    have := List.take_append_drop k ws.reverse
    rw [← e2] at this
    exact this.symm
  unfold lastWrite
  rw [e3, List.find?_append, List.find?_append, List.find?_eq_none.2]
  · simp [hx]
  · intro p hp
    obtain ⟨q, hq, rfl⟩ := List.mem_map.1 hp
    simpa using h q hq
theorem at_some {D : Dk} {a k : Nat} {ini : List (Nat × (Nat × Bs))} {x : Nat × (Nat × Bs)} (hk : k ≤ D.wait.length) (e : upto (backOf D.wait) k = ini ++ [x]) (h : ∀ p ∈ ini, p.2.1 ≠ a) (hx : x.2.1 = a) : D.at a = x.2.2 := by
  unfold Dk.at; rw [lastWrite_some hk e h hx]
theorem read_end {w W0 W : World} {Dd : Nat} {u v : Value} (k0 : Keeps [] w W0) (hk : Keeps [w.heap.size + 1, w.heap.size + 1 + 1] W0 W) (hD : W0.heap.size ≤ Dd) (hK : W.heap[Dd]? = some (.deferred (some [])))
    (c1 : W.cell? ⟨w.heap.size + 1, 0, none⟩ = some u) (c2 : W.cell? ⟨w.heap.size + 1 + 1, 0, none⟩ = some v) :
    (W.putObj Dd (.deferred none)).cell? ⟨w.heap.size + 1, 0, none⟩ = some u ∧ (W.putObj Dd (.deferred none)).cell? ⟨w.heap.size + 1 + 1, 0, none⟩ = some v ∧ Keeps [] w (W.putObj Dd (.deferred none)) := by
  have hg := grownBy_putObj' W Dd (.deferred none)
  have hr : ∀ r, some Dd = some r → ∃ o : Obj, W.heap[r]? = some o ∧ o.isCells = false := fun r e => by cases e; exact ⟨_, hK, rfl⟩
  refine ⟨cell_kept c1 hg hr, cell_kept c2 hg hr, ?_⟩
  have := k0.size
  exact (k0.trans' hk (fun x hx hl => by simp at hx; omega)).grown hg (fun r e => .inr (by cases e; omega))
theorem read_start (w : World) (a nq : Nat) (v : Value) (W0 : World) (h : ((((w.alloc (.cells #[.int .i64 (a : Int)] 3)).alloc (.cells #[.string ⟨#[]⟩] 9)).alloc (.cells #[.nilIface] 30)).drewN nq).alloc (.cells #[v] 48) = W0) :
    Keeps [] w W0 ∧ W0.heap.size = w.heap.size + 4 ∧ Boxed W0 w.heap.size 3 (.int .i64 (a : Int)) ∧ Boxed W0 (w.heap.size + 1) 9 (.string ⟨#[]⟩) ∧ Boxed W0 (w.heap.size + 1 + 1) 30 .nilIface ∧ Boxed W0 (w.heap.size + 1 + 1 + 1) 48 v := by
  subst h
  have x0 := Boxed.new w 3 (.int .i64 (a : Int))
  have x1 := Boxed.new (w.alloc (.cells #[.int .i64 (a : Int)] 3)) 9 (.string ⟨#[]⟩)
  have x2 := Boxed.new ((w.alloc (.cells #[.int .i64 (a : Int)] 3)).alloc (.cells #[.string ⟨#[]⟩] 9)) 30 .nilIface
  have x3 := Boxed.new ((((w.alloc (.cells #[.int .i64 (a : Int)] 3)).alloc (.cells #[.string ⟨#[]⟩] 9)).alloc (.cells #[.nilIface] 30)).drewN nq) 48 v
  simp only [World.size_alloc] at x1 x2
  refine ⟨(((((Keeps.refl _ w).alloc _).alloc _).alloc _).drewN _).alloc _, ?_, ?_, ?_, ?_, ?_⟩
  · simp [World.drewN]
  · exact (boxed_drewN ((x0.alloc _).alloc _) nq).alloc _
  · exact (boxed_drewN (x1.alloc _) nq).alloc _
  · exact (boxed_drewN x2 nq).alloc _
  · have e : ((((w.alloc (.cells #[.int .i64 (a : Int)] 3)).alloc (.cells #[.string ⟨#[]⟩] 9)).alloc (.cells #[.nilIface] 30)).drewN nq).heap.size = w.heap.size + 1 + 1 + 1 := by simp [World.drewN]
    rwa [e] at x3

set_option maxRecDepth 100000 in
set_option maxHeartbeats 2000000 in
theorem read_yes (D : Dk) {w : World} {L : List Nat} {g : Nat} (h : Dsk w L g D) (a : Nat) (ha : a < D.sure.length) (hwl : D.wait.length ≤ 4294967296) :
    Calls Tryd.prog 14 #[.pointer (some ⟨g, 0, none⟩), .int .i64 a] w fun e w' => e = .returned (.tuple #[.string (bs (D.at a)), errV 0]) ∧ Keeps [] w w' := by
  obtain ⟨gs, v, h1, h2, h3, _, _, _, _, _, h9, _, _⟩ := id h
  obtain ⟨A, cc, rfl, hc3⟩ := own_form h3
  have f0 := (h1.cell 0).trans rfl
  have f1 := (h1.cell 1).trans rfl
  have hgl : g < w.heap.size := h1.lt
  have hgl1 : g < w.heap.size + 1 := by omega
  have hgl2 : g < w.heap.size + 1 + 1 := by omega
  have hd : decide ((a : Int) < 0) = false := decide_eq_false (by omega)
  have hd2 : (a : Int) < (D.sure.length : Int) := by omega
  have H1 := Lib.hid h1
  have H2 := Lib.hid h2
  have H3 := Lib.hid h3
  have H9 := Lib.hid h9
  have HC := Lib.hid hc3
  clear h1 h2 h3 h9 hc3 h
  refine callsIn_wide (n := 9).1 (callsIn_of_wp_marks Tryd.func14 rfl trivial (wpIn_wide.2 ?_) rfl)
  simp only [Tryd.ntmps14, List.size_toArray, List.length_cons, List.length_nil, Nat.reduceAdd, Nat.reduceSub, Array.replicate_succ, Array.replicate_zero, List.push_toArray, List.append_toArray, List.nil_append, List.cons_append]
  generalize hQ : bodyPostM Fence.wide 9 Tryd.prog Tryd.f14 _ = Q
  have HQ := Lib.hid hQ
  clear hQ
  go_wp2
  go_quiet (fail)
  go_wp2_with (go_at_call 28; refine (callsIn_wide (n := 8).1 (back_in _ 8 trivial rfl _ _ _ _)).mono ?_; rintro e w' ⟨rfl, rfl⟩)
  obtain ⟨W0, hW0⟩ : ∃ W0, ((((w.alloc (.cells #[.int .i64 (a : Int)] 3)).alloc (.cells #[.string ⟨#[]⟩] 9)).alloc (.cells #[.nilIface] 30)).drewN nq).alloc (.cells #[.slice A D.wait.length cc] 48) = W0 := ⟨_, rfl⟩
  rw [hW0]
  obtain ⟨k0, z0, b0, b1, b2, b3⟩ := read_start w a nq (.slice A D.wait.length cc) W0 hW0
  clear hW0
  have hwi : WaitIn W0.heap.size W0 A D.wait := fun hn => by
    obtain ⟨b, e, hb, hc⟩ := HC.out hn
    exact ⟨b, e, by omega, fun j u hu => k0.cell_of (p := ⟨b, j, none⟩) (hc j u hu) (by simp)⟩
  have HK := Lib.hid k0
  have HW := Lib.hid hwi
  clear k0 hwi f0 f1
  refine wpIn_wide (n := 9).1 (wpIn_rangeFunc_ownH (F := Fence.wide) (n := 9) rfl (by omega) (gf := 39) (lb := #[.pointer (some ⟨w.heap.size + 1 + 1 + 1, 0, none⟩)]) rfl trivial (enters_of Tryd.func39 (by kernel_rfl) rfl)
    (back_stops Fence.wide 8 trivial rfl (by omega) (w.heap.size + 1 + 1 + 1) W0.heap.size cc A D.wait hwl W0 (by omega) (Nat.le_refl _) b3.cell HW.out) belowK_t (belowK_b (by omega)) (Below.refl _ _) (fun _ => rfl)
    (fun pre W => (∀ p ∈ pre, p.2.1 ≠ a) ∧ Below W0.heap.size W0 W)
    (fun c pre W => c = .ret ∧ ∃ x ini, pre = ini ++ [x] ∧ (∀ p ∈ ini, p.2.1 ≠ a) ∧ x.2.1 = a ∧ W.cell? ⟨w.heap.size + 1, 0, none⟩ = some (.string (bs x.2.2)) ∧ W.cell? ⟨w.heap.size + 1 + 1, 0, none⟩ = some .nilIface ∧ Keeps [w.heap.size + 1, w.heap.size + 1 + 1] W0 W)
    (OwnFrom.and (Own.from (fun s A B row hs hg hr => hs) _) (ownFrom_below (Nat.le_refl _) (Nat.le_refl _)))
    (fun c s X Y row hs hg hr => by
      obtain ⟨e0, x, ini, e1, e2, e3, e4, e5, e6⟩ := hs
      exact ⟨e0, x, ini, e1, e2, e3, cell_kept e4 hg (fun r e => (hr r e).2), cell_kept e5 hg (fun r e => (hr r e).2), e6.grown hg (fun r e => .inr (hr r e).1)⟩)
    ⟨by simp, Below.refl _ _⟩
    (fun x a' W => ∃ Bx, W0.heap.size ≤ Bx ∧ Blk W Bx 65 #[.int .i64 (x.2.1 : Int), .string (bs x.2.2)] ∧ a' = { tmps := #[.pointer (some ⟨g, 0, none⟩), .int .i64 (a : Int), undef, .pointer (some ⟨w.heap.size, 0, none⟩), .pointer (some ⟨w.heap.size + 1, 0, none⟩), .pointer (some ⟨w.heap.size + 1 + 1, 0, none⟩), undef, .pointer (some ⟨Bx, 0, none⟩), .int .i64 (a : Int), .bool false, .bool false, .int .i64 (a : Int), .pointer (some ⟨g, 0, none⟩), .pointer (some ⟨g, 0, none⟩), .pointer (some ⟨g, 0, none⟩), .slice (some ⟨gs, 0, none⟩) D.sure.length D.sure.length, .int .i64 (D.sure.length : Int), .bool false, .bool false, undef, .pointer (some ⟨g, 0, none⟩), .pointer (some ⟨g, 0, none⟩), .pointer (some ⟨g, 1, none⟩), .slice A D.wait.length cc, .func (.func 39) #[] #[.pointer (some ⟨w.heap.size + 1 + 1 + 1, 0, none⟩)], .int .i64 (x.1 : Int), .agg #[.int .i64 (x.2.1 : Int), .string (bs x.2.2)], undef, undef, undef, undef, undef, undef, undef, undef, undef, undef, undef, undef, undef, undef, undef, undef, undef, undef, undef, undef, undef, undef], defers := [] })
    (fun x a' s X Y row hs hg hr => by
      obtain ⟨Bx, e1, e2, e3⟩ := hs
      exact ⟨Bx, e1, (hg.block Bx e2.lt (fun e => by obtain ⟨_, o, ho, hc⟩ := hr Bx e.symm; rw [show X.heap[Bx]? = _ from e2] at ho; cases ho; cases hc)).trans e2, e3⟩)
    ?assign ?body ?done ?stop)
  case assign =>
    rintro l pre x W K ⟨hp, hB⟩ hK
    simp only [backEnc]
    gi_wp2
    exact hK _ _ ((KeepsOthers.alloc _ _).from _) ((Below.refl _ W).alloc hB.size _) ⟨hp, hB.alloc hB.size _⟩ ⟨W.heap.size, hB.size, Blk.new W _ _, rfl⟩
  case body =>
    rintro l pre x a' W hl ⟨r, hr⟩ ⟨hp, hB⟩ ⟨Bx, hBx, hblk, rfl⟩ hlt
    have d1 := (hblk.cell 0).trans rfl
    have d2 := (hblk.cell 1).trans rfl
    have d3 := (hB.cell (p := ⟨w.heap.size, 0, none⟩) (by show w.heap.size < _; omega)).trans b0.cell
    have d4 := (hB.cell (p := ⟨w.heap.size + 1, 0, none⟩) (by show w.heap.size + 1 < _; omega)).trans b1.cell
    have d5 := (hB.frozen (p := ⟨w.heap.size + 1, 0, none⟩) (by show w.heap.size + 1 < _; omega)).trans b1.frozen
    have d6 := (hB.cell (p := ⟨w.heap.size + 1 + 1, 0, none⟩) (by show w.heap.size + 1 + 1 < _; omega)).trans b2.cell
    have d7 := (hB.frozen (p := ⟨w.heap.size + 1 + 1, 0, none⟩) (by show w.heap.size + 1 + 1 < _; omega)).trans b2.frozen
    have HP := Lib.hid hp
    have Hb := Lib.hid hB
    clear hblk hp hB HQ b0 b1 b2 b3 z0
    by_cases he : x.2.1 = a
    · have he1 : x.2.1 ≤ a := by omega
      have he2 : a ≤ x.2.1 := by omega
      have HE := Lib.hid he
      clear he
      gi_wp2
      obtain ⟨t1, t2⟩ := two_cells (W := W) (p := ⟨w.heap.size + 1, 0, none⟩) (q := ⟨w.heap.size + 1 + 1, 0, none⟩) (by simp) (.string (bs x.2.2)) .nilIface d4 d6
      exact ⟨((KeepsOthers.setCell _ _ _).trans (KeepsOthers.setCell _ _ _)).from _, rfl, x, pre, rfl, HP.out, HE.out, t1, t2, ((Keeps.of_below Hb.out).setCell (.inl (by simp)) _).setCell (.inl (by simp)) _⟩
    · gi_wp2
      exact ⟨KeepsFrom.refl _ _, Below.refl _ _, fun p hp => (List.mem_append.1 hp).elim (HP.out p) (fun e => by simp at e; subst e; exact he), Hb.out⟩
  case done =>
    rintro Dd ys W hDd rfl ⟨hp, hB⟩ hK
    have hs : D.at a = content (D.sure.getD a []) := at_none hp
    have g0 := (hB.cell (p := ⟨g, 0, none⟩) (by show g < _; omega)).trans (HK.out.cell_of (p := ⟨g, 0, none⟩) ((H1.out.cell 0).trans rfl) (by simp))
    have hgs := H2.out.lt
    have g1 : W.cell? ⟨gs, a, none⟩ = some (.string (bs (D.sure.getD a []))) := (hB.cell (p := ⟨gs, a, none⟩) (by show gs < _; omega)).trans (HK.out.cell_of (p := ⟨gs, a, none⟩) (by rw [H2.out.cell, strs_at, List.getD_eq_getElem?_getD, List.getElem?_eq_getElem ha]; rfl) (by simp))
    have d3 := (hB.cell (p := ⟨w.heap.size, 0, none⟩) (by show w.heap.size < _; omega)).trans b0.cell
    have d4 := (hB.cell (p := ⟨w.heap.size + 1, 0, none⟩) (by show w.heap.size + 1 < _; omega)).trans b1.cell
    have d5 := (hB.frozen (p := ⟨w.heap.size + 1, 0, none⟩) (by show w.heap.size + 1 < _; omega)).trans b1.frozen
    have d6 := (hB.cell (p := ⟨w.heap.size + 1 + 1, 0, none⟩) (by show w.heap.size + 1 + 1 < _; omega)).trans b2.cell
    have d7 := (hB.frozen (p := ⟨w.heap.size + 1 + 1, 0, none⟩) (by show w.heap.size + 1 + 1 < _; omega)).trans b2.frozen
    generalize hcs : D.sure.getD a [] = cs at g1 hs
    have HS := Lib.hid hs
    have Hb := Lib.hid hB
    have HKK := Lib.hid hK
    clear hp hs hB hK hcs b0 b1 b2 b3 HC HW H3 H9
    have hkw : Keeps [w.heap.size + 1, w.heap.size + 1 + 1] W0 W := Keeps.of_below Hb.out
    have HKW := Lib.hid hkw
    clear hkw
    cases cs with
    | nil =>
      go_wp2
      go_quiet (fail)
      go_wp2_with fail
      refine (zero_any _).mono ?_
      rintro e W2 ⟨rfl, hk2⟩
      have m4 := hk2.cell_of (p := ⟨w.heap.size + 1, 0, none⟩) (show (W.drewN nq).cell? _ = _ from d4) (by simp)
      have m5 : W2.frozen? ⟨w.heap.size + 1, 0, none⟩ = false := (hk2.frozen (p := ⟨w.heap.size + 1, 0, none⟩) (World.block_lt_of_cell? W _ d4) (by simp)).trans d5
      have m6 := hk2.cell_of (p := ⟨w.heap.size + 1 + 1, 0, none⟩) (show (W.drewN nq).cell? _ = _ from d6) (by simp)
      have m7 : W2.frozen? ⟨w.heap.size + 1 + 1, 0, none⟩ = false := (hk2.frozen (p := ⟨w.heap.size + 1 + 1, 0, none⟩) (World.block_lt_of_cell? W _ d6) (by simp)).trans d7
      have HK2 := Lib.hid hk2
      clear hk2
      go_wp2
      obtain ⟨t1, t2⟩ := two_cells (W := W2) (p := ⟨w.heap.size + 1, 0, none⟩) (q := ⟨w.heap.size + 1 + 1, 0, none⟩) (by simp) (.string (bs zeros)) .nilIface m4 m6
      have hK1 : ((W2.setCell ⟨w.heap.size + 1, 0, none⟩ (.string (bs zeros))).setCell ⟨w.heap.size + 1 + 1, 0, none⟩ .nilIface).heap[Dd]? = some (.deferred (some [])) :=
        ((KeepsOthers.setCell _ _ _).trans (KeepsOthers.setCell _ _ _)).same Dd _ ((HK2.out.block Dd (Array.getElem?_eq_some_iff.1 HKK.out).1 (by simp)).trans HKK.out) rfl
      obtain ⟨c1, c2, ck⟩ := read_end HK.out (((HKW.out.drewN nq).trans HK2.out.of_nil |>.setCell (.inl (by simp)) _).setCell (.inl (by simp)) _) hDd hK1 t1 t2
      rw [← HQ.out]
      refine ⟨by simp, .inl ⟨_, _, rfl, run_takeDeferred hK1, ?_⟩⟩
      refine ⟨.tuple #[.string (bs zeros), .nilIface], by simp [results, Tryd.f14, go_sem, c1, c2], ?_, ck⟩
      rw [HS.out]; rfl
    | cons c0 cr =>
      go_wp2
      go_quiet (fail)
      go_wp2
      go_region
      all_goals go_wp2
      obtain ⟨t1, t2⟩ := two_cells (W := W.drewN (nq + 1)) (p := ⟨w.heap.size + 1, 0, none⟩) (q := ⟨w.heap.size + 1 + 1, 0, none⟩) (by simp) (.string (bs (c0 :: cr))) .nilIface d4 d6
      have hK1 : (((W.drewN (nq + 1)).setCell ⟨w.heap.size + 1, 0, none⟩ (.string (bs (c0 :: cr)))).setCell ⟨w.heap.size + 1 + 1, 0, none⟩ .nilIface).heap[Dd]? = some (.deferred (some [])) :=
        ((KeepsOthers.setCell _ _ _).trans (KeepsOthers.setCell _ _ _)).same Dd _ HKK.out rfl
      obtain ⟨c1, c2, ck⟩ := read_end HK.out (((HKW.out.drewN (nq + 1)).setCell (.inl (by simp)) _).setCell (.inl (by simp)) _) hDd hK1 t1 t2
      rw [← HQ.out]
      refine ⟨by simp, .inl ⟨_, _, rfl, run_takeDeferred hK1, ?_⟩⟩
      refine ⟨.tuple #[.string (bs (c0 :: cr)), .nilIface], by simp [results, Tryd.f14, go_sem, c1, c2], ?_, ck⟩
      rw [HS.out]; rfl
  case stop =>
    rintro Dd c pre W hDd ⟨k, hk, rfl⟩ ⟨rfl, x, ini, e1, e2, e3, e4, e5, e6⟩ hK
    have hs : D.at a = x.2.2 := at_some hk e1 e2 e3
    obtain ⟨c1, c2, ck⟩ := read_end HK.out e6 hDd hK e4 e5
    have HS := Lib.hid hs
    clear hs e1 e2 e3 e4 e5 e6
    refine wpIn_wide.2 ?_
    go_wp2
    rw [← HQ.out]
    refine ⟨by simp, .inl ⟨_, _, rfl, run_takeDeferred hK, ?_⟩⟩
    refine ⟨.tuple #[.string (bs x.2.2), .nilIface], by simp [results, Tryd.f14, go_sem, c1, c2], ?_, ck⟩
    rw [HS.out]; rfl

/-- Read, whatever it is given. -/
theorem read_any (D : Dk) {w : World} {L : List Nat} {g : Nat} (h : Dsk w L g D) (a : Int) (hwl : D.wait.length ≤ 4294967296) :
    Calls Tryd.prog 14 #[.pointer (some ⟨g, 0, none⟩), .int .i64 a] w fun e w' => e = .returned (.tuple #[.string (bs (D.read a).2), errV (D.read a).1]) ∧ Keeps [] w w' := by
  by_cases h1 : a < 0 ∨ (D.sure.length : Int) ≤ a
  · have e : D.read a = (2, []) := by unfold Dk.read; rw [if_pos h1]
    rw [e]
    exact read_no D h a h1
  · obtain ⟨n, rfl⟩ := Int.eq_ofNat_of_zero_le (show 0 ≤ a by omega)
    have e : D.read n = (0, D.at n) := by unfold Dk.read; rw [if_neg h1, Int.toNat_natCast]
    rw [e]
    exact read_yes D h n (by omega) hwl
end Go.Proofs.YtelafmakgokhbaaDoor
