/- table.Right. Maps of integers to values of whatever kind, by run equations. No program in sight. Maps of texts to values of whatever kind, as lists of what was put (the last first): by run equations; how many there are; a range over one. No program in sight. -/
import Derived.Test.YtpagiajlefejcaaGreatDoorTbrM2
import Derived.Test.YtpagiajlefejcaaGreatDoorTbrM1
import Derived.Maps.Own
import Derived.Maps.OwnSet
import Derived.Maps.RangeWalk
import Derived.Maps.Keyed
import Derived.Maps.Views
import Derived.Maps.Range
set_option linter.unusedSimpArgs false
set_option linter.unusedVariables false
namespace Go.Proofs.YtpagiajlefejcaaGreatDoor
open Go.RowKit
attribute [local go_sem] bs_size bs_extract bs_append bs_toList
theorem rowB_false {cs : List Cl} {r : List Vl} {n : Nat} (h : n < r.length) (hb : okAt cs r n = false) : rowB cs r = false := by
 unfold rowB
 have : (List.range r.length).all (okAt cs r) = false := by
  rw [List.all_eq_false]
  exact ⟨n, List.mem_range.2 h, by rw [hb]; decide⟩
 rw [this, Bool.and_false]
theorem rightB_false {t : Tb} {n : Nat} (h : n < t.rows.length) (hb : rowB t.cols t.rows[n] = false) : rightB t = false := by
 unfold rightB
 have : t.rows.all (rowB t.cols) = false := by
  rw [List.all_eq_false]
  exact ⟨_, List.getElem_mem h, by rw [hb]; decide⟩
 rw [this, Bool.and_false]
def tAgg (A : Option Addr) (n c : Nat) (B : Option Addr) (m d : Nat) : Value := .agg #[.slice A n c, .slice B m d]
set_option maxRecDepth 100000 in
set_option maxHeartbeats 4000000 in
theorem right_any (t : Tb) (A B : Option Addr) (c d : Nat) (w : World) (hA : Rd w [] 2 A t.cols.length (csCells t.cols)) (hc : t.cols.length ≤ c) (hB : RdRows w [] B t.rows) (hn : ∀ x ∈ t.cols, x.name.length ≤ 1000000000) (hl : t.cols.length ≤ 4294967296) (hm : t.rows.length ≤ 4294967296) (hr : ∀ r ∈ t.rows, r.length ≤ 4294967296) :
  Calls Tryz.prog 12 #[tAgg A t.cols.length c B t.rows.length d] w fun e w' => e = .returned (.bool (rightB t)) ∧ Keeps [] w w' := by
 have hcols := fun W (q : Keeps [] w W) => rightCols_any t.cols A c W (hA.keep q) hc hn hl
 have HA := Lib.hid hA
 have HB := Lib.hid hB
 have HRR := Lib.hid hr
 clear hA hB hn hr
 show Calls _ _ #[.agg #[.slice A t.cols.length c, .slice B t.rows.length d]] w _
 cases h1 : colsB t.cols with
 | false =>
  rw [h1] at hcols
  have HC := Lib.hid hcols
  have HF : Hid (rightB t = false) := Lib.hid (by unfold rightB; rw [h1]; rfl)
  clear hcols h1
  go_enter Tryz.func12, Tryz.ntmps12
  go_wp2_with (go_at_call 10; refine (HC.out _ ((Keeps.refl _ _).alloc _)).mono ?_; rintro e w5 ⟨rfl, hk5⟩)
  go_ret
  exact ⟨by rw [HF.out]; rfl, ((Keeps.refl _ _).alloc _).trans hk5⟩
 | true =>
  rw [h1] at hcols
  have HC := Lib.hid hcols
  have HC1 := Lib.hid h1
  clear hcols h1
  by_cases h2 : t.rows.length ≤ 60
  ·have h2' : ¬ ((60 : Int) < (t.rows.length : Int)) := by omega
   go_enter Tryz.func12, Tryz.ntmps12
   go_wp2_with (go_at_call 10; refine (HC.out _ ((Keeps.refl _ _).alloc _)).mono ?_; rintro e w5 ⟨rfl, hk5⟩; have q0 := hk5.cell_of (p := ⟨w.heap.size, 0, none⟩) (v := .slice A t.cols.length c) (by simp) (by simp); have q1 := hk5.cell_of (p := ⟨w.heap.size, 1, none⟩) (v := .slice B t.rows.length d) (by simp) (by simp))
   obtain ⟨bt, hbt⟩ : ∃ bt, w.heap.size = bt := ⟨_, rfl⟩
   have HK5 := Lib.hid (((Keeps.refl [] w).alloc (.cells #[.slice A t.cols.length c, .slice B t.rows.length d] 25)).trans hk5)
   rw [hbt] at q0 q1 ⊢
   have Q0 := Lib.hid q0
   have Q1 := Lib.hid q1
   clear hk5 hbt q0 q1
   go_loopw [20] (fun i wr => ∃ n : Nat, n ≤ t.rows.length ∧ i = .int .i64 n ∧ Hid (∀ j (hj : j < n) (hl : j < t.rows.length), rowB t.cols t.rows[j] = true) ∧ Keeps [] w5 wr) (fun i _ => t.rows.length - (intOf i).toNat)
   case atStart => exact ⟨0, Nat.zero_le _, rfl, fun j hj => absurd hj (by omega), Keeps.refl _ _⟩
   case round =>
    obtain ⟨n, hn, rfl, hno, hk⟩ := hrel
    by_cases hlt : n < t.rows.length
    ·obtain ⟨us, hul, hu1, hu2⟩ := (HB.out.keep HK5.out).keep hk
     obtain ⟨b, o, rfl, _, hb, hcs⟩ := hu1.open' (by omega) (by omega)
     have d1 := hcs n _ (List.getElem?_eq_getElem (by omega))
     obtain ⟨Ar, cr, hue, hcr, hRr⟩ := hu2 n (by omega) hlt
     rw [hue] at d1
     have q0 := hk.cell_of Q0.out (by simp)
     have q1 := hk.cell_of Q1.out (by simp)
     have hrl4 := HRR.out _ (List.getElem_mem hlt)
     have hbad : rowB t.cols t.rows[n] = false → Hid (rightB t = false) := fun h => Lib.hid (rightB_false hlt h)
     have HROW : Hid (∀ r, t.rows[n] = r → rowB t.cols r = true → ∀ j (hj : j < n + 1) (hl : j < t.rows.length), rowB t.cols t.rows[j] = true) := fun r e hr j hj hl => by
      by_cases h : j < n
      ·exact hno.out j h hl
      ·obtain rfl : j = n := by omega
       rw [e]; exact hr
     generalize hr : t.rows[n] = r at *
     have HBAD := Lib.hid hbad
     have HNX := HROW.out r rfl
     have HNX := Lib.hid HNX
     clear hno hcs hu1 hu2 hue hul hbad HROW hr
     by_cases hrl : r.length = t.cols.length
     ·have hb1 : ((r.length : Int) != (t.cols.length : Int)) = false := by simp [hrl]
      have HRL := Lib.hid hrl
      obtain ⟨wo, hwo⟩ : ∃ wo : World, wo = wr := ⟨_, rfl⟩
      subst hwo
      have hlc : r.length ≤ t.cols.length := by omega
      clear hrl
      go_wp2
      go_loopw [32] (fun i wr => ∃ m : Nat, m ≤ r.length ∧ i = .int .i64 m ∧ Hid (∀ j, j < m → okAt t.cols r j = true) ∧ Keeps [] wo wr) (fun i _ => r.length - (intOf i).toNat)
      case atStart => exact ⟨0, Nat.zero_le _, rfl, fun j hj => absurd hj (by omega), Keeps.refl _ _⟩
      case round =>
       obtain ⟨m, hm, rfl, hok, hk2⟩ := hrel
       by_cases hlt2 : m < r.length
       ·obtain ⟨b2, o2, rfl, _, hb2, hcs2⟩ := (hRr.keep hk2).open' (by omega) (by omega)
        have e1 := hcs2 (m * 3) _ (vsCells_at r m hlt2).1
        have e2 := hcs2 (m * 3 + 1) _ (vsCells_at r m hlt2).2.1
        have e3 := hcs2 (m * 3 + 2) _ (vsCells_at r m hlt2).2.2
        rw [← Nat.add_assoc] at e2 e3
        obtain ⟨b3, o3, hA3, _, hb3, hcs3⟩ := (((HA.out.keep HK5.out).keep hk).keep hk2).open' (by omega) (by omega)
        have f1 := hcs3 (m * 2 + 1) _ (csCells_at t.cols m (by omega)).2
        rw [← Nat.add_assoc] at f1
        have hokm : okAt t.cols r m = (decide (r[m].kind = (t.cols[m]'(by omega)).kind) && rvB r[m]) := by unfold okAt; rw [List.getElem?_eq_getElem hlt2, List.getElem?_eq_getElem (by omega)]
        have q0 := hk2.cell_of q0 (by simp)
        generalize r[m] = x at *
        generalize (t.cols[m]'(by omega)).kind = ck at *
        obtain ⟨xk, xn, xs⟩ := x
        subst hA3
        simp only at e1 e2 e3 hokm
        have HBA : Hid (okAt t.cols r m = false → Hid (rightB t = false)) := Lib.hid (fun h => HBAD.out (rowB_false hlt2 h))
        have HK2 := Lib.hid hk2
        have hmc : m < t.cols.length := by omega
        clear hcs2 hcs3 hk2
        have hbt : bt < wr.heap.size := World.block_lt_of_cell? wr _ q0
        have hrv := rightValue_any ⟨xk, xn, xs⟩
        have hal := fun o => (Keeps.refl [] wr).alloc o
        have G : Hid ((wr.alloc (.cells #[.int .i64 xk, .int .i64 xn, .string (bs xs)] 27)).drew.cell? ⟨wr.heap.size, 0, none⟩ = some (.int .i64 xk) ∧ (wr.alloc (.cells #[.int .i64 xk, .int .i64 xn, .string (bs xs)] 27)).drew.cell? ⟨wr.heap.size, 1, none⟩ = some (.int .i64 xn) ∧ (wr.alloc (.cells #[.int .i64 xk, .int .i64 xn, .string (bs xs)] 27)).drew.cell? ⟨wr.heap.size, 2, none⟩ = some (.string (bs xs)) ∧ (wr.alloc (.cells #[.int .i64 xk, .int .i64 xn, .string (bs xs)] 27)).drew.cell? ⟨bt, 0, none⟩ = some (.slice (some ⟨b3, o3, none⟩) t.cols.length c) ∧ (wr.alloc (.cells #[.int .i64 xk, .int .i64 xn, .string (bs xs)] 27)).drew.cell? ⟨b3, o3 + m * 2 + 1, none⟩ = some (.int .i64 ck)) := Lib.hid ⟨by simp, by simp, by simp, (hal _).cell_of (p := ⟨bt, 0, none⟩) q0 (by simp), (hal _).cell_of (p := ⟨b3, o3 + m * 2 + 1, none⟩) f1 (by simp)⟩
        clear hal
        by_cases hkk : xk = ck
        ·subst hkk
         have hz : (xk != xk) = false := by simp
         have hokm' : okAt t.cols r m = rvB ⟨xk, xn, xs⟩ := by rw [hokm, decide_eq_true rfl, Bool.true_and]
         cases hb : rvB ⟨xk, xn, xs⟩ with
         | true =>
          rw [hb] at hrv hokm'
          have HRV := Lib.hid hrv
          have hok' : Hid (∀ j, j < m + 1 → okAt t.cols r j = true) := fun j hj => by
           by_cases h : j < m
           ·exact hok.out j h
           ·obtain rfl : j = m := by omega
            exact hokm'
          clear hrv hokm hokm' hb
          go_wp2_with fail
          go_region_held3 (fun w' => w'.cell? ⟨wr.heap.size, 0, none⟩ = some (.int .i64 xk) ∧ w'.cell? ⟨wr.heap.size, 1, none⟩ = some (.int .i64 xn) ∧ w'.cell? ⟨wr.heap.size, 2, none⟩ = some (.string (bs xs)) ∧ w'.cell? ⟨bt, 0, none⟩ = some (.slice (some ⟨b3, o3, none⟩) t.cols.length c) ∧ w'.cell? ⟨b3, o3 + m * 2 + 1, none⟩ = some (.int .i64 xk)) (first | exact G.out | exact ⟨hk6.cell_of G.out.1 (by simp), hk6.cell_of G.out.2.1 (by simp), hk6.cell_of G.out.2.2.1 (by simp), hk6.cell_of G.out.2.2.2.1 (by simp), hk6.cell_of G.out.2.2.2.2 (by simp)⟩ | go_keep) (first | (go_at_call 8; refine (HRV.out _).mono ?_; rintro e w6 ⟨rfl, hk6⟩))
          all_goals go_wp2
          all_goals have K6 := Lib.hid ((HK2.out.alloc _).drew.trans hk6)
          all_goals clear hk6
          all_goals go_roundw
          case rel => exact ⟨m + 1, by omega, by go_num, hok', K6.out⟩
          case measure => simp [intOf]; omega
         | false =>
          rw [hb] at hrv hokm'
          have HRV := Lib.hid hrv
          have HF := HBA.out hokm'
          clear hrv hokm hokm' hb
          go_wp2_with fail
          go_region_held3 (fun w' => w'.cell? ⟨wr.heap.size, 0, none⟩ = some (.int .i64 xk) ∧ w'.cell? ⟨wr.heap.size, 1, none⟩ = some (.int .i64 xn) ∧ w'.cell? ⟨wr.heap.size, 2, none⟩ = some (.string (bs xs)) ∧ w'.cell? ⟨bt, 0, none⟩ = some (.slice (some ⟨b3, o3, none⟩) t.cols.length c) ∧ w'.cell? ⟨b3, o3 + m * 2 + 1, none⟩ = some (.int .i64 xk)) (first | exact G.out | exact ⟨hk6.cell_of G.out.1 (by simp), hk6.cell_of G.out.2.1 (by simp), hk6.cell_of G.out.2.2.1 (by simp), hk6.cell_of G.out.2.2.2.1 (by simp), hk6.cell_of G.out.2.2.2.2 (by simp)⟩ | go_keep) (first | (go_at_call 8; refine (HRV.out _).mono ?_; rintro e w6 ⟨rfl, hk6⟩))
          all_goals go_wp2
          all_goals go_ret
          all_goals exact ⟨by rw [HF.out]; rfl, (HK5.out.trans hk).trans ((HK2.out.alloc _).drew.trans hk6)⟩
        ·have hz : (xk != ck) = true := by rw [bne_iff_ne]; exact hkk
         have HF := HBA.out (by rw [hokm, decide_eq_false hkk, Bool.false_and])
         clear hrv hokm hkk
         go_wp2_with fail
         go_quiet (fail)
         all_goals go_wp2
         all_goals go_ret
         all_goals exact ⟨by rw [HF.out]; rfl, (HK5.out.trans hk).trans ((HK2.out.alloc _).drewN _)⟩
       ·have hrow := Lib.hid (HNX.out (by
         unfold rowB
         rw [decide_eq_true HRL.out, Bool.true_and, List.all_eq_true]
         intro j hj
         exact hok.out j (by have := List.mem_range.1 hj; omega)))
        have HKK := Lib.hid (hk.trans hk2)
        clear hk2 hok
        go_wp2
        go_roundw
        case rel => exact ⟨n + 1, by omega, by go_num, hrow, HKK.out⟩
        case measure => simp [intOf]; omega
     ·have hb1 : ((r.length : Int) != (t.cols.length : Int)) = true := by rw [bne_iff_ne]; omega
      have HF := HBAD.out (by unfold rowB; rw [decide_eq_false hrl, Bool.false_and])
      clear hrl
      go_wp2
      go_ret
      exact ⟨by rw [HF.out]; rfl, HK5.out.trans hk⟩
    ·have hfin : Hid (rightB t = true) := Lib.hid (by
      unfold rightB
      rw [HC1.out, decide_eq_true h2, Bool.and_self, Bool.true_and, List.all_eq_true]
      intro r hr
      obtain ⟨j, hj, rfl⟩ := List.getElem_of_mem hr
      exact hno.out j (by omega) hj)
     go_wp2
     go_ret
     exact ⟨by rw [hfin.out]; rfl, HK5.out.trans hk⟩
  ·have h2' : (60 : Int) < (t.rows.length : Int) := by omega
   have HF : Hid (rightB t = false) := Lib.hid (by unfold rightB; rw [decide_eq_false h2, Bool.and_false, Bool.false_and])
   clear h2
   go_enter Tryz.func12, Tryz.ntmps12
   go_wp2_with (go_at_call 10; refine (HC.out _ ((Keeps.refl _ _).alloc _)).mono ?_; rintro e w5 ⟨rfl, hk5⟩; have q1 := hk5.cell_of (p := ⟨w.heap.size, 1, none⟩) (v := .slice B t.rows.length d) (by simp) (by simp))
   go_ret
   exact ⟨by rw [HF.out]; rfl, ((Keeps.refl _ _).alloc _).trans hk5⟩
end Go.Proofs.YtpagiajlefejcaaGreatDoor
namespace Go.Proofs.YtpagiajlefejcaaGreatDoor
open Go.RowKit Go.Maps
def asIs (v : Value) : Option (DataW Value × List MemPlace) := some (.held v, [])
def MapV (P : Program) (K : TypeId) (w : World) (b n : Nat) (m : Int → Option Value) : Prop :=
 ∃ D : DataW Value, w.ownsMap P K asIs b n D ∧ ∀ k : Int, (Lit.int .i64 k).wf = true → Maps.has D (.int .i64 k) = (m k).isSome ∧ ∀ v, m k = some v → ∀ z, D.atKey (.int .i64 k) z = .held v
section
variable {P : Program} {T K E : TypeId} {w w' : World} {b n : Nat} {m : Int → Option Value}
theorem MapV.lt (h : MapV P K w b n m) : b < w.heap.size := by obtain ⟨D, h, _⟩ := h; exact h.lt
theorem MapV.made (w : World) : MapV P K (w.alloc (.map #[] 0)) w.heap.size 0 fun _ => none :=
 ⟨_, World.ownsMap_made w _ _ _, fun k _ => ⟨rfl, fun _ h => by cases h⟩⟩
theorem MapV.of_block (h : MapV P K w b n m) (hb : w'.heap[b]? = w.heap[b]?) : MapV P K w' b n m := by
 obtain ⟨D, ⟨es, clock, h1, h2⟩, h3⟩ := h
 exact ⟨D, ⟨es, clock, hb.trans h1, h2⟩, h3⟩
theorem MapV.keep {L : List Nat} (h : MapV P K w b n m) (hk : Keeps L w w') (hb : b ∉ L) : MapV P K w' b n m := h.of_block (hk.block b h.lt hb)
theorem MapV.mono (h : MapV P K w b n m) {n' : Nat} (hn : n ≤ n') : MapV P K w b n' m := by
 obtain ⟨D, h1, h2⟩ := h
 exact ⟨D, h1.mono hn, h2⟩
theorem MapV.congr {m' : Int → Option Value} (h : MapV P K w b n m) (e : m = m') : MapV P K w b n m' := e ▸ h
theorem MapV.look (h : MapV P K w b n m) (hT : P.underlying T = some (.map K E)) (hK : P.underlying K = some (.int .i64)) {z : Value} (hz : (zeroValue E).run P w = .ok z w) (k : Int) (hk : (Lit.int .i64 k).wf = true) :
  (Instr.lookup T (.map (some b)) (.int .i64 k) false).run P w = .ok ((m k).getD z) w := by
 obtain ⟨D, h1, h2⟩ := h
 have hkey : keyOf P K (.int .i64 k) = some (.int .i64 k) := keyOf_int_mk hK hk
 obtain ⟨v, ps, hrun, hv⟩ := h1.lookup (int_keyed hK) hT hz (zd := .held z) (zp := []) rfl hkey
 rw [hrun]
 have hv' : DataW.held v = D.atKey (.int .i64 k) (.held z) := by
  injection hv with hv
  exact congrArg Prod.fst hv
 cases hm : m k with
 | some u =>
  rw [(h2 k hk).2 u hm] at hv'
  injection hv' with e
  rw [e]; rfl
 | none =>
  have h0 : Maps.has D (.int .i64 k) = false := by rw [(h2 k hk).1, hm]; rfl
  rw [atKey_of_not_has h0] at hv'
  injection hv' with e
  rw [e]; rfl
theorem MapV.store (h : MapV P K w b n m) (hT : P.underlying T = some (.map K E)) (hK : P.underlying K = some (.int .i64)) (k : Int) (v : Value) (hk : (Lit.int .i64 k).wf = true) (hn : n < maxLen) :
  ∃ w', (Instr.mapUpdate T (.map (some b)) (.int .i64 k) v).run P w = .ok () w' ∧ MapV P K w' b (n + 1) (fun x => if x = k then some v else m x) ∧ w.grownBy w' (some b) := by
 obtain ⟨D, h1, h2⟩ := h
 have hkey : keyOf P K (.int .i64 k) = some (.int .i64 k) := keyOf_int_mk hK hk
 obtain ⟨w', hrun, h3, h4⟩ := h1.update (int_keyed hK) hT hn hkey (d := .held v) (ps := []) rfl
 have hm := h1.isMap
 refine ⟨w', hrun, ⟨_, h3, fun x hx0 => ?_⟩, h4⟩
 by_cases hx : x = k
 ·subst hx
  simp only [if_pos]
  exact ⟨by rw [has_put_same hm (by trivial)]; rfl, fun u hu z => by
   cases hu
   rw [atKey_put_same hm (by trivial)]⟩
 ·have hne : (Lit.int IntKind.i64 x) ≠ Lit.int .i64 k := fun e => hx (by injection e)
  simp only [if_neg hx]
  refine ⟨?_, fun u hu z => ?_⟩
  ·rw [has_put_other hne]; exact (h2 x hx0).1
  ·rw [atKey_put_other hne]; exact (h2 x hx0).2 u hu z
end
end Go.Proofs.YtpagiajlefejcaaGreatDoor
namespace Go.Proofs.YtpagiajlefejcaaGreatDoor
open Go.RowKit Go.Maps
def cntH {β : Type} : List (Bs × β) → Nat
 | [] => 0
 | x :: m => if (m.lookup x.1).isSome then cntH m else cntH m + 1
def MapH (P : Program) (S : TypeId) (w : World) (b : Nat) (m : List (Bs × Value)) : Prop :=
 ∃ D : DataW Value, w.ownsMap P S asIs b m.length D ∧ Maps.Tidy D ∧ Maps.size D = cntH m ∧ ∀ k : Bs, Maps.has D (.string k) = (m.lookup k).isSome ∧ ∀ v, m.lookup k = some v → ∀ z, D.atKey (.string k) z = .held v
section
variable {P : Program} {T S E : TypeId} {w w' : World} {b : Nat} {m : List (Bs × Value)}
theorem MapH.lt (h : MapH P S w b m) : b < w.heap.size := by obtain ⟨D, h, _⟩ := h; exact h.lt
theorem MapH.made (w : World) : MapH P S (w.alloc (.map #[] 0)) w.heap.size [] :=
 ⟨_, World.ownsMap_made w _ _ _, Maps.tidy_empty, rfl, fun k => ⟨rfl, fun _ h => by cases h⟩⟩
theorem MapH.of_block (h : MapH P S w b m) (hb : w'.heap[b]? = w.heap[b]?) : MapH P S w' b m := by
 obtain ⟨D, ⟨es, clock, h1, h2⟩, h3⟩ := h
 exact ⟨D, ⟨es, clock, hb.trans h1, h2⟩, h3⟩
theorem MapH.keep {L : List Nat} (h : MapH P S w b m) (hk : Keeps L w w') (hb : b ∉ L) : MapH P S w' b m := h.of_block (hk.block b h.lt hb)
theorem MapH.drew (h : MapH P S w b m) : MapH P S w.drew b m := h
theorem MapH.look0 (h : MapH P S w b m) (hT : P.underlying T = some (.map S E)) (hS : P.underlying S = some .string) {z : Value} (hz : (zeroValue E).run P w = .ok z w) (k : Bs) (hk : k.length ≤ maxLen) :
  (Instr.lookup T (.map (some b)) (.string (bs k)) false).run P w = .ok ((m.lookup k).getD z) w := by
 obtain ⟨D, h1, _, _, h2⟩ := h
 have hkey : keyOf P S (.string (bs k)) = some (.string k) := WideMaps.keyOf_string_mk hS (by rw [bs_size]; exact hk)
 obtain ⟨v, ps, hrun, hv⟩ := h1.lookup (string_keyed hS) hT hz (zd := .held z) (zp := []) rfl hkey
 rw [hrun]
 have hv' : DataW.held v = D.atKey (.string k) (.held z) := by
  injection hv with hv
  exact congrArg Prod.fst hv
 cases hm : m.lookup k with
 | some u =>
  rw [(h2 k).2 u hm] at hv'
  injection hv' with e
  rw [e]; rfl
 | none =>
  have h0 : Maps.has D (.string k) = false := by rw [(h2 k).1, hm]; rfl
  rw [atKey_of_not_has h0] at hv'
  injection hv' with e
  rw [e]; rfl
theorem MapH.look (h : MapH P S w b m) (hT : P.underlying T = some (.map S E)) (hS : P.underlying S = some .string) {z : Value} (hz : (zeroValue E).run P w = .ok z w) (k : Bs) (hk : k.length ≤ maxLen) :
  (Instr.lookup T (.map (some b)) (.string (bs k)) true).run P w = .ok (.tuple #[(m.lookup k).getD z, .bool (m.lookup k).isSome]) w := by
 obtain ⟨D, h1, _, _, h2⟩ := h
 have hkey : keyOf P S (.string (bs k)) = some (.string k) := WideMaps.keyOf_string_mk hS (by rw [bs_size]; exact hk)
 obtain ⟨v, ps, hrun, hv⟩ := h1.look_ok (string_keyed hS) hT hz (zd := .held z) (zp := []) rfl hkey
 rw [hrun, (h2 k).1]
 have hv' : DataW.held v = D.atKey (.string k) (.held z) := by
  injection hv with hv
  exact congrArg Prod.fst hv
 cases hm : m.lookup k with
 | some u =>
  rw [(h2 k).2 u hm] at hv'
  injection hv' with e
  rw [e]; rfl
 | none =>
  have h0 : Maps.has D (.string k) = false := by rw [(h2 k).1, hm]; rfl
  rw [atKey_of_not_has h0] at hv'
  injection hv' with e
  rw [e]; rfl
theorem lookup_put {β : Type} (m : List (Bs × β)) (k : Bs) (v : β) (x : Bs) : ((k, v) :: m).lookup x = if x = k then some v else m.lookup x := by
 rw [List.lookup_cons]
 by_cases h : x = k
 ·subst h; simp
 ·have : (x == k) = false := by simpa using h
  rw [this, if_neg h]
theorem MapH.store (h : MapH P S w b m) (hT : P.underlying T = some (.map S E)) (hS : P.underlying S = some .string) (k : Bs) (v : Value) (hk : k.length ≤ maxLen) (hn : m.length < maxLen) :
  ∃ w', (Instr.mapUpdate T (.map (some b)) (.string (bs k)) v).run P w = .ok () w' ∧ MapH P S w' b ((k, v) :: m) ∧ w.grownBy w' (some b) := by
 obtain ⟨D, h1, ht, hs, h2⟩ := h
 have hkey : keyOf P S (.string (bs k)) = some (.string k) := WideMaps.keyOf_string_mk hS (by rw [bs_size]; exact hk)
 obtain ⟨w', hrun, h3, h4⟩ := h1.update (string_keyed hS) hT hn hkey (d := .held v) (ps := []) rfl
 refine ⟨w', hrun, ⟨_, h3, ht.put (by trivial) _, ?_, fun x => ?_⟩, h4⟩
 ·rw [size_put ht, hs, (h2 k).1]
  rfl
 ·rw [lookup_put]
  by_cases hx : x = k
  ·subst hx
   simp only [if_pos]
   exact ⟨by rw [has_put_same ht.isMap (by trivial)]; rfl, fun u hu z => by
    cases hu
    rw [atKey_put_same ht.isMap (by trivial)]⟩
  ·have hne : (Lit.string x) ≠ Lit.string k := fun e => hx (by injection e)
   simp only [if_neg hx]
   refine ⟨?_, fun u hu z => ?_⟩
   ·rw [has_put_other hne]; exact (h2 x).1
   ·rw [atKey_put_other hne]; exact (h2 x).2 u hu z
theorem MapH.len (h : MapH P S w b m) (hT : P.underlying T = some (.map S E)) (ty : TypeId) : (Builtin.len_ #[T] ty #[.map (some b)]).run P w = .ok (.int .i64 (cntH m)) w := by
 obtain ⟨D, h1, _, hs, _⟩ := h
 rw [h1.len hT ty, hs]
def RangeH (P : Program) (S : TypeId) (w : World) (b r : Nat) (m : List (Bs × Value)) (L : Bs → Bool) (cnt : Nat) : Prop :=
 ∃ D : DataW Value, ∃ left, w.ranges P S asIs b r m.length D left cnt ∧ (∀ k, left (.string k) = L k) ∧ ∀ k : Bs, Maps.has D (.string k) = (m.lookup k).isSome ∧ ∀ v, m.lookup k = some v → ∀ z, D.atKey (.string k) z = .held v
theorem RangeH.lt {r cnt : Nat} {L : Bs → Bool} (h : RangeH P S w b r m L cnt) : r < w.heap.size := by
 obtain ⟨D, left, h1, _⟩ := h
 exact h1.lt
end
end Go.Proofs.YtpagiajlefejcaaGreatDoor
