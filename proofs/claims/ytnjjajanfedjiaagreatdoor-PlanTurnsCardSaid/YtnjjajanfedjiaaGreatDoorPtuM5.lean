/- The parser's one: one of some marks. Tables as plain data, and what they are in memory. -/
import Derived.Test.YtnjjajanfedjiaaGreatDoorPtuM4
import Derived.Test.YtnjjajanfedjiaaGreatDoorProg
import Derived.Test.YtnjjajanfedjiaaGreatDoorPtuM1
set_option linter.unusedSimpArgs false
set_option linter.unusedVariables false
namespace Go.Proofs.YtnjjajanfedjiaaGreatDoor
open Go.RowKit Go.BigFrame
attribute [local go_sem] bs_size bs_extract bs_append bs_toList
theorem seenI_some {l : List Tk} : ∀ {ms : List Bs} {k : Nat} (h : k < ms.length), (∀ j (hj : j < k), seeP (ms[j]'(by omega)) l = false) → seeP ms[k] l = true → seenI l ms = some k
 | [], _, h, _, _ => absurd h (by simp)
 | m :: ms, 0, _, _, h => by unfold seenI; exact if_pos h
 | m :: ms, k + 1, h, hn, hs => by
  unfold seenI
  have h0 := hn 0 (by omega)
  rw [if_neg (by simpa using h0), seenI_some (ms := ms) (k := k) (by simpa using h) (fun j hj => hn (j + 1) (by omega)) (by simpa using hs)]
  rfl
theorem seenI_none {l : List Tk} : ∀ {ms : List Bs}, (∀ j (hj : j < ms.length), seeP (ms[j]'hj) l = false) → seenI l ms = none
 | [], _ => rfl
 | m :: ms, hn => by
  unfold seenI
  have h0 := hn 0 (by simp)
  rw [if_neg (by simpa using h0), seenI_none (ms := ms) (fun j hj => hn (j + 1) (by simpa using hj))]
  rfl
def seenX (l : List Tk) (ms : List Bs) : Int := match seenI l ms with
 | some k => (k : Int)
 | none => -1
set_option maxHeartbeats 2000000 in
theorem indexSee {l : List Tk} {b : Nat} (ms : List Bs) (A : Option Addr) (c : Nat) (w : World) (h : Ps w b l) (hR : Rd w [] 1 A ms.length (strs ms)) (hl : ms.length ≤ 4294967296) :
  Calls Tryz.prog 101 #[.slice A ms.length c, .func (.func 74) #[.pointer (some ⟨b, 0, none⟩)] #[]] w fun e w' => e = .returned (.int .i64 (seenX l ms)) ∧ w = w' := by
 have HR := Lib.hid hR
 have HP := Lib.hid h
 clear hR h
 go_enter Tryz.func101, Tryz.ntmps101
 go_wp2
 go_loop [8] (fun i => ∃ n : Nat, n ≤ ms.length ∧ i = .int .i64 n ∧ Hid (∀ j (hj : j < n) (hl : j < ms.length), seeP ms[j] l = false)) (fun i => ms.length - (intOf i).toNat)
 case atStart => exact ⟨0, Nat.zero_le _, rfl, fun j hj => absurd hj (by omega)⟩
 case round =>
  obtain ⟨n, hn, rfl, hno⟩ := hrel
  by_cases hlt : n < ms.length
  ·obtain ⟨g, o, rfl, _, hg, hc⟩ := HR.out.open' (by omega) (by omega)
   have d1 := hc n _ (strs_at' ms n hlt)
   have HH := see_any ms[n] w HP.out
   generalize hx : ms[n] = x at *
   have HX := Lib.hid hx
   have HH' := Lib.hid HH
   clear HH hc hx
   cases hp : seeP x l with
   | true =>
    have hfin : seenX l ms = (n : Int) := by
     unfold seenX
     rw [seenI_some hlt (fun j hj => hno j hj (by omega)) (by rw [HX.out]; exact hp)]
    rw [hp] at HH'
    have HQ := Lib.hid hfin
    clear hfin hp
    go_wp2_with fail
    refine HH'.out.mono ?_
    rintro e W2 ⟨rfl, rfl⟩
    go_wp2
    go_ret
    exact ⟨by rw [HQ.out]; rfl, rfl⟩
   | false =>
    have hno' : Hid (∀ j (hj : j < n + 1) (hl : j < ms.length), seeP ms[j] l = false) := fun j hj hl => by
     by_cases h : j < n
     ·exact hno j h hl
     ·obtain rfl : j = n := by omega
      rw [HX.out]
      exact hp
    rw [hp] at HH'
    clear hp
    go_wp2_with fail
    refine HH'.out.mono ?_
    rintro e W2 ⟨rfl, rfl⟩
    go_wp2
    go_round
    case rel => exact ⟨n + 1, by omega, by go_num, hno'⟩
    case measure => simp [intOf]; omega
  ·have hfin : Hid (seenX l ms = -1) := by
    unfold seenX
    rw [seenI_none (fun j hj => hno j (by omega) hj)]
    rfl
   go_wp2
   go_ret
   exact ⟨by rw [hfin.out]; rfl, rfl⟩
theorem seenI_see {l : List Tk} : ∀ {ms : List Bs} {k : Nat}, seenI l ms = some k → ∃ h : k < ms.length, seeP ms[k] l = true
 | [], _, h => by cases h
 | m :: ms, k, h => by
  unfold seenI at h
  split at h
  ·rename_i hs
   injection h with h
   subst h
   exact ⟨by simp, hs⟩
  ·obtain ⟨j, hj, rfl⟩ := Option.map_eq_some_iff.1 h
   obtain ⟨h1, h2⟩ := seenI_see hj
   exact ⟨by simpa using h1, by simpa using h2⟩
theorem oneP_ok {ms : List Bs} {l r : List Tk} {s : Bs} (h : oneP ms l = .ok (s, r)) : ∃ k, seenI l ms = some k ∧ ∃ hk : k < ms.length, s = ms[k] ∧ seeP ms[k] l = true ∧ r = l.tail := by
 unfold oneP at h
 cases hs : seenI l ms with
 | none => rw [hs] at h; cases h
 | some k =>
  rw [hs] at h
  obtain ⟨h1, h2⟩ := seenI_see hs
  injection h with h
  injection h with h3 h4
  refine ⟨k, rfl, h1, ?_, h2, h4.symm⟩
  rw [← h3, List.getD_eq_getElem?_getD, List.getElem?_eq_getElem h1]
  rfl
set_option maxHeartbeats 2000000 in
theorem one_yes {ms : List Bs} {l r : List Tk} {s : Bs} {b : Nat} (hm : oneP ms l = .ok (s, r)) (A : Option Addr) (c : Nat) (w : World) (h : Ps w b l) (hR : Rd w [b] 1 A ms.length (strs ms)) (hl : ms.length ≤ 4294967296) :
  Calls Tryz.prog 115 #[.pointer (some ⟨b, 0, none⟩), .slice A ms.length c] w fun e w' => e = .returned (.string (bs s)) ∧ Ps w' b r ∧ Keeps [b] w w' := by
 obtain ⟨k, h1, hk, rfl, hs, rfl⟩ := oneP_ok hm
 have HI := indexSee ms A c w h (hR.move (by simp)) hl
 have e : seenX l ms = (k : Int) := by unfold seenX; rw [h1]
 rw [e] at HI
 have HM := Lib.hid (must_yes (s := ms[k]) (r := l.tail) (by unfold mustP; rw [if_pos hs]) w h)
 obtain ⟨g, o, rfl, hgb, hg, hc⟩ := hR.open' (by omega) (by omega)
 have d1 := hc k _ (strs_at' ms k hk)
 have HI2 := Lib.hid HI
 have hk2 : (k : Int) < (ms.length : Int) := by omega
 have hne : g ≠ b := by simpa using hgb
 generalize ms[k] = x at *
 clear hm h1 hs HI e hc hR h hgb
 have hmf : ∀ (fn : Fn) (first cap : Array Value) (w : World), (Instr.makeFunc fn first cap).run Tryz.prog w = .ok (.func fn first cap) w := fun _ _ _ _ => rfl
 go_enter Tryz.func115, Tryz.ntmps115
 go_wp2_with fail
 refine HI2.out.mono ?_
 rintro ev w1 ⟨rfl, rfl⟩
 go_wp2_with fail
 refine HM.out.mono ?_
 rintro ev w2 ⟨rfl, hp, hk⟩
 have d2 := hk.cell_of d1 (by simpa using hne)
 have hg2 := World.block_lt_of_cell? _ _ d2
 go_wp2
 go_ret
 exact ⟨rfl, hp, hk⟩
theorem oneP_err {ms : List Bs} {l : List Tk} {x : Int × Int} (h : oneP ms l = .error x) : seenI l ms = none ∧ x = (3, (hdT l).at_) := by
 unfold oneP at h
 cases hs : seenI l ms with
 | none =>
  rw [hs] at h
  exact ⟨rfl, (Except.error.inj h).symm⟩
 | some k => rw [hs] at h; cases h
set_option maxHeartbeats 2000000 in
theorem one_no {ms : List Bs} {l : List Tk} {b : Nat} {x : Int × Int} (hm : oneP ms l = .error x) (A : Option Addr) (c : Nat) (w : World) (h : Ps w b l) (hR : Rd w [b] 1 A ms.length (strs ms)) (hl : ms.length ≤ 4294967296) :
  Calls Tryz.prog 115 #[.pointer (some ⟨b, 0, none⟩), .slice A ms.length c] w fun e w' => Thrown x e w' ∧ Keeps [b] w w' := by
 obtain ⟨h1, rfl⟩ := oneP_err hm
 have HI := indexSee ms A c w h (hR.move (by simp)) hl
 have e : seenX l ms = -1 := by unfold seenX; rw [h1]
 rw [e] at HI
 have HF := Lib.hid (fail_any' 3 w h)
 have HI2 := Lib.hid HI
 clear hm h1 HI e hR h
 have hmf : ∀ (fn : Fn) (first cap : Array Value) (w : World), (Instr.makeFunc fn first cap).run Tryz.prog w = .ok (.func fn first cap) w := fun _ _ _ _ => rfl
 go_enter Tryz.func115, Tryz.ntmps115
 go_wp2_with fail
 refine HI2.out.mono ?_
 rintro ev w1 ⟨rfl, rfl⟩
 go_wp2_with fail
 refine HF.out.mono ?_
 rintro ev w2 ⟨⟨gi, rfl, hb⟩, hk2⟩
 exact ⟨rfl, ⟨gi, rfl, hb⟩, hk2.of_nil⟩
end Go.Proofs.YtnjjajanfedjiaaGreatDoor
namespace Go.Proofs.YtnjjajanfedjiaaGreatDoor
open Go.RowKit
def vCells (v : Vl) : List Value := [.int .i64 v.kind, .int .i64 v.num, .string (bs v.word)]
def cCells (c : Cl) : List Value := [.string (bs c.name), .int .i64 c.kind]
def vAgg (v : Vl) : Value := .agg #[.int .i64 v.kind, .int .i64 v.num, .string (bs v.word)]
def cAgg (c : Cl) : Value := .agg #[.string (bs c.name), .int .i64 c.kind]
def vsCells (l : List Vl) : List Value := l.flatMap vCells
def csCells (l : List Cl) : List Value := l.flatMap cCells
theorem csCells_length (l : List Cl) : (csCells l).length = l.length * 2 := by
 induction l with
 | nil => rfl
 | cons p l ih => simp [csCells, cCells] at ih ⊢; omega
theorem csCells_append (l m : List Cl) : csCells (l ++ m) = csCells l ++ csCells m := by simp [csCells]
theorem csCells_at (l : List Cl) (k : Nat) (h : k < l.length) : (csCells l)[k * 2]? = some (.string (bs l[k].name)) ∧ (csCells l)[k * 2 + 1]? = some (.int .i64 l[k].kind) := by
 induction l generalizing k with
 | nil => simp at h
 | cons p l ih =>
  rcases k with _ | k
  ·simp [csCells, cCells]
  ·have := ih k (by simpa using h)
   simpa [csCells, cCells, Nat.succ_mul] using this
def RowIs (w : World) (L : List Nat) (u : Value) (r : List Vl) : Prop := ∃ A c, u = .slice A r.length c ∧ r.length ≤ c ∧ Rd w L 3 A r.length (vsCells r)
def RdRows (w : World) (L : List Nat) (A : Option Addr) (rs : List (List Vl)) : Prop :=
 ∃ us : List Value, us.length = rs.length ∧ Rd w L 1 A rs.length us ∧ ∀ i (h : i < us.length) (h' : i < rs.length), RowIs w L us[i] rs[i]
section
variable {w w' : World} {L L' : List Nat} {A : Option Addr} {rs : List (List Vl)} {u : Value} {r : List Vl}
theorem RowIs.keep (h : RowIs w L u r) (hk : Keeps L w w') : RowIs w' L u r := by
 obtain ⟨A, c, e, hc, h⟩ := h
 exact ⟨A, c, e, hc, h.keep hk⟩
theorem RdRows.keep (h : RdRows w L A rs) (hk : Keeps L w w') : RdRows w' L A rs := by
 obtain ⟨us, h1, h2, h3⟩ := h
 exact ⟨us, h1, h2.keep hk, fun i a b => (h3 i a b).keep hk⟩
end
end Go.Proofs.YtnjjajanfedjiaaGreatDoor
