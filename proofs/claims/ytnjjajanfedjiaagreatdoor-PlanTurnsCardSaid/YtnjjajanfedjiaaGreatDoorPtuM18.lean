/- slices.IndexFunc and ContainsFunc over inputs and over jobs, with a predicate that is handed in by its contract. slices.IndexFunc and ContainsFunc over texts, with a predicate that is handed in by its contract. slices.Contains at texts. -/
import Derived.Test.YtnjjajanfedjiaaGreatDoorPtuM16
import Derived.Test.YtnjjajanfedjiaaGreatDoorPtuM17
import Derived.Test.YtnjjajanfedjiaaGreatDoorPtuM4
set_option linter.unusedSimpArgs false
set_option linter.unusedVariables false
namespace Go.Proofs.YtnjjajanfedjiaaGreatDoor
open Go.RowKit Go.BigFrame
attribute [local go_sem] bs_size bs_extract bs_append bs_toList
def PredI (k : Nat) (cap : Array Value) (p : In → Bool) (l : List In) (w : World) : Prop :=
 ∀ x ∈ l, ∀ W cs, Keeps [] w W → InIn W cs x → Calls Tryz.prog k (#[.agg cs.toArray] ++ cap) W fun e W' => e = .returned (.bool (p x)) ∧ Keeps [] W W'
set_option maxRecDepth 100000 in
set_option maxHeartbeats 4000000 in
theorem indexFuncI_any (k : Nat) (cap : Array Value) (he : ∀ args w, (callFunc k args).run Tryz.prog w = .ok (.enter k args) w) (p : In → Bool) (l : List In) (v : Value) (w : World) (hR : LsIn InIn 3 w v l) (hf : PredI k cap p l w) :
  Calls Tryz.prog 88 #[v, .func (.func k) #[] cap] w fun e w' => e = .returned (.int .i64 (findIx p l)) ∧ Keeps [] w w' := by
 have hR' := hR
 obtain ⟨hl, A, c, rfl, hcap, hat⟩ := hR
 have HR := Lib.hid hat
 have HF := Lib.hid hf
 clear hR' hf hat
 go_enter Tryz.func88, Tryz.ntmps88
 go_wp2
 go_loopw [8] (fun i wr => ∃ n : Nat, n ≤ l.length ∧ i = .int .i64 n ∧ Hid (∀ j (hj : j < n) (hl : j < l.length), p l[j] = false) ∧ Hid (Keeps [] w wr)) (fun i _ => l.length - (intOf i).toNat)
 case atStart => exact ⟨0, Nat.zero_le _, rfl, fun j hj => absurd hj (by omega), Lib.hid (Keeps.refl _ _)⟩
 case round =>
  obtain ⟨n, hn, rfl, hno, hk⟩ := hrel
  by_cases hlt : n < l.length
  ·obtain ⟨g, cs, rfl, hg, hcl, hEl, hc0⟩ := HR.out n hlt
   have hEl' := hEl.keep hk.out
   have HH := HF.out l[n] (List.getElem_mem hlt) wr cs hk.out hEl'
   have hc : ∀ j u, cs[j]? = some u → wr.cell? ⟨g, n * 3 + j, none⟩ = some u := fun j u hu => hk.out.cell_of (hc0 j u hu) (by simp)
   generalize hx : l[n] = x at *
   have HX := Lib.hid hx
   obtain ⟨vc, rfl, -⟩ := hEl
   have d0 := hc 0 _ rfl
   have d1 := hc 1 _ rfl
   have d2 := hc 2 _ rfl
   rw [Nat.add_zero] at d0
   have HH' : Hid (Calls Tryz.prog k (#[.agg #[.int .i64 x.at_, .string (bs x.name), vc]] ++ cap) wr fun e W' => e = .returned (.bool (p x)) ∧ Keeps [] wr W') := Lib.hid HH
   clear HH hc hx hc0 hcl hEl'
   cases hp : p x with
   | true =>
    have hfin : findIx p l = (n : Int) := findIx_hit hlt (fun j hj => hno j hj (by omega)) ((congrArg p HX.out).trans hp)
    rw [hp] at HH'
    have HP := Lib.hid hfin
    clear hfin hp
    go_wp2_with fail
    refine HH'.out.mono ?_
    rintro e W2 ⟨rfl, hk2⟩
    go_wp2
    go_ret
    exact ⟨by rw [HP.out]; rfl, hk.out.trans hk2⟩
   | false =>
    have hno' : Hid (∀ j (hj : j < n + 1) (hl : j < l.length), p l[j] = false) := fun j hj hl => by
     by_cases h : j < n
     ·exact hno j h hl
     ·obtain rfl : j = n := by omega
      exact (congrArg p HX.out).trans hp
    rw [hp] at HH'
    clear hp
    go_wp2_with fail
    refine HH'.out.mono ?_
    rintro e W2 ⟨rfl, hk2⟩
    have HX2 := Lib.hid (hk.out.trans hk2)
    go_wp2
    go_roundw
    case rel => exact ⟨n + 1, by omega, by go_num, hno', HX2⟩
    case measure => simp [intOf]; omega
  ·have hfin : Hid (findIx p l = -1) := findIx_none fun j hj => hno j (by omega) hj
   go_wp2
   go_ret
   exact ⟨by rw [hfin.out]; rfl, hk.out⟩
theorem containsFuncI_any (k : Nat) (cap : Array Value) (he : ∀ args w, (callFunc k args).run Tryz.prog w = .ok (.enter k args) w) (p : In → Bool) (l : List In) (v : Value) (w : World) (hR : LsIn InIn 3 w v l) (hf : PredI k cap p l w) :
  Calls Tryz.prog 51 #[v, .func (.func k) #[] cap] w fun e w' => e = .returned (.bool (l.any p)) ∧ Keeps [] w w' := by
 have HC := Lib.hid (indexFuncI_any k cap he p l v w hR hf)
 clear hf he
 obtain ⟨hl, A, c, rfl, hcap, hat⟩ := hR
 clear hat
 rw [← findIx_any]
 go_enter Tryz.func51, Tryz.ntmps51
 go_wp2_with (go_at_call 88; refine HC.out.mono ?_; rintro e W2 ⟨rfl, hk2⟩)
 go_ret
 exact ⟨rfl, hk2⟩
def PredJ (k : Nat) (cap : Array Value) (p : Jb → Bool) (l : List Jb) (w : World) : Prop :=
 ∀ x ∈ l, ∀ W cs, Keeps [] w W → JbIn W cs x → Calls Tryz.prog k (#[.agg cs.toArray] ++ cap) W fun e W' => e = .returned (.bool (p x)) ∧ Keeps [] W W'
set_option maxRecDepth 100000 in
set_option maxHeartbeats 4000000 in
theorem indexFuncJ_any (k : Nat) (cap : Array Value) (he : ∀ args w, (callFunc k args).run Tryz.prog w = .ok (.enter k args) w) (p : Jb → Bool) (l : List Jb) (v : Value) (w : World) (hR : LsIn JbIn 15 w v l) (hf : PredJ k cap p l w) :
  Calls Tryz.prog 89 #[v, .func (.func k) #[] cap] w fun e w' => e = .returned (.int .i64 (findIx p l)) ∧ Keeps [] w w' := by
 have hR' := hR
 obtain ⟨hl, A, c, rfl, hcap, hat⟩ := hR
 have HR := Lib.hid hat
 have HF := Lib.hid hf
 clear hR' hf hat
 go_enter Tryz.func89, Tryz.ntmps89
 go_wp2
 go_loopw [8] (fun i wr => ∃ n : Nat, n ≤ l.length ∧ i = .int .i64 n ∧ Hid (∀ j (hj : j < n) (hl : j < l.length), p l[j] = false) ∧ Hid (Keeps [] w wr)) (fun i _ => l.length - (intOf i).toNat)
 case atStart => exact ⟨0, Nat.zero_le _, rfl, fun j hj => absurd hj (by omega), Lib.hid (Keeps.refl _ _)⟩
 case round =>
  obtain ⟨n, hn, rfl, hno, hk⟩ := hrel
  by_cases hlt : n < l.length
  ·obtain ⟨g, cs, rfl, hg, hcl, hEl, hc0⟩ := HR.out n hlt
   have hEl' := hEl.keep hk.out
   have HH := HF.out l[n] (List.getElem_mem hlt) wr cs hk.out hEl'
   have hc : ∀ j u, cs[j]? = some u → wr.cell? ⟨g, n * 15 + j, none⟩ = some u := fun j u hu => hk.out.cell_of (hc0 j u hu) (by simp)
   generalize hx : l[n] = x at *
   have HX := Lib.hid hx
   obtain ⟨v2, v3, v4, rfl, -, -, -⟩ := hEl
   have d0 := hc 0 _ rfl
   have d1 := hc 1 _ rfl
   have d2 := hc 2 _ rfl
   have d3 := hc 3 _ rfl
   have d4 := hc 4 _ rfl
   have d5 := hc 5 _ rfl
   have d6 := hc 6 _ rfl
   have d7 := hc 7 _ rfl
   have d8 := hc 8 _ rfl
   have d9 := hc 9 _ rfl
   have d10 := hc 10 _ rfl
   have d11 := hc 11 _ rfl
   have d12 := hc 12 _ rfl
   have d13 := hc 13 _ rfl
   have d14 := hc 14 _ rfl
   rw [Nat.add_zero] at d0
   have HH' : Hid (Calls Tryz.prog k (#[.agg (jbCells x v2 v3 v4)] ++ cap) wr fun e W' => e = .returned (.bool (p x)) ∧ Keeps [] wr W') := Lib.hid HH
   clear HH hc hx hc0 hcl hEl'
   cases hp : p x with
   | true =>
    have hfin : findIx p l = (n : Int) := findIx_hit hlt (fun j hj => hno j hj (by omega)) ((congrArg p HX.out).trans hp)
    rw [hp] at HH'
    have HP := Lib.hid hfin
    clear hfin hp
    go_wp2_with fail
    refine HH'.out.mono ?_
    rintro e W2 ⟨rfl, hk2⟩
    go_wp2
    go_ret
    exact ⟨by rw [HP.out]; rfl, hk.out.trans hk2⟩
   | false =>
    have hno' : Hid (∀ j (hj : j < n + 1) (hl : j < l.length), p l[j] = false) := fun j hj hl => by
     by_cases h : j < n
     ·exact hno j h hl
     ·obtain rfl : j = n := by omega
      exact (congrArg p HX.out).trans hp
    rw [hp] at HH'
    clear hp
    go_wp2_with fail
    refine HH'.out.mono ?_
    rintro e W2 ⟨rfl, hk2⟩
    have HX2 := Lib.hid (hk.out.trans hk2)
    go_wp2
    go_roundw
    case rel => exact ⟨n + 1, by omega, by go_num, hno', HX2⟩
    case measure => simp [intOf]; omega
  ·have hfin : Hid (findIx p l = -1) := findIx_none fun j hj => hno j (by omega) hj
   go_wp2
   go_ret
   exact ⟨by rw [hfin.out]; rfl, hk.out⟩
end Go.Proofs.YtnjjajanfedjiaaGreatDoor
namespace Go.Proofs.YtnjjajanfedjiaaGreatDoor
open Go.RowKit
attribute [local go_sem] bs_size bs_extract bs_append bs_toList
def PredS (k : Nat) (cap : Array Value) (p : Bs → Bool) (l : List Bs) (w : World) : Prop :=
 ∀ c ∈ l, ∀ W, Keeps [] w W → Calls Tryz.prog k (#[.string (bs c)] ++ cap) W fun e W' => e = .returned (.bool (p c)) ∧ Keeps [] W W'
set_option maxHeartbeats 2000000 in
theorem indexFuncS_any (k : Nat) (cap : Array Value) (he : ∀ args w, (callFunc k args).run Tryz.prog w = .ok (.enter k args) w) (p : Bs → Bool) (l : List Bs) (A : Option Addr) (c : Nat) (w : World) (hR : Rd w [] 1 A l.length (strs l)) (hl : l.length ≤ 4294967296) (hf : PredS k cap p l w) :
  Calls Tryz.prog 101 #[.slice A l.length c, .func (.func k) #[] cap] w fun e w' => e = .returned (.int .i64 (findIx p l)) ∧ Keeps [] w w' := by
 have HR := Lib.hid hR
 have HF := Lib.hid hf
 clear hR hf
 go_enter Tryz.func101, Tryz.ntmps101
 go_wp2
 go_loopw [8] (fun i wr => ∃ n : Nat, n ≤ l.length ∧ i = .int .i64 n ∧ Hid (∀ j (hj : j < n) (hl : j < l.length), p l[j] = false) ∧ Keeps [] w wr) (fun i _ => l.length - (intOf i).toNat)
 case atStart => exact ⟨0, Nat.zero_le _, rfl, fun j hj => absurd hj (by omega), Keeps.refl _ _⟩
 case round =>
  obtain ⟨n, hn, rfl, hno, hk⟩ := hrel
  by_cases hlt : n < l.length
  ·obtain ⟨b, o, rfl, _, hb, hc⟩ := (HR.out.keep hk).open' (by omega) (by omega)
   have d1 := hc n _ (strs_at' l n hlt)
   have HH := HF.out l[n] (List.getElem_mem hlt) wr hk
   generalize hx : l[n] = x at *
   have HX := Lib.hid hx
   have HH' := Lib.hid HH
   clear HH hc hx
   cases hp : p x with
   | true =>
    have hfin : findIx p l = (n : Int) := findIx_hit hlt (fun j hj => hno j hj (by omega)) ((congrArg p HX.out).trans hp)
    rw [hp] at HH'
    have HP := Lib.hid hfin
    clear hfin hp
    go_wp2_with fail
    refine HH'.out.mono ?_
    rintro e W2 ⟨rfl, hk2⟩
    go_wp2
    go_ret
    exact ⟨by rw [HP.out]; rfl, hk.trans hk2⟩
   | false =>
    have hno' : Hid (∀ j (hj : j < n + 1) (hl : j < l.length), p l[j] = false) := fun j hj hl => by
     by_cases h : j < n
     ·exact hno j h hl
     ·obtain rfl : j = n := by omega
      exact (congrArg p HX.out).trans hp
    rw [hp] at HH'
    clear hp
    go_wp2_with fail
    refine HH'.out.mono ?_
    rintro e W2 ⟨rfl, hk2⟩
    go_wp2
    go_roundw
    case rel => exact ⟨n + 1, by omega, by go_num, hno', hk.trans hk2⟩
    case measure => simp [intOf]; omega
  ·have hfin : Hid (findIx p l = -1) := findIx_none fun j hj => hno j (by omega) hj
   go_wp2
   go_ret
   exact ⟨by rw [hfin.out]; rfl, hk⟩
theorem containsFuncS_any (k : Nat) (cap : Array Value) (he : ∀ args w, (callFunc k args).run Tryz.prog w = .ok (.enter k args) w) (p : Bs → Bool) (l : List Bs) (A : Option Addr) (c : Nat) (w : World) (hR : Rd w [] 1 A l.length (strs l)) (hl : l.length ≤ 4294967296) (hf : PredS k cap p l w) :
  Calls Tryz.prog 60 #[.slice A l.length c, .func (.func k) #[] cap] w fun e w' => e = .returned (.bool (l.any p)) ∧ Keeps [] w w' := by
 have HC := Lib.hid (indexFuncS_any k cap he p l A c w hR hl hf)
 clear hR hf he
 rw [← findIx_any]
 go_enter Tryz.func60, Tryz.ntmps60
 go_wp2_with (go_at_call 101; refine HC.out.mono ?_; rintro e W2 ⟨rfl, hk2⟩)
 go_ret
 exact ⟨rfl, hk2⟩
end Go.Proofs.YtnjjajanfedjiaaGreatDoor
namespace Go.Proofs.YtnjjajanfedjiaaGreatDoor
open Go.RowKit
attribute [local go_sem] bs_size bs_extract bs_append bs_toList
set_option maxHeartbeats 1000000 in
theorem index_str (v : Bs) (l : List Bs) (A : Option Addr) (c : Nat) (w : World) (hR : Rd w [] 1 A l.length (strs l)) (hl : l.length ≤ 4294967296) :
  Calls Tryz.prog 90 #[.slice A l.length c, .string (bs v)] w fun e w' => e = .returned (.int .i64 (findIx (fun t => v == t) l)) ∧ w = w' := by
 have HR := Lib.hid hR
 clear hR
 go_enter Tryz.func90, Tryz.ntmps90
 go_wp2
 go_loop [8] (fun i => ∃ n : Nat, n ≤ l.length ∧ i = .int .i64 n ∧ Hid (∀ j (hj : j < n) (hl : j < l.length), (v == l[j]) = false)) (fun i => l.length - (intOf i).toNat)
 case atStart => exact ⟨0, Nat.zero_le _, rfl, fun j hj => absurd hj (by omega)⟩
 case round =>
  obtain ⟨n, hn, rfl, hno⟩ := hrel
  by_cases hlt : n < l.length
  ·obtain ⟨b, o, rfl, _, hb, hc⟩ := HR.out.open' (by omega) (by omega)
   have d1 := hc n _ (strs_at' l n hlt)
   clear hc
   cases hp : (v == l[n]) with
   | true =>
    have hfin : findIx (fun t => v == t) l = (n : Int) := findIx_hit hlt (fun j hj => hno j hj (by omega)) hp
    have HP := Lib.hid hfin
    clear hfin
    go_wp2
    go_ret
    exact ⟨by rw [HP.out]; rfl, rfl⟩
   | false =>
    have hno' : Hid (∀ j (hj : j < n + 1) (hl : j < l.length), (v == l[j]) = false) := fun j hj hl => by
     by_cases h : j < n
     ·exact hno j h hl
     ·obtain rfl : j = n := by omega
      exact hp
    go_wp2
    go_round
    case rel => exact ⟨n + 1, by omega, by go_num, hno'⟩
    case measure => simp [intOf]; omega
  ·have hfin : Hid (findIx (fun t => v == t) l = -1) := findIx_none fun j hj => hno j (by omega) hj
   go_wp2
   go_ret
   exact ⟨by rw [hfin.out]; rfl, rfl⟩
theorem contains_str (v : Bs) (l : List Bs) (A : Option Addr) (c : Nat) (w : World) (hR : Rd w [] 1 A l.length (strs l)) (hl : l.length ≤ 4294967296) :
  Calls Tryz.prog 55 #[.slice A l.length c, .string (bs v)] w fun e w' => e = .returned (.bool (l.any fun t => v == t)) ∧ w = w' := by
 have HC := Lib.hid (index_str v l A c w hR hl)
 clear hR
 rw [← findIx_any]
 go_enter Tryz.func55, Tryz.ntmps55
 go_wp2_with (go_at_call 90; refine HC.out.mono ?_; rintro e W2 ⟨rfl, rfl⟩)
 go_ret
 exact ⟨rfl, rfl⟩
end Go.Proofs.YtnjjajanfedjiaaGreatDoor
