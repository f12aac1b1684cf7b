/- Go's package slices at []string. -/
import Derived.Test.YtelafmakgokhbaaDoorDisk
namespace Go.Proofs.YtelafmakgokhbaaDoor
open Go.RowKit
attribute [local go_sem] bs_size bs_extract bs_append bs_toList

theorem strs_length (l : List Bs) : (strs l).length = l.length := by simp [strs]
theorem strs_at' (l : List Bs) (k : Nat) (h : k < l.length) : (strs l)[k]? = some (.string (bs l[k])) := by simp [strs, h]

/-- The index of the first one that a predicate holds of; -1: none. -/
def findIx (p : Bs → Bool) (l : List Bs) : Int := match l.findIdx? p with | some i => (i : Int) | none => -1
theorem findIx_hit {p : Bs → Bool} {l : List Bs} {k : Nat} (h : k < l.length) (hn : ∀ j (hj : j < k), p (l[j]'(by omega)) = false) (hp : p l[k] = true) : findIx p l = (k : Int) := by
  unfold findIx
  have : l.findIdx? p = some k := by
    rw [List.findIdx?_eq_some_iff_getElem]
    exact ⟨h, hp, fun j hj => by simp [hn j hj]⟩
  rw [this]
theorem findIx_none {p : Bs → Bool} {l : List Bs} (hn : ∀ j (hj : j < l.length), p l[j] = false) : findIx p l = -1 := by
  unfold findIx
  have : l.findIdx? p = none := by
    rw [List.findIdx?_eq_none_iff]
    intro x hx
    obtain ⟨j, hj, rfl⟩ := List.getElem_of_mem hx
    simp [hn j hj]
  rw [this]
theorem findIx_any (p : Bs → Bool) (l : List Bs) : decide (0 ≤ findIx p l) = l.any p := by
  rw [Bool.eq_iff_iff, decide_eq_true_iff, List.any_eq_true]
  unfold findIx
  cases h : l.findIdx? p with
  | none =>
    rw [List.findIdx?_eq_none_iff] at h
    simp
    intro x hx
    simpa using h x hx
  | some i =>
    rw [List.findIdx?_eq_some_iff_getElem] at h
    obtain ⟨hi, hp, _⟩ := h
    simp
    exact ⟨_, List.getElem_mem hi, hp⟩

/-- What is known of a predicate that is handed over as function k, with one captured value or none. -/
def PredAt (k : Nat) (cap : Array Value) (p : Bs → Bool) (l : List Bs) (w : World) : Prop :=
  ∀ s ∈ l, ∀ W, Keeps [] w W → Calls Tryd.prog k (#[.string (bs s)] ++ cap) W fun e W' => e = .returned (.bool (p s)) ∧ Keeps [] W W'

set_option maxHeartbeats 1000000 in
theorem indexFunc_any (k : Nat) (cap : Array Value) (he : ∀ args w, (callFunc k args).run Tryd.prog w = .ok (.enter k args) w) (p : Bs → Bool) (l : List Bs) (A : Option Addr) (c : Nat) (w : World) (hR : Rd w [] 1 A l.length (strs l)) (hl : l.length ≤ 4294967296) (hf : PredAt k cap p l w) :
    Calls Tryd.prog 19 #[.slice A l.length c, .func (.func k) #[] cap] w fun e w' => e = .returned (.int .i64 (findIx p l)) ∧ Keeps [] w w' := by
  have HR := Lib.hid hR
  have HF := Lib.hid hf
  clear hR hf
  go_enter Tryd.func19, Tryd.ntmps19
  go_wp2
  go_loopw [8] (fun i wr => ∃ n : Nat, n ≤ l.length ∧ i = .int .i64 n ∧ Hid (∀ j (hj : j < n) (hl : j < l.length), p l[j] = false) ∧ Keeps [] w wr) (fun i _ => l.length - (intOf i).toNat)
  case atStart => exact ⟨0, Nat.zero_le _, rfl, fun j hj => absurd hj (by omega), Keeps.refl _ _⟩
  case round =>
    obtain ⟨n, hn, rfl, hno, hk⟩ := hrel
    by_cases hlt : n < l.length
    · obtain ⟨b, o, rfl, _, hb, hc⟩ := (HR.out.keep hk).open' (by omega) (by omega)
      have d1 := hc n _ (strs_at' l n hlt)
      have HH := HF.out l[n] (List.getElem_mem hlt) wr hk
      have HH' := Lib.hid HH
      clear HH hc
      by_cases hp : p l[n] = true
      · have hfin : findIx p l = (n : Int) := findIx_hit hlt (fun j hj => hno j hj (by omega)) hp
        rw [hp] at HH'
        have HP := Lib.hid hfin
        clear hfin hp
        go_wp2_with fail
        refine HH'.out.mono ?_
        rintro e W2 ⟨rfl, hk2⟩
        go_wp2
        go_ret
        exact ⟨by rw [HP.out]; rfl, hk.trans hk2⟩
      · have hp' : p l[n] = false := by simpa using hp
        have hno' : Hid (∀ j (hj : j < n + 1) (hl : j < l.length), p l[j] = false) := fun j hj hl => by
          by_cases h : j < n
          · exact hno j h hl
          · obtain rfl : j = n := by omega
            exact hp'
        rw [hp'] at HH'
        clear hp hp'
        go_wp2_with fail
        refine HH'.out.mono ?_
        rintro e W2 ⟨rfl, hk2⟩
        go_wp2
        go_roundw
        case rel => exact ⟨n + 1, by omega, by go_num, hno', hk.trans hk2⟩
        case measure => simp [intOf]; omega
    · have hfin : Hid (findIx p l = -1) := findIx_none fun j hj => hno j (by omega) hj
      go_wp2
      go_ret
      exact ⟨by rw [hfin.out]; rfl, hk⟩

theorem containsFunc_any (k : Nat) (cap : Array Value) (he : ∀ args w, (callFunc k args).run Tryd.prog w = .ok (.enter k args) w) (p : Bs → Bool) (l : List Bs) (A : Option Addr) (c : Nat) (w : World) (hR : Rd w [] 1 A l.length (strs l)) (hl : l.length ≤ 4294967296) (hf : PredAt k cap p l w) :
    Calls Tryd.prog 5 #[.slice A l.length c, .func (.func k) #[] cap] w fun e w' => e = .returned (.bool (l.any p)) ∧ Keeps [] w w' := by
  have HC := Lib.hid (indexFunc_any k cap he p l A c w hR hl hf)
  clear hR hf he
  rw [← findIx_any]
  go_enter Tryd.func5, Tryd.ntmps5
  go_wp2_with (go_at_call 19; refine HC.out.mono ?_; rintro e W2 ⟨rfl, hk2⟩)
  go_ret
  exact ⟨rfl, hk2⟩
end Go.Proofs.YtelafmakgokhbaaDoor
