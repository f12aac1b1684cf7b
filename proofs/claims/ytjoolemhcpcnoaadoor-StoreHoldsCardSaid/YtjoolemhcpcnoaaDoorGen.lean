/- Go's package slices at []string. -/
import Derived.Test.YtjoolemhcpcnoaaDoorDisk
namespace Go.Proofs.YtjoolemhcpcnoaaDoor
open Go.RowKit
attribute [local go_sem] bs_size bs_extract bs_append bs_toList

theorem strs_length (l : List Bs) : (strs l).length = l.length := by simp [strs]
theorem strs_at' (l : List Bs) (k : Nat) (h : k < l.length) : (strs l)[k]? = some (.string (bs l[k])) := by simp [strs, h]

/-- The index of the first one that a predicate holds of; -1: none. -/
def findIx (p : Bs → Bool) (l : List Bs) : Int := match l.findIdx? p with | some i => (i : Int) | none => -1
theorem findIx_hit {p : Bs → Bool} {l : List Bs} {k : Nat} (h : k < l.length) (hn : ∀ j (hj : j < k), p (l[j]'(by omega)) = false) (hp : p l[k] = true) : findIx p l = (k : Int) := by
  unfold findIx
  have : l.findIdx? p = some k := by
    rw [List.findIdx?_eq_some_iff_getElem]
    exact ⟨h, hp, fun j hj => by simp [hn j hj]⟩
  rw [this]
theorem findIx_none {p : Bs → Bool} {l : List Bs} (hn : ∀ j (hj : j < l.length), p l[j] = false) : findIx p l = -1 := by
  unfold findIx
  have : l.findIdx? p = none := by
    rw [List.findIdx?_eq_none_iff]
    intro x hx
    obtain ⟨j, hj, rfl⟩ := List.getElem_of_mem hx
    simp [hn j hj]
  rw [this]
theorem findIx_any (p : Bs → Bool) (l : List Bs) : decide (0 ≤ findIx p l) = l.any p := by
  rw [Bool.eq_iff_iff, decide_eq_true_iff, List.any_eq_true]
  unfold findIx
  cases h : l.findIdx? p with
  | none =>
    rw [List.findIdx?_eq_none_iff] at h
    simp
    intro x hx
    simpa using h x hx
  | some i =>
    rw [List.findIdx?_eq_some_iff_getElem] at h
    obtain ⟨hi, hp, _⟩ := h
    simp
    exact ⟨_, List.getElem_mem hi, hp⟩

/-- What is known of a predicate that is handed over as function k, with one captured value or none. -/
def PredAt (k : Nat) (cap : Array Value) (p : Bs → Bool) (l : List Bs) (w : World) : Prop :=
  ∀ s ∈ l, ∀ W, Keeps [] w W → Calls Tryd.prog k (#[.string (bs s)] ++ cap) W fun e W' => e = .returned (.bool (p s)) ∧ Keeps [] W W'

set_option maxHeartbeats 1000000 in
theorem indexFunc_any (k : Nat) (cap : Array Value) (he : ∀ args w, (callFunc k args).run Tryd.prog w = .ok (.enter k args) w) (p : Bs → Bool) (l : List Bs) (A : Option Addr) (c : Nat) (w : World) (hR : Rd w [] 1 A l.length (strs l)) (hl : l.length ≤ 4294967296) (hf : PredAt k cap p l w) :
    Calls Tryd.prog 49 #[.slice A l.length c, .func (.func k) #[] cap] w fun e w' => e = .returned (.int .i64 (findIx p l)) ∧ Keeps [] w w' := by
  have HR := Lib.hid hR
  have HF := Lib.hid hf
  clear hR hf
  go_enter Tryd.func49, Tryd.ntmps49
  go_wp2
  go_loopw [8] (fun i wr => ∃ n : Nat, n ≤ l.length ∧ i = .int .i64 n ∧ Hid (∀ j (hj : j < n) (hl : j < l.length), p l[j] = false) ∧ Keeps [] w wr) (fun i _ => l.length - (intOf i).toNat)
  case atStart => exact ⟨0, Nat.zero_le _, rfl, fun j hj => absurd hj (by omega), Keeps.refl _ _⟩
  case round =>
    obtain ⟨n, hn, rfl, hno, hk⟩ := hrel
    by_cases hlt : n < l.length
    · obtain ⟨b, o, rfl, _, hb, hc⟩ := (HR.out.keep hk).open' (by omega) (by omega)
      have d1 := hc n _ (strs_at' l n hlt)
      have HH := HF.out l[n] (List.getElem_mem hlt) wr hk
      have HH' := Lib.hid HH
      clear HH hc
      by_cases hp : p l[n] = true
      · have hfin : findIx p l = (n : Int) := findIx_hit hlt (fun j hj => hno j hj (by omega)) hp
        rw [hp] at HH'
        have HP := Lib.hid hfin
        clear hfin hp
        go_wp2_with fail
        refine HH'.out.mono ?_
        rintro e W2 ⟨rfl, hk2⟩
        go_wp2
        go_ret
        exact ⟨by rw [HP.out]; rfl, hk.trans hk2⟩
      · have hp' : p l[n] = false := by simpa using hp
        have hno' : Hid (∀ j (hj : j < n + 1) (hl : j < l.length), p l[j] = false) := fun j hj hl => by
          by_cases h : j < n
          · exact hno j h hl
          · obtain rfl : j = n := by omega
            exact hp'
        rw [hp'] at HH'
        clear hp hp'
        go_wp2_with fail
        refine HH'.out.mono ?_
        rintro e W2 ⟨rfl, hk2⟩
        go_wp2
        go_roundw
        case rel => exact ⟨n + 1, by omega, by go_num, hno', hk.trans hk2⟩
        case measure => simp [intOf]; omega
    · have hfin : Hid (findIx p l = -1) := findIx_none fun j hj => hno j (by omega) hj
      go_wp2
      go_ret
      exact ⟨by rw [hfin.out]; rfl, hk⟩

theorem containsFunc_any (k : Nat) (cap : Array Value) (he : ∀ args w, (callFunc k args).run Tryd.prog w = .ok (.enter k args) w) (p : Bs → Bool) (l : List Bs) (A : Option Addr) (c : Nat) (w : World) (hR : Rd w [] 1 A l.length (strs l)) (hl : l.length ≤ 4294967296) (hf : PredAt k cap p l w) :
    Calls Tryd.prog 9 #[.slice A l.length c, .func (.func k) #[] cap] w fun e w' => e = .returned (.bool (l.any p)) ∧ Keeps [] w w' := by
  have HC := Lib.hid (indexFunc_any k cap he p l A c w hR hl hf)
  clear hR hf he
  rw [← findIx_any]
  go_enter Tryd.func9, Tryd.ntmps9
  go_wp2_with (go_at_call 49; refine HC.out.mono ?_; rintro e W2 ⟨rfl, hk2⟩)
  go_ret
  exact ⟨rfl, hk2⟩

/-- slices.Equal at []string. -/
theorem equal_any (l m : List Bs) (A B : Option Addr) (c d : Nat) (w : World) (hA : Rd w [] 1 A l.length (strs l)) (hB : Rd w [] 1 B m.length (strs m)) (hl : l.length ≤ 4294967296) (hm : m.length ≤ 4294967296) :
    Calls Tryd.prog 18 #[.slice A l.length c, .slice B m.length d] w fun e w' => e = .returned (.bool (l == m)) ∧ Keeps [] w w' := by
  by_cases hne : l.length = m.length
  · have hcast : ((l.length : Int) == (m.length : Int)) = true := by simp [hne]
    have HA := Lib.hid hA
    have HB := Lib.hid hB
    have HN := Lib.hid hne
    have hn1 : l.length ≤ m.length := by omega
    have hn2 : m.length ≤ l.length := by omega
    clear hA hB hne hcast
    go_enter Tryd.func18, Tryd.ntmps18
    go_wp2
    go_loopw [13] (fun i wr => ∃ n : Nat, n ≤ l.length ∧ i = .int .i64 n ∧ Hid (∀ j (hj : j < n) (hl : j < l.length) (hm : j < m.length), l[j] = m[j]) ∧ Keeps [] w wr) (fun i _ => l.length - (intOf i).toNat)
    case atStart => exact ⟨0, Nat.zero_le _, rfl, fun j hj => absurd hj (by omega), Keeps.refl _ _⟩
    case round =>
      obtain ⟨n, hn, rfl, hno, hk⟩ := hrel
      by_cases hlt : n < l.length
      · have hlt2 : n < m.length := by omega
        obtain ⟨b, o, rfl, _, hb, hc⟩ := (HA.out.keep hk).open' (by omega) (by omega)
        obtain ⟨b', o', rfl, _, hb', hc'⟩ := (HB.out.keep hk).open' (by omega) (by omega)
        have d1 := hc n _ (strs_at' l n hlt)
        have d2 := hc' n _ (strs_at' m n hlt2)
        have hq1 : (n : Int) < (l.length : Int) := by omega
        have hq2 : (n : Int) < (m.length : Int) := by omega
        have hq0 : (0 : Int) ≤ (n : Int) := by omega
        clear hc hc'
        cases hq : l[n] == m[n] with
        | true =>
          have hq' : (l[n] == m[n]) = true := hq
          have HQ : Hid (l[n] = m[n]) := eq_of_beq hq
          clear hq
          go_wp2
          go_quiet (fail)
          go_wp2
          go_roundw
          case rel =>
            refine ⟨n + 1, by omega, by go_num, fun j hj hl hm => ?_, hk.drewN _⟩
            by_cases h : j < n
            · exact hno j h hl hm
            · obtain rfl : j = n := by omega
              exact HQ.out
          case measure => simp [intOf]; omega
        | false =>
          have hq' : (l[n] == m[n]) = false := hq
          have HQ : Hid (l[n] ≠ m[n]) := beq_eq_false_iff_ne.1 hq
          clear hq
          go_wp2
          go_quiet (fail)
          go_wp2
          go_ret
          refine ⟨?_, hk.drewN _⟩
          have : (l == m) = false := by
            rw [beq_eq_false_iff_ne]
            rintro rfl
            exact HQ.out rfl
          rw [this]; rfl
      · have hfin : Hid ((l == m) = true) := by
          rw [Hid, beq_iff_eq]
          exact List.ext_getElem HN.out fun j h1 h2 => hno j (by omega) h1 h2
        go_wp2
        go_ret
        exact ⟨by rw [hfin.out]; rfl, hk⟩
  · have hne' : ((l.length : Nat) == m.length) = false := by simpa using hne
    have hfin : Hid ((l == m) = false) := by
      rw [Hid, beq_eq_false_iff_ne]
      rintro rfl
      exact hne rfl
    clear hA hB
    go_enter Tryd.func18, Tryd.ntmps18
    go_wp2
    go_ret
    exact ⟨by rw [hfin.out]; rfl, Keeps.refl _ _⟩
theorem equal_at (l m : List Bs) (n k : Nat) (A B : Option Addr) (c d : Nat) (w : World) (hn : l.length = n) (hk : m.length = k) (hA : Rd w [] 1 A n (strs l)) (hB : Rd w [] 1 B k (strs m)) (hl : n ≤ 4294967296) (hm : k ≤ 4294967296) :
    Calls Tryd.prog 18 #[.slice A n c, .slice B k d] w fun e w' => e = .returned (.bool (l == m)) ∧ Keeps [] w w' := by
  subst hn; subst hk
  exact equal_any l m A B c d w hA hB hl hm
end Go.Proofs.YtjoolemhcpcnoaaDoor
