/- slices.IndexFunc and ContainsFunc over values and over rows, with a predicate that is handed in by its contract. -/
import Derived.Test.YtodjaomghmcoiaaGreatDoorCols
import Derived.Test.YtodjaomghmcoiaaGreatDoorRight
namespace Go.Proofs.YtodjaomghmcoiaaGreatDoor
open Go.RowKit
attribute [local go_sem] bs_size bs_extract bs_append bs_toList
def findIx {α : Type} (p : α → Bool) (l : List α) : Int := match l.findIdx? p with | some i => (i : Int) | none => -1
theorem findIx_hit {α : Type} {p : α → Bool} {l : List α} {k : Nat} (h : k < l.length) (hn : ∀ j (hj : j < k), p (l[j]'(by omega)) = false) (hp : p l[k] = true) : findIx p l = (k : Int) := by
  unfold findIx
  have : l.findIdx? p = some k := by
    rw [List.findIdx?_eq_some_iff_getElem]
    exact ⟨h, hp, fun j hj => by simpa using hn j hj⟩
  rw [this]
theorem findIx_none {α : Type} {p : α → Bool} {l : List α} (hn : ∀ j (hj : j < l.length), p l[j] = false) : findIx p l = -1 := by
  unfold findIx
  have : l.findIdx? p = none := by
    rw [List.findIdx?_eq_none_iff]
    intro x hx
    obtain ⟨j, hj, rfl⟩ := List.getElem_of_mem hx
    exact hn j hj
  rw [this]
theorem findIx_any {α : Type} (p : α → Bool) (l : List α) : decide (0 ≤ findIx p l) = l.any p := by
  unfold findIx
  cases h : l.findIdx? p with
  | none =>
    rw [List.findIdx?_eq_none_iff] at h
    simp
    intro x hx
    simpa using h x hx
  | some i =>
    rw [List.findIdx?_eq_some_iff_getElem] at h
    obtain ⟨hi, hp, _⟩ := h
    simp
    exact ⟨_, List.getElem_mem hi, hp⟩
def PredV (k : Nat) (cap : Array Value) (p : Vl → Bool) (l : List Vl) (w : World) : Prop :=
  ∀ c ∈ l, ∀ W, Keeps [] w W → Calls Tryz.prog k (#[vAgg c] ++ cap) W fun e W' => e = .returned (.bool (p c)) ∧ Keeps [] W W'
def PredR (k : Nat) (cap : Array Value) (p : List Vl → Bool) (l : List (List Vl)) (w : World) : Prop :=
  ∀ r ∈ l, ∀ A c W, Keeps [] w W → r.length ≤ c → Rd W [] 3 A r.length (vsCells r) → Calls Tryz.prog k (#[.slice A r.length c] ++ cap) W fun e W' => e = .returned (.bool (p r)) ∧ Keeps [] W W'
set_option maxHeartbeats 2000000 in
theorem indexFuncV_any (k : Nat) (cap : Array Value) (he : ∀ args w, (callFunc k args).run Tryz.prog w = .ok (.enter k args) w) (p : Vl → Bool) (l : List Vl) (A : Option Addr) (c : Nat) (w : World) (hR : Rd w [] 3 A l.length (vsCells l)) (hl : l.length ≤ 4294967296) (hf : PredV k cap p l w) :
    Calls Tryz.prog 76 #[.slice A l.length c, .func (.func k) #[] cap] w fun e w' => e = .returned (.int .i64 (findIx p l)) ∧ Keeps [] w w' := by
  have HR := Lib.hid hR
  have HF := Lib.hid hf
  clear hR hf
  go_enter Tryz.func76, Tryz.ntmps76
  go_wp2
  go_loopw [8] (fun i wr => ∃ n : Nat, n ≤ l.length ∧ i = .int .i64 n ∧ Hid (∀ j (hj : j < n) (hl : j < l.length), p l[j] = false) ∧ Keeps [] w wr) (fun i _ => l.length - (intOf i).toNat)
  case atStart => exact ⟨0, Nat.zero_le _, rfl, fun j hj => absurd hj (by omega), Keeps.refl _ _⟩
  case round =>
    obtain ⟨n, hn, rfl, hno, hk⟩ := hrel
    by_cases hlt : n < l.length
    · obtain ⟨b, o, rfl, _, hb, hc⟩ := (HR.out.keep hk).open' (by omega) (by omega)
      have d1 := hc (n * 3) _ (vsCells_at l n hlt).1
      have d2 := hc (n * 3 + 1) _ (vsCells_at l n hlt).2.1
      have d3 := hc (n * 3 + 2) _ (vsCells_at l n hlt).2.2
      rw [← Nat.add_assoc] at d2 d3
      have HH := HF.out l[n] (List.getElem_mem hlt) wr hk
      generalize hx : l[n] = x at *
      have HX := Lib.hid hx
      have HH' := Lib.hid HH
      clear HH hc hx
      cases hp : p x with
      | true =>
        have hfin : findIx p l = (n : Int) := findIx_hit hlt (fun j hj => hno j hj (by omega)) ((congrArg p HX.out).trans hp)
        rw [hp] at HH'
        have HP := Lib.hid hfin
        clear hfin hp
        go_wp2_with fail
        refine HH'.out.mono ?_
        rintro e W2 ⟨rfl, hk2⟩
        go_wp2
        go_ret
        exact ⟨by rw [HP.out]; rfl, hk.trans hk2⟩
      | false =>
        have hno' : Hid (∀ j (hj : j < n + 1) (hl : j < l.length), p l[j] = false) := fun j hj hl => by
          by_cases h : j < n
          · exact hno j h hl
          · obtain rfl : j = n := by omega
            exact (congrArg p HX.out).trans hp
        rw [hp] at HH'
        clear hp
        go_wp2_with fail
        refine HH'.out.mono ?_
        rintro e W2 ⟨rfl, hk2⟩
        go_wp2
        go_roundw
        case rel => exact ⟨n + 1, by omega, by go_num, hno', hk.trans hk2⟩
        case measure => simp [intOf]; omega
    · have hfin : Hid (findIx p l = -1) := findIx_none fun j hj => hno j (by omega) hj
      go_wp2
      go_ret
      exact ⟨by rw [hfin.out]; rfl, hk⟩
theorem containsFuncV_any (k : Nat) (cap : Array Value) (he : ∀ args w, (callFunc k args).run Tryz.prog w = .ok (.enter k args) w) (p : Vl → Bool) (l : List Vl) (A : Option Addr) (c : Nat) (w : World) (hR : Rd w [] 3 A l.length (vsCells l)) (hl : l.length ≤ 4294967296) (hf : PredV k cap p l w) :
    Calls Tryz.prog 38 #[.slice A l.length c, .func (.func k) #[] cap] w fun e w' => e = .returned (.bool (l.any p)) ∧ Keeps [] w w' := by
  have HC := Lib.hid (indexFuncV_any k cap he p l A c w hR hl hf)
  clear hR hf he
  rw [← findIx_any]
  go_enter Tryz.func38, Tryz.ntmps38
  go_wp2_with (go_at_call 76; refine HC.out.mono ?_; rintro e W2 ⟨rfl, hk2⟩)
  go_ret
  exact ⟨rfl, hk2⟩
set_option maxHeartbeats 2000000 in
theorem indexFuncR_any (k : Nat) (cap : Array Value) (he : ∀ args w, (callFunc k args).run Tryz.prog w = .ok (.enter k args) w) (p : (List Vl) → Bool) (l : List (List Vl)) (A : Option Addr) (c : Nat) (w : World) (hR : RdRows w [] A l) (hl : l.length ≤ 4294967296) (hf : PredR k cap p l w) :
    Calls Tryz.prog 75 #[.slice A l.length c, .func (.func k) #[] cap] w fun e w' => e = .returned (.int .i64 (findIx p l)) ∧ Keeps [] w w' := by
  have HR := Lib.hid hR
  have HF := Lib.hid hf
  clear hR hf
  go_enter Tryz.func75, Tryz.ntmps75
  go_wp2
  go_loopw [8] (fun i wr => ∃ n : Nat, n ≤ l.length ∧ i = .int .i64 n ∧ Hid (∀ j (hj : j < n) (hl : j < l.length), p l[j] = false) ∧ Keeps [] w wr) (fun i _ => l.length - (intOf i).toNat)
  case atStart => exact ⟨0, Nat.zero_le _, rfl, fun j hj => absurd hj (by omega), Keeps.refl _ _⟩
  case round =>
    obtain ⟨n, hn, rfl, hno, hk⟩ := hrel
    by_cases hlt : n < l.length
    · obtain ⟨us, hul, hu1, hu2⟩ := HR.out.keep hk
      obtain ⟨b, o, rfl, _, hb, hc⟩ := hu1.open' (by omega) (by omega)
      have d1 := hc n _ (List.getElem?_eq_getElem (by omega))
      obtain ⟨Ar, cr, hue, hcr, hRr⟩ := hu2 n (by omega) hlt
      rw [hue] at d1
      have HH := HF.out l[n] (List.getElem_mem hlt) Ar cr wr hk hcr hRr
      clear hue hcr hRr hu1 hu2
      generalize hx : l[n] = x at *
      have HX := Lib.hid hx
      have HH' := Lib.hid HH
      clear HH hc hx
      cases hp : p x with
      | true =>
        have hfin : findIx p l = (n : Int) := findIx_hit hlt (fun j hj => hno j hj (by omega)) ((congrArg p HX.out).trans hp)
        rw [hp] at HH'
        have HP := Lib.hid hfin
        clear hfin hp
        go_wp2_with fail
        refine HH'.out.mono ?_
        rintro e W2 ⟨rfl, hk2⟩
        go_wp2
        go_ret
        exact ⟨by rw [HP.out]; rfl, hk.trans hk2⟩
      | false =>
        have hno' : Hid (∀ j (hj : j < n + 1) (hl : j < l.length), p l[j] = false) := fun j hj hl => by
          by_cases h : j < n
          · exact hno j h hl
          · obtain rfl : j = n := by omega
            exact (congrArg p HX.out).trans hp
        rw [hp] at HH'
        clear hp
        go_wp2_with fail
        refine HH'.out.mono ?_
        rintro e W2 ⟨rfl, hk2⟩
        go_wp2
        go_roundw
        case rel => exact ⟨n + 1, by omega, by go_num, hno', hk.trans hk2⟩
        case measure => simp [intOf]; omega
    · have hfin : Hid (findIx p l = -1) := findIx_none fun j hj => hno j (by omega) hj
      go_wp2
      go_ret
      exact ⟨by rw [hfin.out]; rfl, hk⟩
theorem containsFuncR_any (k : Nat) (cap : Array Value) (he : ∀ args w, (callFunc k args).run Tryz.prog w = .ok (.enter k args) w) (p : (List Vl) → Bool) (l : List (List Vl)) (A : Option Addr) (c : Nat) (w : World) (hR : RdRows w [] A l) (hl : l.length ≤ 4294967296) (hf : PredR k cap p l w) :
    Calls Tryz.prog 36 #[.slice A l.length c, .func (.func k) #[] cap] w fun e w' => e = .returned (.bool (l.any p)) ∧ Keeps [] w w' := by
  have HC := Lib.hid (indexFuncR_any k cap he p l A c w hR hl hf)
  clear hR hf he
  rw [← findIx_any]
  go_enter Tryz.func36, Tryz.ntmps36
  go_wp2_with (go_at_call 75; refine HC.out.mono ?_; rintro e W2 ⟨rfl, hk2⟩)
  go_ret
  exact ⟨rfl, hk2⟩
end Go.Proofs.YtodjaomghmcoiaaGreatDoor
