/- slices.Contains at texts. -/
import Derived.Test.YtelafmakgokhbaaDoorGen
namespace Go.Proofs.YtelafmakgokhbaaDoor
open Go.RowKit
attribute [local go_sem] bs_size bs_extract bs_append bs_toList
set_option maxHeartbeats 1000000 in
theorem index_str (v : Bs) (l : List Bs) (A : Option Addr) (c : Nat) (w : World) (hR : Rd w [] 1 A l.length (strs l)) (hl : l.length ≤ 4294967296) :
    Calls Tryd.prog 29 #[.slice A l.length c, .string (bs v)] w fun e w' => e = .returned (.int .i64 (findIx (fun t => v == t) l)) ∧ w = w' := by
  have HR := Lib.hid hR
  clear hR
  go_enter Tryd.func29, Tryd.ntmps29
  go_wp2
  go_loop [8] (fun i => ∃ n : Nat, n ≤ l.length ∧ i = .int .i64 n ∧ Hid (∀ j (hj : j < n) (hl : j < l.length), (v == l[j]) = false)) (fun i => l.length - (intOf i).toNat)
  case atStart => exact ⟨0, Nat.zero_le _, rfl, fun j hj => absurd hj (by omega)⟩
  case round =>
    obtain ⟨n, hn, rfl, hno⟩ := hrel
    by_cases hlt : n < l.length
    · obtain ⟨b, o, rfl, _, hb, hc⟩ := HR.out.open' (by omega) (by omega)
      have d1 := hc n _ (strs_at' l n hlt)
      clear hc
      cases hp : (v == l[n]) with
      | true =>
        have hfin : findIx (fun t => v == t) l = (n : Int) := findIx_hit hlt (fun j hj => hno j hj (by omega)) hp
        have HP := Lib.hid hfin
        clear hfin
        go_wp2
        go_ret
        exact ⟨by rw [HP.out]; rfl, rfl⟩
      | false =>
        have hno' : Hid (∀ j (hj : j < n + 1) (hl : j < l.length), (v == l[j]) = false) := fun j hj hl => by
          by_cases h : j < n
          · exact hno j h hl
          · obtain rfl : j = n := by omega
            exact hp
        go_wp2
        go_round
        case rel => exact ⟨n + 1, by omega, by go_num, hno'⟩
        case measure => simp [intOf]; omega
    · have hfin : Hid (findIx (fun t => v == t) l = -1) := findIx_none fun j hj => hno j (by omega) hj
      go_wp2
      go_ret
      exact ⟨by rw [hfin.out]; rfl, rfl⟩
theorem contains_str (v : Bs) (l : List Bs) (A : Option Addr) (c : Nat) (w : World) (hR : Rd w [] 1 A l.length (strs l)) (hl : l.length ≤ 4294967296) :
    Calls Tryd.prog 16 #[.slice A l.length c, .string (bs v)] w fun e w' => e = .returned (.bool (l.any fun t => v == t)) ∧ w = w' := by
  have HC := Lib.hid (index_str v l A c w hR hl)
  clear hR
  rw [← findIx_any]
  go_enter Tryd.func16, Tryd.ntmps16
  go_wp2_with (go_at_call 29; refine HC.out.mono ?_; rintro e W2 ⟨rfl, rfl⟩)
  go_ret
  exact ⟨rfl, rfl⟩
end Go.Proofs.YtelafmakgokhbaaDoor
