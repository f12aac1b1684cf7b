/- store: the store in memory; one. -/
import Derived.Test.YtjoolemhcpcnoaaDoorStoreA
import Derived.Test.YtjoolemhcpcnoaaDoorRests
import Derived.Maps.Own
import Derived.Maps.OwnSet
import Derived.Maps.StringElems
namespace Go.Proofs.YtjoolemhcpcnoaaDoor
open Go.RowKit Go.Maps
attribute [local go_sem] bs_size bs_extract bs_append bs_toList errV_0 errV_2 errV_4 errV_14
/-! ### A map of texts to texts -/
/-- Block b is a map of at most n entries that holds just what m says. -/
def MapOf (P : Program) (S : TypeId) (w : World) (b n : Nat) (m : Bs → Option Bs) : Prop :=
  ∃ D : DataW Unit, w.ownsMap P S (plainElem P S) b n D ∧ ∀ k : Bs, Maps.has D (.string k) = (m k).isSome ∧ ∀ v, m k = some v → D.atKey (.string k) (.lit (.string [])) = .lit (.string v)
section
variable {P : Program} {T S : TypeId} {w w' : World} {b n : Nat} {m : Bs → Option Bs}
theorem MapOf.lt (h : MapOf P S w b n m) : b < w.heap.size := by obtain ⟨D, h, _⟩ := h; exact h.lt
theorem MapOf.made (w : World) : MapOf P S (w.alloc (.map #[] 0)) w.heap.size 0 fun _ => none :=
  ⟨_, World.ownsMap_made w _ _ _, fun k => ⟨rfl, fun _ h => by cases h⟩⟩
theorem MapOf.of_block (h : MapOf P S w b n m) (hb : w'.heap[b]? = w.heap[b]?) : MapOf P S w' b n m := by
  obtain ⟨D, ⟨es, clock, h1, h2⟩, h3⟩ := h
  exact ⟨D, ⟨es, clock, hb.trans h1, h2⟩, h3⟩
theorem MapOf.keep {L : List Nat} (h : MapOf P S w b n m) (hk : Keeps L w w') (hb : b ∉ L) : MapOf P S w' b n m := h.of_block (hk.block b h.lt hb)
theorem MapOf.mono (h : MapOf P S w b n m) {n' : Nat} (hn : n ≤ n') : MapOf P S w b n' m := by
  obtain ⟨D, h1, h2⟩ := h
  exact ⟨D, h1.mono hn, h2⟩
theorem MapOf.look (h : MapOf P S w b n m) (hT : P.underlying T = some (.map S S)) (hS : P.underlying S = some .string) (hz : (zeroValue S).run P w = .ok (.string ⟨#[]⟩) w) (k : Bs) (hk : k.length ≤ maxLen) :
    (Instr.lookup T (.map (some b)) (.string (bs k)) true).run P w = .ok (.tuple #[.string (bs ((m k).getD [])), .bool (m k).isSome]) w := by
  obtain ⟨D, h1, h2⟩ := h
  have hkey : keyOf P S (.string (bs k)) = some (.string k) := WideMaps.keyOf_string_mk hS (by rw [bs_size]; exact hk)
  obtain ⟨v, ps, hrun, hv⟩ := h1.look_ok (string_keyed hS) hT hz (plainElem_string hS (by simp [ByteArray.size, maxLen])) hkey
  rw [hrun, (h2 k).1]
  obtain ⟨s, rfl, hs, _⟩ := plainElem_string_inv hS hv
  have hs' : D.atKey (.string k) (.lit (.string [])) = .lit (.string s.data.toList) := congrArg Prod.fst hs
  cases hm : m k with
  | some u =>
    rw [(h2 k).2 u hm] at hs'
    injection hs' with hs'
    injection hs' with hs'
    rw [hs']
    rfl
  | none =>
    have h0 : Maps.has D (.string k) = false := by rw [(h2 k).1, hm]; rfl
    rw [atKey_of_not_has h0] at hs'
    injection hs' with hs'
    injection hs' with hs'
    have : s = bs [] := by
      rcases s with ⟨⟨l⟩⟩
      have : l = [] := hs'.symm
      rw [this]; rfl
    rw [this]
    rfl
theorem MapOf.store (h : MapOf P S w b n m) (hT : P.underlying T = some (.map S S)) (hS : P.underlying S = some .string) (k v : Bs) (hk : k.length ≤ maxLen) (hv : v.length ≤ maxLen) (hn : n < maxLen) :
    ∃ w', (Instr.mapUpdate T (.map (some b)) (.string (bs k)) (.string (bs v))).run P w = .ok () w' ∧ MapOf P S w' b (n + 1) (fun x => if x = k then some v else m x) ∧ w.grownBy w' (some b) := by
  obtain ⟨D, h1, h2⟩ := h
  have hkey : keyOf P S (.string (bs k)) = some (.string k) := WideMaps.keyOf_string_mk hS (by rw [bs_size]; exact hk)
  obtain ⟨w', hrun, h3, h4⟩ := h1.update (string_keyed hS) hT hn hkey (plainElem_string hS (by rw [bs_size]; exact hv))
  have hm := h1.isMap
  refine ⟨w', hrun, ⟨_, h3, fun x => ?_⟩, h4⟩
  by_cases hx : x = k
  · subst hx
    simp only [if_pos]
    exact ⟨by rw [has_put_same hm (by trivial)]; rfl, fun u hu => by
      cases hu
      rw [atKey_put_same hm (by trivial)]
      rfl⟩
  · have hne : (Lit.string x) ≠ Lit.string k := fun e => hx (by injection e)
    simp only [if_neg hx]
    refine ⟨?_, fun u hu => ?_⟩
    · rw [has_put_other hne]; exact (h2 x).1
    · rw [atKey_put_other hne]; exact (h2 x).2 u hu
end
end Go.Proofs.YtjoolemhcpcnoaaDoor
