/- Maps of integers to values of whatever kind, by run equations. No program in sight. -/
import Derived.Test.YtelafmakgokhbaaDoorBase
import Derived.Maps.Own
import Derived.Maps.OwnSet
import Derived.Maps.RangeWalk
namespace Go.Proofs.YtelafmakgokhbaaDoor
open Go.RowKit Go.Maps
/-- How an element reads: as itself. -/
def asIs (v : Value) : Option (DataW Value × List MemPlace) := some (.held v, [])
/-- Block b is a map of at most n entries that holds just what m says. -/
def MapV (P : Program) (K : TypeId) (w : World) (b n : Nat) (m : Int → Option Value) : Prop :=
  ∃ D : DataW Value, w.ownsMap P K asIs b n D ∧ ∀ k : Int, (Lit.int .i64 k).wf = true → Maps.has D (.int .i64 k) = (m k).isSome ∧ ∀ v, m k = some v → ∀ z, D.atKey (.int .i64 k) z = .held v
section
variable {P : Program} {T K E : TypeId} {w w' : World} {b n : Nat} {m : Int → Option Value}
theorem MapV.lt (h : MapV P K w b n m) : b < w.heap.size := by obtain ⟨D, h, _⟩ := h; exact h.lt
theorem MapV.made (w : World) : MapV P K (w.alloc (.map #[] 0)) w.heap.size 0 fun _ => none :=
  ⟨_, World.ownsMap_made w _ _ _, fun k _ => ⟨rfl, fun _ h => by cases h⟩⟩
theorem MapV.of_block (h : MapV P K w b n m) (hb : w'.heap[b]? = w.heap[b]?) : MapV P K w' b n m := by
  obtain ⟨D, ⟨es, clock, h1, h2⟩, h3⟩ := h
  exact ⟨D, ⟨es, clock, hb.trans h1, h2⟩, h3⟩
theorem MapV.keep {L : List Nat} (h : MapV P K w b n m) (hk : Keeps L w w') (hb : b ∉ L) : MapV P K w' b n m := h.of_block (hk.block b h.lt hb)
theorem MapV.mono (h : MapV P K w b n m) {n' : Nat} (hn : n ≤ n') : MapV P K w b n' m := by
  obtain ⟨D, h1, h2⟩ := h
  exact ⟨D, h1.mono hn, h2⟩
theorem MapV.congr {m' : Int → Option Value} (h : MapV P K w b n m) (e : m = m') : MapV P K w b n m' := e ▸ h
theorem MapV.look (h : MapV P K w b n m) (hT : P.underlying T = some (.map K E)) (hK : P.underlying K = some (.int .i64)) {z : Value} (hz : (zeroValue E).run P w = .ok z w) (k : Int) (hk : (Lit.int .i64 k).wf = true) :
    (Instr.lookup T (.map (some b)) (.int .i64 k) false).run P w = .ok ((m k).getD z) w := by
  obtain ⟨D, h1, h2⟩ := h
  have hkey : keyOf P K (.int .i64 k) = some (.int .i64 k) := keyOf_int_mk hK hk
  obtain ⟨v, ps, hrun, hv⟩ := h1.lookup (int_keyed hK) hT hz (zd := .held z) (zp := []) rfl hkey
  rw [hrun]
  have hv' : DataW.held v = D.atKey (.int .i64 k) (.held z) := by
    injection hv with hv
    exact congrArg Prod.fst hv
  cases hm : m k with
  | some u =>
    rw [(h2 k hk).2 u hm] at hv'
    injection hv' with e
    rw [e]; rfl
  | none =>
    have h0 : Maps.has D (.int .i64 k) = false := by rw [(h2 k hk).1, hm]; rfl
    rw [atKey_of_not_has h0] at hv'
    injection hv' with e
    rw [e]; rfl
theorem MapV.store (h : MapV P K w b n m) (hT : P.underlying T = some (.map K E)) (hK : P.underlying K = some (.int .i64)) (k : Int) (v : Value) (hk : (Lit.int .i64 k).wf = true) (hn : n < maxLen) :
    ∃ w', (Instr.mapUpdate T (.map (some b)) (.int .i64 k) v).run P w = .ok () w' ∧ MapV P K w' b (n + 1) (fun x => if x = k then some v else m x) ∧ w.grownBy w' (some b) := by
  obtain ⟨D, h1, h2⟩ := h
  have hkey : keyOf P K (.int .i64 k) = some (.int .i64 k) := keyOf_int_mk hK hk
  obtain ⟨w', hrun, h3, h4⟩ := h1.update (int_keyed hK) hT hn hkey (d := .held v) (ps := []) rfl
  have hm := h1.isMap
  refine ⟨w', hrun, ⟨_, h3, fun x hx0 => ?_⟩, h4⟩
  by_cases hx : x = k
  · subst hx
    simp only [if_pos]
    exact ⟨by rw [has_put_same hm (by trivial)]; rfl, fun u hu z => by
      cases hu
      rw [atKey_put_same hm (by trivial)]⟩
  · have hne : (Lit.int IntKind.i64 x) ≠ Lit.int .i64 k := fun e => hx (by injection e)
    simp only [if_neg hx]
    refine ⟨?_, fun u hu z => ?_⟩
    · rw [has_put_other hne]; exact (h2 x hx0).1
    · rw [atKey_put_other hne]; exact (h2 x hx0).2 u hu z
end
end Go.Proofs.YtelafmakgokhbaaDoor
