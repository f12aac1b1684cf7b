/- The frame of a law: arguments opened as lists, the handle of the type error. -/
import Derived.Test.YtelafmakgokhbaaDoorBase
import Derived.Test.YtelafmakgokhbaaDoorRows
import Derived.WalkKit
import Derived.ProofKit
import Derived.OpenShut
import Derived.ShutString
import Derived.ChangeOld
import Derived.ChangeSlices
import Derived.SliceStrings
import Derived.Deep.Slices
import Derived.Carry
import Derived.Handed
import Derived.LaidLaws
import Derived.LaidHandle
import Derived.JoinedOf
import Derived.Stop.Joined
namespace Go.Proofs.YtelafmakgokhbaaDoor
open Go.RowKit Go.ChangeShapes Go.WideShapes
theorem Fr.own : ownKnob Tryd.prog.godebug = none := by kernel_rfl
theorem Fr.laidOut : laidOutB Tryd.prog = true := by kernel_rfl
section
variable {P : Program} {H : Type} {enc : TypeId × Value → H} {W : World} {r : Reach} {base : Nat} {t e : TypeId} {v : Value} {d : DataW H} {p : List MemPlace}
theorem open_strs (ht : P.underlying t = some (.slice e)) (he : P.underlying e = some .string) (hc : P.cellsOf e = 1)
    (hok : Value.okWide P W r base t v) (h : DataW.Trod enc P W 0 (fun _ => true) true t v d p) :
    ∃ (a : Option Addr) (c : Nat) (l : List Bs), v = .slice a l.length c ∧ Rd W [] 1 a l.length (l.map fun s => .string (bs s)) ∧ l.length ≤ maxLen ∧ ∀ s ∈ l, s.length ≤ maxLen := by
  obtain ⟨a, n, c, rfl⟩ := okWide_slice ht hok
  obtain ⟨m, hm⟩ := h
  rcases open_strings ht he hc hm with ⟨hcs, _⟩ | ⟨x, len, cap, ss, hcs, _, hl, hcap, hlen, _, hcell, hw⟩
  · simp [Value.cells] at hcs
    obtain ⟨rfl, rfl, rfl⟩ := hcs
    exact ⟨none, 0, [], rfl, Rd.nil, Nat.zero_le _, fun _ h => by cases h⟩
  · simp [Value.cells] at hcs
    obtain ⟨rfl, rfl, rfl⟩ := hcs
    have hlen' : ss.length = c := by simpa using hlen
    have hll : ((ss.take n).map fun s => s.data.toList).length = n := by rw [List.length_map, List.length_take]; omega
    refine ⟨some x, c, (ss.take n).map fun s => s.data.toList, by rw [hll], ⟨by rw [List.length_map, Nat.mul_one], fun hn => ?_⟩, by rw [hll]; omega, fun s hs => ?_⟩
    · rw [hll] at hn
      refine ⟨x, rfl, by simp, ?_, fun j u hu => ?_⟩
      · have := World.block_lt_of_cell? _ _ (hcell 0 (by omega))
        rwa [block_add] at this
      · rw [List.map_map, List.getElem?_map, Option.map_eq_some_iff] at hu
        obtain ⟨s, hs, rfl⟩ := hu
        rw [List.getElem?_take] at hs
        split at hs
        · rw [hcell j (by omega), List.getD_eq_getElem?_getD, hs]; rfl
        · cases hs
    · obtain ⟨q, hq, rfl⟩ := List.mem_map.1 hs
      have := hw q (List.mem_of_mem_take hq)
      exact this

theorem open_nums {k : IntKind} (ht : P.underlying t = some (.slice e)) (he : P.underlying e = some (.int k)) (hc : P.cellsOf e = 1)
    (hok : Value.okWide P W r base t v) (h : DataW.Trod enc P W 0 (fun _ => true) true t v d p) :
    ∃ (a : Option Addr) (c : Nat) (l : List Int), v = .slice a l.length c ∧ Rd W [] 1 a l.length (l.map (Value.int k)) ∧ l.length ≤ maxLen ∧ ∀ n ∈ l, (Lit.int k n).wf = true := by
  obtain ⟨a, n, c, rfl⟩ := okWide_slice ht hok
  obtain ⟨m, hm⟩ := h
  rcases open_ints ht he hc hm with ⟨hcs, _⟩ | ⟨x, len, cap, ss, hcs, _, hl, hcap, hlen, _, hcell, hw⟩
  · simp [Value.cells] at hcs
    obtain ⟨rfl, rfl, rfl⟩ := hcs
    exact ⟨none, 0, [], rfl, Rd.nil, Nat.zero_le _, fun _ h => by cases h⟩
  · simp [Value.cells] at hcs
    obtain ⟨rfl, rfl, rfl⟩ := hcs
    have hlen' : ss.length = c := by simpa using hlen
    have hll : (ss.take n).length = n := by rw [List.length_take]; omega
    refine ⟨some x, c, ss.take n, by rw [hll], ⟨by rw [List.length_map, Nat.mul_one], fun hn => ?_⟩, by rw [hll]; omega, fun s hs => hw s (List.mem_of_mem_take hs)⟩
    rw [hll] at hn
    refine ⟨x, rfl, by simp, ?_, fun j u hu => ?_⟩
    · have := World.block_lt_of_cell? _ _ (hcell 0 (by omega))
      rwa [block_add] at this
    · rw [List.getElem?_map, Option.map_eq_some_iff] at hu
      obtain ⟨s, hs, rfl⟩ := hu
      rw [List.getElem?_take] at hs
      split at hs
      · rw [hcell j (by omega), List.getD_eq_getElem?_getD, hs]; rfl
      · cases hs

/-- A Boolean cell's value. -/
def isTrue : Value → Bool | .bool b => b | _ => false
theorem open_flags (ht : P.underlying t = some (.slice e)) (he : P.underlying e = some .bool) (hc : P.cellsOf e = 1)
    (hok : Value.okWide P W r base t v) (h : DataW.Trod enc P W 0 (fun _ => true) true t v d p) :
    ∃ (a : Option Addr) (c : Nat) (l : List Bool), v = .slice a l.length c ∧ Rd W [] 1 a l.length (l.map Value.bool) ∧ l.length ≤ maxLen := by
  obtain ⟨a, n, c, rfl⟩ := okWide_slice ht hok
  obtain ⟨m, hm⟩ := h
  rcases Go.Deep.open_slice1 ht hc hm with ⟨hcs, _⟩ | ⟨x, len, cap, m', n', V, D, Pl, hcs, _, hl, hcap, hlen, _, hcell⟩
  · simp [Value.cells] at hcs
    obtain ⟨rfl, rfl, rfl⟩ := hcs
    exact ⟨none, 0, [], rfl, Rd.nil, Nat.zero_le _⟩
  · simp [Value.cells] at hcs
    obtain ⟨rfl, rfl, rfl⟩ := hcs
    have hlen' : m' = c := by simpa using hlen
    have hb : ∀ i, i < m' → ∃ b, V i = .bool b := fun i hi => by
      obtain ⟨b, hb, _⟩ := DataW.trod_bool he (hcell i hi).2
      exact ⟨b, by simpa using hb⟩
    have hll : ((List.range n).map fun i => isTrue (V i)).length = n := by simp
    refine ⟨some x, c, (List.range n).map fun i => isTrue (V i), by rw [hll], ⟨by rw [List.length_map, Nat.mul_one], fun hn => ?_⟩, by rw [hll]; omega⟩
    rw [hll] at hn
    refine ⟨x, rfl, by simp, ?_, fun j u hu => ?_⟩
    · have h0 : W.cell? (x.add 0) = some (V 0) := (hcell 0 (by omega)).1
      have := World.block_lt_of_cell? _ _ h0
      rwa [block_add] at this
    · rw [List.map_map, List.getElem?_map, Option.map_eq_some_iff] at hu
      obtain ⟨s, hs, rfl⟩ := hu
      have hj : j < n := by
        have := (List.getElem?_eq_some_iff.1 hs).1
        simpa using this
      rw [List.getElem?_range hj] at hs
      obtain rfl := Option.some.inj hs
      obtain ⟨b, hb⟩ := hb j (by omega)
      have hj' : W.cell? (x.add j) = some (V j) := (hcell j (by omega)).1
      rw [hj']
      show some (V j) = some (.bool (isTrue (V j)))
      rw [hb]
      rfl
/-- An argument reads as it did. -/
theorem Keeps.trod {W' : World} (hl : laidOutB P = true) (hr : P.readableRec t = true) (hrow : t < P.types.size)
    (h : DataW.Trod enc P W 0 (fun _ => true) true t v d p) (hb : Keeps [] W W') (hlt : ∀ x ∈ p, x.block < W.heap.size) :
    DataW.Trod enc P W' 0 (fun b => decide (b < W.heap.size)) true t v d p :=
  WideElems.Trod_stays hl hr hrow h (fun x hx => hb.same (hlt x hx)) (fun x hx => by simpa using hlt x hx)
end
end Go.Proofs.YtelafmakgokhbaaDoor
