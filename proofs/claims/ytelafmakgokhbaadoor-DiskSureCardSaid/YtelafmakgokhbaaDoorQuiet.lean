/- A region that draws its order, whose operations only read and whose callees keep what was there: walked once, in the order of the text. -/
import Derived.Test.YtelafmakgokhbaaDoorBase
namespace Go.Proofs.YtelafmakgokhbaaDoor
open Go.RowKit
/-- A world in which all that was in w0 is as it was. -/
structure KW (w0 : World) where
  w : World
  k : Keeps [] w0 w
instance (w0 : World) : Inhabited (KW w0) := ⟨⟨w0, Keeps.refl [] w0⟩⟩
theorem wp_region_keeps {P : Program} {id : Nat} {Q : Exit → Act → World → Prop} {a : Act} {w : World} {l : List Oper} (hm : P.follows .mixedOrders = true) (hB : Region.lexB .any l.toArray = true)
    (h : wpQuiet P l.toArray (fun w' => ∃ p : KW w, w' = p.w) (fun a' => ∀ w', Keeps [] w w' → Q .normal a' w') l a) : (Code.region id l.toArray true).wp P Q a w := by
  have e : (fun a' => ∀ w', Keeps [] w w' → Q .normal a' w') = fun a' => ∀ w', (∃ p : KW w, w' = p.w) → Q .normal a' w' := by
    funext a'
    exact propext ⟨fun h w' ⟨p, e⟩ => h w' (e ▸ p.k), fun h w' k => h w' ⟨⟨w', k⟩, rfl⟩⟩
  rw [e] at h
  exact wp_region_quiet (C := fun w' => ∃ p : KW w, w' = p.w) hm hB ⟨⟨w.drew, (Keeps.refl [] w).drew⟩, rfl⟩ (by simpa using h)
/-- A cell of an old block, in every world of the class. -/
theorem KW.cell {w0 : World} (p : KW w0) (b o : Nat) (h : b < w0.heap.size) : p.w.cell? ⟨b, o, none⟩ = w0.cell? ⟨b, o, none⟩ := p.k.cell h (by simp)
theorem KW.of {P : Program} {f : FuncId} {args : Array Value} {w0 : World} {v : Value} (h : ∀ W, Keeps [] w0 W → Calls P f args W fun e W' => e = .returned v ∧ Keeps [] W W') (p : KW w0) :
    Calls P f args p.w fun e w'' => e = .returned v ∧ ∃ q : KW w0, w'' = q.w :=
  (h p.w p.k).mono fun _ W' ⟨he, hk⟩ => ⟨he, ⟨W', p.k.trans hk⟩, rfl⟩
end Go.Proofs.YtelafmakgokhbaaDoor
