/- A region that draws its order, walked by a relation that each operation keeps, whatever has come up: for regions that make and write memory. No program in sight. The reference's texts of values and arguments. Maps of integers to values of whatever kind, by run equations. No program in sight. -/
import Derived.Test.YtnjjajanfedjiaaGreatDoorFrdM1
import Derived.Orders
import Derived.Test.YtnjjajanfedjiaaGreatDoorFrdM29
import Derived.Test.YtnjjajanfedjiaaGreatDoorFrdM3
import Derived.Maps.Own
import Derived.Maps.OwnSet
import Derived.Maps.RangeWalk
set_option linter.unusedSimpArgs false
set_option linter.unusedVariables false
namespace Go.Proofs.YtnjjajanfedjiaaGreatDoor
open Go.RowKit
def downB (ops : Array Oper) : Bool := (List.range ops.size).all fun i => ((ops[i]?).map fun o => o.after.all fun e => decide (e.on < i)).getD false
theorem downB_at {ops : Array Oper} (h : downB ops = true) {i : Nat} {o : Oper} (ho : ops[i]? = some o) {e : Edge} (he : e ∈ o.after) : e.on < i := by
 have hi : i < ops.size := (Array.getElem?_eq_some_iff.1 ho).1
 have h1 := List.all_eq_true.1 h i (List.mem_range.2 hi)
 rw [ho] at h1
 simp only [Option.map_some, Option.getD_some, Array.all_eq_true_iff_forall_mem] at h1
 simpa using h1 e he
def leftN (L : Nat → Bool) (n : Nat) : Nat := (List.range n).countP fun i => !L i
theorem leftN_zero {L : Nat → Bool} {n : Nat} (h : leftN L n = 0) : ∀ i, i < n → L i = true := by
 intro i hi
 have h1 := List.countP_eq_zero.1 h i (List.mem_range.2 hi)
 simpa using h1
def updL (L : Nat → Bool) (i : Nat) : Nat → Bool := fun j => if j = i then true else L j
theorem leftN_upd {L : Nat → Bool} {i : Nat} (hL : L i = false) : ∀ {n : Nat}, i < n → leftN (updL L i) n + 1 = leftN L n
 | 0, h => absurd h (by omega)
 | n + 1, h => by
  have e : ∀ M : Nat → Bool, leftN M (n + 1) = leftN M n + if M n then 0 else 1 := fun M => by
   unfold leftN
   rw [List.range_succ, List.countP_append, List.countP_singleton]
   cases hm : M n <;> simp
  rw [e, e]
  by_cases hi : i = n
  ·subst hi
   have e2 : leftN (updL L i) i = leftN L i := by
    unfold leftN
    refine List.countP_congr fun x hx => ?_
    have := List.mem_range.1 hx
    unfold updL
    rw [if_neg (by omega)]
   rw [e2, hL]
   simp [updL]
  ·have ih := leftN_upd hL (n := n) (by omega)
   have e3 : updL L i n = L n := by unfold updL; rw [if_neg (fun h => hi h.symm)]
   rw [e3]
   omega
def Agrees (ops : Array Oper) (listed : Array Bool) (L : Nat → Bool) : Prop := listed.size = ops.size ∧ ∀ i, i < ops.size → listed[i]? = some (L i)
theorem Agrees.set {ops : Array Oper} {listed : Array Bool} {L : Nat → Bool} (h : Agrees ops listed L) {i : Nat} (_hi : i < ops.size) : Agrees ops (listed.setIfInBounds i true) (updL L i) := by
 refine ⟨by rw [Array.size_setIfInBounds]; exact h.1, fun j hj => ?_⟩
 rw [Array.getElem?_setIfInBounds]
 unfold updL
 by_cases hij : i = j
 ·subst hij
  rw [if_pos rfl, if_pos (by rw [h.1]; exact hj), if_pos rfl]
 ·rw [if_neg hij, if_neg (fun e => hij e.symm)]
  exact h.2 j hj
theorem Agrees.get {ops : Array Oper} {listed : Array Bool} {L : Nat → Bool} (h : Agrees ops listed L) {i : Nat} (hi : i < ops.size) (d : Bool) : listed.getD i d = L i := by
 have := h.2 i hi
 rw [Array.getD_eq_getD_getElem?, this]
 rfl
theorem ready_iff {ops : Array Oper} {listed : Array Bool} {L : Nat → Bool} (hd : downB ops = true) (h : Agrees ops listed L) (i : Nat) :
  i ∈ Region.ready .any ops listed ↔ i < ops.size ∧ L i = false ∧ ∀ o, ops[i]? = some o → ∀ e ∈ o.after, Region.binds .any e = true → L e.on = true := by
 unfold Region.ready
 rw [List.mem_filter, List.mem_range]
 constructor
 ·rintro ⟨h1, h2⟩
  rw [Bool.and_eq_true, h.get h1] at h2
  refine ⟨h1, by simpa using h2.1, fun o ho e he hb => ?_⟩
  have h3 := h2.2
  rw [ho] at h3
  simp only [Option.map_some, Option.getD_some, Array.all_eq_true_iff_forall_mem] at h3
  have h4 := h3 e he
  rw [hb, Bool.not_true, Bool.false_or, h.get (by have := downB_at hd ho he; omega)] at h4
  exact h4
 ·rintro ⟨h1, h2, h3⟩
  refine ⟨h1, ?_⟩
  rw [Bool.and_eq_true, h.get h1, h2]
  refine ⟨rfl, ?_⟩
  obtain ⟨o, ho⟩ : ∃ o, ops[i]? = some o := ⟨_, Array.getElem?_eq_getElem h1⟩
  rw [ho]
  simp only [Option.map_some, Option.getD_some, Array.all_eq_true_iff_forall_mem]
  intro e he
  cases hb : Region.binds .any e with
  | false => rfl
  | true =>
   rw [Bool.not_true, Bool.false_or, h.get (by have := downB_at hd ho he; omega)]
   exact h3 o ho e he hb
theorem some_ready {ops : Array Oper} {L : Nat → Bool} (hd : downB ops = true) : ∀ (i : Nat), i < ops.size → L i = false → ∃ j, j < ops.size ∧ L j = false ∧ ∀ o, ops[j]? = some o → ∀ e ∈ o.after, Region.binds .any e = true → L e.on = true := by
 intro i
 induction i using Nat.strongRecOn with
 | ind i ih =>
  intro hi hL
  by_cases hx : ∃ o, ops[i]? = some o ∧ ∃ e ∈ o.after, Region.binds .any e = true ∧ L e.on = false
  ·obtain ⟨o, ho, e, he, _, hf⟩ := hx
   have hlt := downB_at hd ho he
   exact ih e.on hlt (by omega) hf
  ·refine ⟨i, hi, hL, fun o ho e he hb => ?_⟩
   cases hl : L e.on with
   | true => rfl
   | false => exact absurd ⟨o, ho, e, he, hb, hl⟩ hx
section
variable {P : Program} {ops : Array Oper} {Q : Exit → Act → World → Prop}
theorem wpAny_inv (hd : downB ops = true) (I : (Nat → Bool) → Act → World → Prop)
  (hs : ∀ i, i < ops.size → ∀ L a w, L i = false → (∀ o, ops[i]? = some o → ∀ e ∈ o.after, Region.binds .any e = true → L e.on = true) → I L a w → wpOp P ops Q i (I (updL L i)) a w)
  (hf : ∀ L a w, (∀ i, i < ops.size → L i = true) → I L a w → Q .normal a w) :
  ∀ (fuel : Nat) (listed : Array Bool) (L : Nat → Bool) (a : Act) (w : World), Agrees ops listed L → leftN L ops.size ≤ fuel → I L a w → wpAny P .any ops Q fuel listed a w
 | 0, listed, L, a, w, hA, hn, hI => by
  have hall := leftN_zero (Nat.le_zero.1 hn)
  refine ⟨List.eq_nil_iff_forall_not_mem.2 fun i hi => ?_, hf L a w hall hI⟩
  have := (ready_iff hd hA i).1 hi
  rw [hall i this.1] at this
  exact absurd this.2.1 (by decide)
 | fuel + 1, listed, L, a, w, hA, hn, hI => by
  refine ⟨fun hr => hf L a w (fun i hi => ?_) hI, fun i hi => ?_⟩
  ·cases hl : L i with
   | true => rfl
   | false =>
    obtain ⟨j, hj⟩ := some_ready hd i hi hl
    have := (ready_iff hd hA j).2 hj
    rw [hr] at this
    cases this
  ·obtain ⟨h1, h2, h3⟩ := (ready_iff hd hA i).1 hi
   have hc := leftN_upd h2 h1
   exact wpOp_mono (fun a' w' h => wpAny_inv hd I hs hf fuel _ (updL L i) a' w' (hA.set h1) (by omega) h) (hs i h1 L a w h2 h3 hI)
theorem wp_region_inv {id : Nat} {a : Act} {w : World} (hm : P.follows .mixedOrders = true) (hd : downB ops = true) (I : (Nat → Bool) → Act → World → Prop)
  (h0 : I (fun _ => false) a w.drew)
  (hs : ∀ i, i < ops.size → ∀ L a w, L i = false → (∀ o, ops[i]? = some o → ∀ e ∈ o.after, Region.binds .any e = true → L e.on = true) → I L a w → wpOp P ops Q i (I (updL L i)) a w)
  (hf : ∀ L a w, (∀ i, i < ops.size → L i = true) → I L a w → Q .normal a w) : (Code.region id ops true).wp P Q a w := by
 refine wp_region_any hm (wpAny_inv hd I hs hf ops.size _ (fun _ => false) a _ ⟨by simp, fun i hi => by simp [hi]⟩ ?_ h0)
 unfold leftN
 refine Nat.le_trans List.countP_le_length (by simp)
theorem wpOp_val {i : Nat} {o : Oper} {a : Act} {w w' : World} {u : Value} {K : Act → World → Prop} (ho : ops[i]? = some o) (hg : o.guard = none) (hr : (execOp a.eval o).run P w = .ok (.value u) w') (hK : K (a.put o.dst u) w') : wpOp P ops Q i K a w := by
 unfold wpOp
 simp only [ho]
 rw [if_pos (by unfold Region.wanted; rw [hg])]
 left
 unfold Oper.wp
 rw [hr]
 exact hK
theorem wpOp_skip {i : Nat} {o : Oper} {a : Act} {w w' : World} {K : Act → World → Prop} (ho : ops[i]? = some o) (hg : o.guard = none) (hr : (execOp a.eval o).run P w = .ok .skip w') (hK : K (a.put o.dst undef) w') : wpOp P ops Q i K a w := by
 unfold wpOp
 simp only [ho]
 rw [if_pos (by unfold Region.wanted; rw [hg])]
 left
 unfold Oper.wp
 rw [hr]
 exact hK
theorem wpOp_call {i : Nat} {o : Oper} {a : Act} {w : World} {f : FuncId} {args : Array Value} {K : Act → World → Prop} (ho : ops[i]? = some o) (hg : o.guard = none) (hr : (execOp a.eval o).run P w = .ok (.enter f args) w) (hK : Calls P f args w fun e w' => ∃ u, e = .returned u ∧ K (a.put o.dst u) w') : wpOp P ops Q i K a w := by
 unfold wpOp
 simp only [ho]
 rw [if_pos (by unfold Region.wanted; rw [hg])]
 left
 unfold Oper.wp
 rw [hr]
 exact hK.mono fun e w' ⟨u, he, hk⟩ => by subst he; exact hk
end
structure FitR (ops : Array Oper) (v : Nat → Value) (L : Nat → Bool) (a0 a : Act) : Prop where
 d : a.defers = a0.defers
 n : a.tmps.size = a0.tmps.size
 y : ∀ i o k, ops[i]? = some o → o.dst = some k → L i = true → a.tmps.getD k undef = v i
 z : ∀ k, (∀ i o, ops[i]? = some o → o.dst = some k → L i = false) → a.tmps.getD k undef = a0.tmps.getD k undef
def dstB (ops : Array Oper) (n : Nat) : Bool := (List.range ops.size).all fun i => match (ops[i]?).bind (·.dst) with
 | none => true
 | some k => decide (k < n) && (List.range ops.size).all fun j => decide (j = i) || decide ((ops[j]?).bind (·.dst) ≠ some k)
theorem dstB_at {ops : Array Oper} {n : Nat} (h : dstB ops n = true) {i : Nat} {o : Oper} {k : Nat} (ho : ops[i]? = some o) (hk : o.dst = some k) : k < n ∧ ∀ j o', ops[j]? = some o' → o'.dst = some k → j = i := by
 have hi : i < ops.size := (Array.getElem?_eq_some_iff.1 ho).1
 have h1 := List.all_eq_true.1 h i (List.mem_range.2 hi)
 simp only [ho, Option.bind_some, hk] at h1
 rw [Bool.and_eq_true] at h1
 refine ⟨of_decide_eq_true h1.1, fun j o' hj hk' => ?_⟩
 have hj' : j < ops.size := (Array.getElem?_eq_some_iff.1 hj).1
 have h2 := List.all_eq_true.1 h1.2 j (List.mem_range.2 hj')
 simp only [hj, Option.bind_some, hk'] at h2
 simpa using h2
theorem getD_put (t : Array Value) (d k : Nat) (u x : Value) (hd : d < t.size) : (t.setIfInBounds d u).getD k x = if k = d then u else t.getD k x := by
 rw [Array.getD_eq_getD_getElem?, Array.getD_eq_getD_getElem?, Array.getElem?_setIfInBounds]
 by_cases h : d = k
 ·subst h
  rw [if_pos rfl, if_pos hd, if_pos rfl]
  rfl
 ·rw [if_neg h, if_neg (fun e => h e.symm)]
theorem FitR.start (ops : Array Oper) (v : Nat → Value) (a : Act) : FitR ops v (fun _ => false) a a := ⟨rfl, rfl, (fun _ _ _ _ _ h => by cases h), fun _ _ => rfl⟩
theorem FitR.put {ops : Array Oper} {v : Nat → Value} {L : Nat → Bool} {a0 a : Act} {i : Nat} {o : Oper} (h : FitR ops v L a0 a) (hb : dstB ops a0.tmps.size = true) (ho : ops[i]? = some o) : FitR ops v (updL L i) a0 (a.put o.dst (v i)) := by
 cases hd : o.dst with
 | none =>
  refine ⟨h.d, h.n, fun j o' k hj hk hL => ?_, fun k hz => ?_⟩
  ·refine h.y j o' k hj hk ?_
   unfold updL at hL
   split at hL
   ·rename_i e
    subst e
    rw [ho] at hj
    cases hj
    rw [hd] at hk
    cases hk
   ·exact hL
  ·refine h.z k fun j o' hj hk => ?_
   have := hz j o' hj hk
   unfold updL at this
   split at this
   ·cases this
   ·exact this
 | some k0 =>
  obtain ⟨hk0, huniq⟩ := dstB_at hb ho hd
  have hput : (a.put (some k0) (v i)).tmps = a.tmps.setIfInBounds k0 (v i) := rfl
  refine ⟨h.d, by rw [hput, Array.size_setIfInBounds]; exact h.n, fun j o' k hj hk hL => ?_, fun k hz => ?_⟩
  ·rw [hput, getD_put _ _ _ _ _ (by rw [h.n]; exact hk0)]
   by_cases hkk : k = k0
   ·subst hkk
    rw [if_pos rfl, huniq j o' hj hk]
   ·rw [if_neg hkk]
    refine h.y j o' k hj hk ?_
    unfold updL at hL
    split at hL
    ·rename_i e
     subst e
     rw [ho] at hj
     cases hj
     rw [hd] at hk
     cases hk
     exact absurd rfl hkk
    ·exact hL
  ·rw [hput, getD_put _ _ _ _ _ (by rw [h.n]; exact hk0)]
   by_cases hkk : k = k0
   ·have := hz i o ho (by rw [hkk]; exact hd)
    unfold updL at this
    rw [if_pos rfl] at this
    cases this
   ·rw [if_neg hkk]
    refine h.z k fun j o' hj hk => ?_
    have := hz j o' hj hk
    unfold updL at this
    split at this
    ·cases this
    ·exact this
theorem FitR.old {ops : Array Oper} {v : Nat → Value} {L : Nat → Bool} {a0 a : Act} (h : FitR ops v L a0 a) (k : Nat) (hk : (ops.any fun o => decide (o.dst = some k)) = false) : a.tmps.getD k undef = a0.tmps.getD k undef :=
 h.z k fun i o ho hd => by
  rw [Array.any_eq_false'] at hk
  exact absurd (decide_eq_true hd) (hk o (Array.mem_of_getElem? ho))
theorem FitR.congr {ops : Array Oper} {v v' : Nat → Value} {L : Nat → Bool} {a0 a : Act} (h : FitR ops v L a0 a) (e : ∀ i, L i = true → v i = v' i) : FitR ops v' L a0 a :=
 ⟨h.d, h.n, fun i o k ho hk hL => (h.y i o k ho hk hL).trans (e i hL), h.z⟩
def finT (ops : Array Oper) (v : Nat → Value) (a0 : Act) (k : Nat) : Value := match (List.range ops.size).find? fun i => decide ((ops[i]?).bind (·.dst) = some k) with
 | some i => v i
 | none => a0.tmps.getD k undef
theorem FitR.fin {ops : Array Oper} {v : Nat → Value} {L : Nat → Bool} {a0 a : Act} (h : FitR ops v L a0 a) (hall : ∀ i, i < ops.size → L i = true) : a = ⟨((List.range a0.tmps.size).map (finT ops v a0)).toArray, a0.defers⟩ := by
 obtain ⟨t, d⟩ := a
 have hd : d = a0.defers := h.d
 have hn : t.size = a0.tmps.size := h.n
 subst hd
 congr 1
 apply Array.ext
 ·simp [hn]
 ·intro k h1 h2
  simp only [List.getElem_toArray, List.getElem_map, List.getElem_range]
  have e : t[k] = t.getD k undef := by rw [Array.getD_eq_getD_getElem?, Array.getElem?_eq_getElem h1]; rfl
  rw [e]
  unfold finT
  cases hf : (List.range ops.size).find? fun i => decide ((ops[i]?).bind (·.dst) = some k) with
  | some i =>
   have h3 := List.find?_some hf
   have hi := List.mem_range.1 (List.mem_of_find?_eq_some hf)
   rw [decide_eq_true_iff] at h3
   obtain ⟨o, ho⟩ : ∃ o, ops[i]? = some o := ⟨_, Array.getElem?_eq_getElem hi⟩
   rw [ho, Option.bind_some] at h3
   exact h.y i o k ho h3 (hall i hi)
  | none =>
   refine h.z k fun i o ho hd => ?_
   have hi : i < ops.size := (Array.getElem?_eq_some_iff.1 ho).1
   have := List.find?_eq_none.1 hf i (List.mem_range.2 hi)
   rw [ho, Option.bind_some, hd] at this
   simp at this
def depB (ops : Array Oper) (i j : Nat) : Bool := ((ops[i]?).map fun o => o.after.any fun e => decide (e.on = j) && Region.binds .any e).getD false
theorem dep_at {ops : Array Oper} {L : Nat → Bool} {i : Nat} (h : ∀ o, ops[i]? = some o → ∀ e ∈ o.after, Region.binds .any e = true → L e.on = true) (j : Nat) (hj : depB ops i j = true) : L j = true := by
 unfold depB at hj
 cases ho : ops[i]? with
 | none => rw [ho] at hj; cases hj
 | some o =>
  rw [ho] at hj
  simp only [Option.map_some, Option.getD_some] at hj
  obtain ⟨e, he, h2⟩ := Array.any_eq_true'.1 hj
  rw [Bool.and_eq_true, decide_eq_true_iff] at h2
  have := h o ho e he h2.2
  rwa [h2.1] at this
def AllC (C : Nat → Prop) : Nat → Prop
 | 0 => True
 | n + 1 => AllC C n ∧ C n
theorem AllC.at {C : Nat → Prop} : ∀ {n : Nat}, AllC C n → ∀ i, i < n → C i
 | 0, _, i, hi => absurd hi (by omega)
 | n + 1, h, i, hi => by
  by_cases e : i = n
  ·subst e; exact h.2
  ·exact AllC.at h.1 i (by omega)
def StepC (P : Program) (ops : Array Oper) (Q : Exit → Act → World → Prop) (v : Nat → Nat → Value) (Wd : Nat → (Nat → Bool) → World → Prop) (a0 : Act) (i : Nat) : Prop :=
 dstB ops a0.tmps.size = true → ∀ g L a w, L i = false → (∀ j, depB ops i j = true → L j = true) → FitR ops (v g) L a0 a → Wd g L w → wpOp P ops Q i (fun a' w' => ∃ g', FitR ops (v g') (updL L i) a0 a' ∧ Wd g' (updL L i) w') a w
theorem wp_region_fit {P : Program} {ops : Array Oper} {Q : Exit → Act → World → Prop} {id : Nat} {a : Act} {w : World} (hm : P.follows .mixedOrders = true) (hd : downB ops = true) (hb : dstB ops a.tmps.size = true) (v : Nat → Nat → Value) (Wd : Nat → (Nat → Bool) → World → Prop)
  (h0 : ∃ g, Wd g (fun _ => false) w.drew) (hs : AllC (StepC P ops Q v Wd a) ops.size)
  (hf : ∀ g L w', (∀ i, i < ops.size → L i = true) → Wd g L w' → Q .normal ⟨((List.range a.tmps.size).map (finT ops (v g) a)).toArray, a.defers⟩ w') : (Code.region id ops true).wp P Q a w := by
 obtain ⟨g0, h0⟩ := h0
 refine wp_region_inv hm hd (fun L a' w' => ∃ g, FitR ops (v g) L a a' ∧ Wd g L w') ⟨g0, FitR.start ops (v g0) a, h0⟩ ?_ ?_
 ·rintro i hi L a' w' hL hdep ⟨g, hF, hW⟩
  exact hs.at i hi hb g L a' w' hL (dep_at hdep) hF hW
 ·rintro L a' w' hall ⟨g, hF, hW⟩
  rw [hF.fin hall]
  exact hf g L w' hall hW
theorem fit_val {P : Program} {ops : Array Oper} {Q : Exit → Act → World → Prop} {v : Nat → Nat → Value} {Wd : Nat → (Nat → Bool) → World → Prop} {a0 a : Act} {w : World} {i g : Nat} {L : Nat → Bool} {o : Oper} (ho : ops[i]? = some o) (hb : dstB ops a0.tmps.size = true) (hg : o.guard = none) (hF : FitR ops (v g) L a0 a) (hW : Wd g (updL L i) w)
  (hr : (execOp a.eval o).run P w = .ok (.value (v g i)) w) : wpOp P ops Q i (fun a' w' => ∃ g', FitR ops (v g') (updL L i) a0 a' ∧ Wd g' (updL L i) w') a w := wpOp_val ho hg hr ⟨g, hF.put hb ho, hW⟩
theorem fit_call {P : Program} {ops : Array Oper} {Q : Exit → Act → World → Prop} {v : Nat → Nat → Value} {Wd : Nat → (Nat → Bool) → World → Prop} {a0 a : Act} {w : World} {i g : Nat} {L : Nat → Bool} {o : Oper} {f : FuncId} {args : Array Value} (ho : ops[i]? = some o) (hb : dstB ops a0.tmps.size = true) (hg : o.guard = none) (hF : FitR ops (v g) L a0 a)
  (hr : (execOp a.eval o).run P w = .ok (.enter f args) w) (hc : Calls P f args w fun e w' => e = .returned (v g i) ∧ Wd g (updL L i) w') : wpOp P ops Q i (fun a' w' => ∃ g', FitR ops (v g') (updL L i) a0 a' ∧ Wd g' (updL L i) w') a w :=
 wpOp_call ho hg hr (hc.mono fun _ _ ⟨he, hw⟩ => ⟨_, he, g, hF.put hb ho, hw⟩)
end Go.Proofs.YtnjjajanfedjiaaGreatDoor
namespace Go.Proofs.YtnjjajanfedjiaaGreatDoor
open Go.RowKit Go.Sort
attribute [local go_sem] bs_size bs_extract bs_append bs_toList
def rfV (v : Vl) : Bs := if v.kind = 2 then [39] ++ v.word ++ [39] else Lib.itoa v.num
def rfArg (a : Ar) : Bs := if a.col = [] then rfV a.val else a.col
theorem rfV_any (v : Vl) (hn : numOk v.num) (hw : v.word.length ≤ 1000000000) (w : World) (hE : Lib.TabIs Tryz.prog w "internal/strconv.uint64pow10" .u64 Lib.pow10Tab) :
  Calls Tryz.prog 82 #[vAgg v] w fun e w' => e = .returned (.string (bs (rfV v))) ∧ Keeps [] w w' := by
 obtain ⟨k, n, s⟩ := v
 simp only at hn hw
 show Calls _ _ #[.agg #[.int .i64 k, .int .i64 n, .string (bs s)]] w _
 have HE := Lib.hid hE
 have HN := Lib.hid hn
 clear hE hn
 by_cases h1 : k = 2
 ·have hb1 : (k == 2) = true := by rw [h1]; rfl
  have HF : Hid (rfV ⟨k, n, s⟩ = [39] ++ s ++ [39]) := Lib.hid (if_pos h1)
  clear h1
  go_enter Tryz.func82, Tryz.ntmps82
  go_wp2
  go_ret
  exact ⟨by rw [HF.out, ← bs_append, ← bs_append]; rfl, (Keeps.refl _ _).alloc _⟩
 ·have hb1 : (k == 2) = false := by rw [beq_eq_false_iff_ne]; exact h1
  have HF : Hid (rfV ⟨k, n, s⟩ = Lib.itoa n) := Lib.hid (if_neg h1)
  clear h1
  go_enter Tryz.func82, Tryz.ntmps82
  go_wp2_with fail
  refine (Tryz.strconv_Itoa n HN.out.1 HN.out.2 _ (tabIs_quiet HE.out ((Keeps.refl _ _).alloc _))).mono ?_
  rintro e w' ⟨rfl, k2, os, rfl⟩
  go_wp2
  go_ret
  exact ⟨by rw [HF.out]; rfl, (((Keeps.refl _ _).alloc _).drewN _).trans (keeps_grow _ _)⟩
set_option maxRecDepth 100000 in
set_option maxHeartbeats 1000000 in
theorem rfArg_any (a : Ar) (ha : ArW a) (w : World) (hE : FEnv w) :
  Calls Tryz.prog 44 #[arV a] w fun e w' => e = .returned (.string (bs (rfArg a))) ∧ Keeps [] w w' := by
 obtain ⟨s, v⟩ := a
 obtain ⟨k, n, u⟩ := v
 show Calls _ _ #[.agg #[.string (bs s), .int .i64 k, .int .i64 n, .string (bs u)]] w _
 have HV := Lib.hid (fun W hW => rfV_any ⟨k, n, u⟩ ha.1 ha.2 W (FEnv.p10 hW))
 have HE := Lib.hid hE
 clear hE ha
 by_cases h : s = []
 ·have HT : Hid (rfArg ⟨s, ⟨k, n, u⟩⟩ = rfV ⟨k, n, u⟩) := Lib.hid (if_pos h)
  subst h
  go_enter Tryz.func44, Tryz.ntmps44
  go_wp2_with fail
  refine (HV.out _ (HE.out.quiet ((Keeps.refl _ _).alloc _))).mono ?_
  rintro e w' ⟨rfl, hk⟩
  go_wp2
  go_ret
  exact ⟨by rw [HT.out]; rfl, ((Keeps.refl _ _).alloc _).trans hk⟩
 ·have HT : Hid (rfArg ⟨s, ⟨k, n, u⟩⟩ = s) := Lib.hid (if_neg h)
  have h1 : List.isEmpty s = false := by
   cases s with
   | nil => exact absurd rfl h
   | cons c t => rfl
  clear h
  go_enter Tryz.func44, Tryz.ntmps44
  go_wp2
  go_ret
  exact ⟨by rw [HT.out]; rfl, (Keeps.refl _ _).alloc _⟩
theorem join_any (l : List Bs) (hl : l.length ≤ 1000000) (hlen : (joinCm l).length ≤ 1000000000) (A : Option Addr) (c : Nat) (w : World) (base : Nat) (h : w.ownsRow base 9 1 (.slice A l.length c) l.length (strs l)) :
  Calls Tryz.prog 42 #[.slice A l.length c, .string (bs [44, 32])] w fun e w' => e = .returned (.string (bs (joinCm l))) ∧ Keeps [] w w' := by
 by_cases hne : l = []
 ·subst hne
  clear h hl hlen
  go_enter Tryz.func42, Tryz.ntmps42
  go_wp2
  go_ret
  exact ⟨rfl, Keeps.refl _ _⟩
 ·exact joinS_any l hne hl hlen A c w base h
end Go.Proofs.YtnjjajanfedjiaaGreatDoor
namespace Go.Proofs.YtnjjajanfedjiaaGreatDoor
open Go.RowKit Go.Maps
def asIs (v : Value) : Option (DataW Value × List MemPlace) := some (.held v, [])
def MapV (P : Program) (K : TypeId) (w : World) (b n : Nat) (m : Int → Option Value) : Prop :=
 ∃ D : DataW Value, w.ownsMap P K asIs b n D ∧ ∀ k : Int, (Lit.int .i64 k).wf = true → Maps.has D (.int .i64 k) = (m k).isSome ∧ ∀ v, m k = some v → ∀ z, D.atKey (.int .i64 k) z = .held v
section
variable {P : Program} {T K E : TypeId} {w w' : World} {b n : Nat} {m : Int → Option Value}
theorem MapV.lt (h : MapV P K w b n m) : b < w.heap.size := by obtain ⟨D, h, _⟩ := h; exact h.lt
theorem MapV.made (w : World) : MapV P K (w.alloc (.map #[] 0)) w.heap.size 0 fun _ => none :=
 ⟨_, World.ownsMap_made w _ _ _, fun k _ => ⟨rfl, fun _ h => by cases h⟩⟩
theorem MapV.of_block (h : MapV P K w b n m) (hb : w'.heap[b]? = w.heap[b]?) : MapV P K w' b n m := by
 obtain ⟨D, ⟨es, clock, h1, h2⟩, h3⟩ := h
 exact ⟨D, ⟨es, clock, hb.trans h1, h2⟩, h3⟩
theorem MapV.keep {L : List Nat} (h : MapV P K w b n m) (hk : Keeps L w w') (hb : b ∉ L) : MapV P K w' b n m := h.of_block (hk.block b h.lt hb)
theorem MapV.mono (h : MapV P K w b n m) {n' : Nat} (hn : n ≤ n') : MapV P K w b n' m := by
 obtain ⟨D, h1, h2⟩ := h
 exact ⟨D, h1.mono hn, h2⟩
theorem MapV.congr {m' : Int → Option Value} (h : MapV P K w b n m) (e : m = m') : MapV P K w b n m' := e ▸ h
theorem MapV.look (h : MapV P K w b n m) (hT : P.underlying T = some (.map K E)) (hK : P.underlying K = some (.int .i64)) {z : Value} (hz : (zeroValue E).run P w = .ok z w) (k : Int) (hk : (Lit.int .i64 k).wf = true) :
  (Instr.lookup T (.map (some b)) (.int .i64 k) false).run P w = .ok ((m k).getD z) w := by
 obtain ⟨D, h1, h2⟩ := h
 have hkey : keyOf P K (.int .i64 k) = some (.int .i64 k) := keyOf_int_mk hK hk
 obtain ⟨v, ps, hrun, hv⟩ := h1.lookup (int_keyed hK) hT hz (zd := .held z) (zp := []) rfl hkey
 rw [hrun]
 have hv' : DataW.held v = D.atKey (.int .i64 k) (.held z) := by
  injection hv with hv
  exact congrArg Prod.fst hv
 cases hm : m k with
 | some u =>
  rw [(h2 k hk).2 u hm] at hv'
  injection hv' with e
  rw [e]; rfl
 | none =>
  have h0 : Maps.has D (.int .i64 k) = false := by rw [(h2 k hk).1, hm]; rfl
  rw [atKey_of_not_has h0] at hv'
  injection hv' with e
  rw [e]; rfl
theorem MapV.store (h : MapV P K w b n m) (hT : P.underlying T = some (.map K E)) (hK : P.underlying K = some (.int .i64)) (k : Int) (v : Value) (hk : (Lit.int .i64 k).wf = true) (hn : n < maxLen) :
  ∃ w', (Instr.mapUpdate T (.map (some b)) (.int .i64 k) v).run P w = .ok () w' ∧ MapV P K w' b (n + 1) (fun x => if x = k then some v else m x) ∧ w.grownBy w' (some b) := by
 obtain ⟨D, h1, h2⟩ := h
 have hkey : keyOf P K (.int .i64 k) = some (.int .i64 k) := keyOf_int_mk hK hk
 obtain ⟨w', hrun, h3, h4⟩ := h1.update (int_keyed hK) hT hn hkey (d := .held v) (ps := []) rfl
 have hm := h1.isMap
 refine ⟨w', hrun, ⟨_, h3, fun x hx0 => ?_⟩, h4⟩
 by_cases hx : x = k
 ·subst hx
  simp only [if_pos]
  exact ⟨by rw [has_put_same hm (by trivial)]; rfl, fun u hu z => by
   cases hu
   rw [atKey_put_same hm (by trivial)]⟩
 ·have hne : (Lit.int IntKind.i64 x) ≠ Lit.int .i64 k := fun e => hx (by injection e)
  simp only [if_neg hx]
  refine ⟨?_, fun u hu z => ?_⟩
  ·rw [has_put_other hne]; exact (h2 x hx0).1
  ·rw [atKey_put_other hne]; exact (h2 x hx0).2 u hu z
end
end Go.Proofs.YtnjjajanfedjiaaGreatDoor
