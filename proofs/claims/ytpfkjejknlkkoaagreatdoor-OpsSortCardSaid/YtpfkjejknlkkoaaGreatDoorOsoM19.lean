/- As RegI, where an operation may name a later one that does not bind it (a swap's stores). No program in sight. slices.swapRangeCmpFunc at rows. slices.insertionSortCmpFunc at rows. -/
import Derived.Test.YtpfkjejknlkkoaaGreatDoorOsoM18
import Derived.Test.YtpfkjejknlkkoaaGreatDoorOsoM5
import Derived.Test.YtpfkjejknlkkoaaGreatDoorOsoM2
import Derived.Deep.CutBlock
import Derived.Deep.DeepCutAuto
set_option linter.unusedSimpArgs false
set_option linter.unusedVariables false
namespace Go.Proofs.YtpfkjejknlkkoaaGreatDoor
open Go.RowKit
def downC (ops : Array Oper) : Bool := (List.range ops.size).all fun i => ((ops[i]?).map fun o => o.after.all fun e => !Region.binds .any e || decide (e.on < i)).getD false
theorem downC_at {ops : Array Oper} (h : downC ops = true) {i : Nat} {o : Oper} (ho : ops[i]? = some o) {e : Edge} (he : e ∈ o.after) (hb : Region.binds .any e = true) : e.on < i := by
 have hi : i < ops.size := (Array.getElem?_eq_some_iff.1 ho).1
 have h1 := List.all_eq_true.1 h i (List.mem_range.2 hi)
 rw [ho] at h1
 simp only [Option.map_some, Option.getD_some, Array.all_eq_true_iff_forall_mem] at h1
 have h2 := h1 e he
 rw [hb] at h2
 simpa using h2
theorem ready_iff' {ops : Array Oper} {listed : Array Bool} {L : Nat → Bool} (hd : downC ops = true) (h : Agrees ops listed L) (i : Nat) :
  i ∈ Region.ready .any ops listed ↔ i < ops.size ∧ L i = false ∧ ∀ o, ops[i]? = some o → ∀ e ∈ o.after, Region.binds .any e = true → L e.on = true := by
 unfold Region.ready
 rw [List.mem_filter, List.mem_range]
 constructor
 ·rintro ⟨h1, h2⟩
  rw [Bool.and_eq_true, h.get h1] at h2
  refine ⟨h1, by simpa using h2.1, fun o ho e he hb => ?_⟩
  have h3 := h2.2
  rw [ho] at h3
  simp only [Option.map_some, Option.getD_some, Array.all_eq_true_iff_forall_mem] at h3
  have h4 := h3 e he
  rw [hb, Bool.not_true, Bool.false_or, h.get (by have := downC_at hd ho he hb; omega)] at h4
  exact h4
 ·rintro ⟨h1, h2, h3⟩
  refine ⟨h1, ?_⟩
  rw [Bool.and_eq_true, h.get h1, h2]
  refine ⟨rfl, ?_⟩
  obtain ⟨o, ho⟩ : ∃ o, ops[i]? = some o := ⟨_, Array.getElem?_eq_getElem h1⟩
  rw [ho]
  simp only [Option.map_some, Option.getD_some, Array.all_eq_true_iff_forall_mem]
  intro e he
  cases hb : Region.binds .any e with
  | false => rfl
  | true =>
   rw [Bool.not_true, Bool.false_or, h.get (by have := downC_at hd ho he hb; omega)]
   exact h3 o ho e he hb
theorem some_ready' {ops : Array Oper} {L : Nat → Bool} (hd : downC ops = true) : ∀ (i : Nat), i < ops.size → L i = false → ∃ j, j < ops.size ∧ L j = false ∧ ∀ o, ops[j]? = some o → ∀ e ∈ o.after, Region.binds .any e = true → L e.on = true := by
 intro i
 induction i using Nat.strongRecOn with
 | ind i ih =>
  intro hi hL
  by_cases hx : ∃ o, ops[i]? = some o ∧ ∃ e ∈ o.after, Region.binds .any e = true ∧ L e.on = false
  ·obtain ⟨o, ho, e, he, hbb, hf⟩ := hx
   have hlt := downC_at hd ho he hbb
   exact ih e.on hlt (by omega) hf
  ·refine ⟨i, hi, hL, fun o ho e he hb => ?_⟩
   cases hl : L e.on with
   | true => rfl
   | false => exact absurd ⟨o, ho, e, he, hb, hl⟩ hx
section
variable {P : Program} {ops : Array Oper} {Q : Exit → Act → World → Prop}
theorem wpAny_inv' (hd : downC ops = true) (I : (Nat → Bool) → Act → World → Prop)
  (hs : ∀ i, i < ops.size → ∀ L a w, L i = false → (∀ o, ops[i]? = some o → ∀ e ∈ o.after, Region.binds .any e = true → L e.on = true) → I L a w → wpOp P ops Q i (I (updL L i)) a w)
  (hf : ∀ L a w, (∀ i, i < ops.size → L i = true) → I L a w → Q .normal a w) :
  ∀ (fuel : Nat) (listed : Array Bool) (L : Nat → Bool) (a : Act) (w : World), Agrees ops listed L → leftN L ops.size ≤ fuel → I L a w → wpAny P .any ops Q fuel listed a w
 | 0, listed, L, a, w, hA, hn, hI => by
  have hall := leftN_zero (Nat.le_zero.1 hn)
  refine ⟨List.eq_nil_iff_forall_not_mem.2 fun i hi => ?_, hf L a w hall hI⟩
  have := (ready_iff' hd hA i).1 hi
  rw [hall i this.1] at this
  exact absurd this.2.1 (by decide)
 | fuel + 1, listed, L, a, w, hA, hn, hI => by
  refine ⟨fun hr => hf L a w (fun i hi => ?_) hI, fun i hi => ?_⟩
  ·cases hl : L i with
   | true => rfl
   | false =>
    obtain ⟨j, hj⟩ := some_ready' hd i hi hl
    have := (ready_iff' hd hA j).2 hj
    rw [hr] at this
    cases this
  ·obtain ⟨h1, h2, h3⟩ := (ready_iff' hd hA i).1 hi
   have hc := leftN_upd h2 h1
   exact wpOp_mono (fun a' w' h => wpAny_inv' hd I hs hf fuel _ (updL L i) a' w' (hA.set h1) (by omega) h) (hs i h1 L a w h2 h3 hI)
theorem wp_region_inv' {id : Nat} {a : Act} {w : World} (hm : P.follows .mixedOrders = true) (hd : downC ops = true) (I : (Nat → Bool) → Act → World → Prop)
  (h0 : I (fun _ => false) a w.drew)
  (hs : ∀ i, i < ops.size → ∀ L a w, L i = false → (∀ o, ops[i]? = some o → ∀ e ∈ o.after, Region.binds .any e = true → L e.on = true) → I L a w → wpOp P ops Q i (I (updL L i)) a w)
  (hf : ∀ L a w, (∀ i, i < ops.size → L i = true) → I L a w → Q .normal a w) : (Code.region id ops true).wp P Q a w := by
 refine wp_region_any hm (wpAny_inv' hd I hs hf ops.size _ (fun _ => false) a _ ⟨by simp, fun i hi => by simp [hi]⟩ ?_ h0)
 unfold leftN
 refine Nat.le_trans List.countP_le_length (by simp)
end
theorem wp_region_fit' {G : Type} {P : Program} {ops : Array Oper} {Q : Exit → Act → World → Prop} {id : Nat} {a : Act} {w : World} (hm : P.follows .mixedOrders = true) (hd : downC ops = true) (hb : dstB ops a.tmps.size = true) (v : G → Nat → Value) (Wd : G → (Nat → Bool) → World → Prop)
  (h0 : ∃ g, Wd g (fun _ => false) w.drew) (hs : AllC (StepC P ops Q v Wd a) ops.size)
  (hf : ∀ g L w', (∀ i, i < ops.size → L i = true) → Wd g L w' → Q .normal ⟨((List.range a.tmps.size).map (finT ops (v g) a)).toArray, a.defers⟩ w') : (Code.region id ops true).wp P Q a w := by
 obtain ⟨g0, h0⟩ := h0
 refine wp_region_inv' hm hd (fun L a' w' => ∃ g, FitR ops (v g) L a a' ∧ Wd g L w') ⟨g0, FitR.start ops (v g0) a, h0⟩ ?_ ?_
 ·rintro i hi L a' w' hL hdep ⟨g, hF, hW⟩
  exact hs.at i hi hb g L a' w' hL (dep_at hdep) hF hW
 ·rintro L a' w' hall ⟨g, hF, hW⟩
  rw [hF.fin hall]
  exact hf g L w' hall hW
end Go.Proofs.YtpfkjejknlkkoaaGreatDoor
namespace Go.Proofs.YtpfkjejknlkkoaaGreatDoor
open Go.RowKit Go.BigFrame
attribute [local go_sem] bs_size bs_extract bs_append bs_toList KW.cell
theorem sdrop_at {α : Type} {l : List α} {i : Nat} (h : i < l.length) : l.drop i = l[i] :: l.drop (i + 1) := List.drop_eq_getElem_cons h
theorem take_at {α : Type} {l : List α} {i : Nat} (h : i < l.length) : l.take (i + 1) = l.take i ++ [l[i]] := by rw [List.take_add_one, List.getElem?_eq_getElem h]; rfl
set_option maxRecDepth 100000 in
set_option maxHeartbeats 16000000 in
theorem swapRange_any (y : World) (G : Nat) (rest : List Value) (n c : Nat) (hn : n ≤ 1000000) (cv : Value) (P A M B Q : List SR) (hAB : B.length = A.length) (hlen : P.length + A.length + M.length + B.length + Q.length = n) (a b k : Nat) (ha : a = P.length) (hb : b = P.length + A.length + M.length) (hk : k = A.length) (w : World) (h : SrSt y G rest (P ++ (A ++ (M ++ (B ++ Q)))) w) :
  Calls Tryz.prog 156 #[.slice (some ⟨G, 0, none⟩) n c, .int .i64 (a : Int), .int .i64 (b : Int), .int .i64 (k : Int), cv] w fun e w' => e = .returned (.tuple #[]) ∧ SrSt y G rest (P ++ (B ++ (M ++ (A ++ Q)))) w' := by
 have HS := Lib.hid h
 clear h
 go_enter Tryz.func156, Tryz.ntmps156
 go_wp2_with fail
 go_loopw [10] (fun v wr => ∃ i : Nat, i ≤ k ∧ v = .int .i64 (i : Int) ∧ Hid (SrSt y G rest (P ++ (B.take i ++ (A.drop i ++ (M ++ (A.take i ++ (B.drop i ++ Q)))))) wr)) (fun v _ => k - (intOf v).toNat)
 case atStart => exact ⟨0, Nat.zero_le _, rfl, by simpa using HS⟩
 case round =>
  obtain ⟨i, hi, rfl, HI⟩ := hrel
  by_cases hik : i < k
  ·have hiki : (i : Int) < (k : Int) := by omega
   have hiA : i < A.length := by omega
   have hiB : i < B.length := by omega
   obtain ⟨xa, hxa⟩ : ∃ x, A[i] = x := ⟨_, rfl⟩
   obtain ⟨xb, hxb⟩ : ∃ x, B[i] = x := ⟨_, rfl⟩
   obtain ⟨p, hp⟩ : ∃ p : Nat, a + i = p := ⟨_, rfl⟩
   obtain ⟨q, hq⟩ : ∃ q : Nat, b + i = q := ⟨_, rfl⟩
   have hpn : (p : Int) < (n : Int) := by omega
   have hqn : (q : Int) < (n : Int) := by omega
   have hwp : IntKind.i64.wrap ((a : Int) + (i : Int)) = (p : Int) := by simp [IntKind.wrap, IntKind.bits, IntKind.signed]; omega
   have hwq : IntKind.i64.wrap ((b : Int) + (i : Int)) = (q : Int) := by simp [IntKind.wrap, IntKind.bits, IntKind.signed]; omega
   have eX : P ++ (B.take i ++ (A.drop i ++ (M ++ (A.take i ++ (B.drop i ++ Q))))) = (P ++ B.take i) ++ xa :: ((A.drop (i + 1) ++ (M ++ A.take i)) ++ xb :: (B.drop (i + 1) ++ Q)) := by
    rw [sdrop_at hiA, sdrop_at hiB, hxa, hxb]
    simp
   have eY : P ++ (B.take (i + 1) ++ (A.drop (i + 1) ++ (M ++ (A.take (i + 1) ++ (B.drop (i + 1) ++ Q))))) = (P ++ B.take i) ++ xb :: ((A.drop (i + 1) ++ (M ++ A.take i)) ++ xa :: (B.drop (i + 1) ++ Q)) := by
    rw [take_at hiA, take_at hiB, hxa, hxb]
    simp
   have hXl : p = (P ++ B.take i).length := by rw [List.length_append, List.length_take]; omega
   have hYl : q = (P ++ B.take i).length + 1 + (A.drop (i + 1) ++ (M ++ A.take i)).length := by
    simp only [List.length_append, List.length_take, List.length_drop]
    omega
   rw [eX] at HI
   obtain ⟨X, hX⟩ : ∃ X, P ++ B.take i = X := ⟨_, rfl⟩
   obtain ⟨Y, hY⟩ : ∃ X, A.drop (i + 1) ++ (M ++ A.take i) = X := ⟨_, rfl⟩
   obtain ⟨Z, hZ⟩ : ∃ X, B.drop (i + 1) ++ Q = X := ⟨_, rfl⟩
   rw [hX, hY, hZ] at HI
   have HEY : Hid (∀ wx, SrSt y G rest (X ++ xb :: (Y ++ xa :: Z)) wx → SrSt y G rest (P ++ (B.take (i + 1) ++ (A.drop (i + 1) ++ (M ++ (A.take (i + 1) ++ (B.drop (i + 1) ++ Q)))))) wx) := Lib.hid (fun wx h => by
    rw [eY, hX, hY, hZ]
    exact h)
   have hwi : IntKind.i64.wrap ((i : Int) + 1) = (i : Int) + 1 := by simp [IntKind.wrap, IntKind.bits, IntKind.signed]; omega
   rw [hX] at hXl hYl
   rw [hY] at hYl
   have HB := Lib.hid HI.out.b
   have HC1 : Hid ((srCells (X ++ xa :: (Y ++ xb :: Z)) rest)[p]? = some (.slice xa.A xa.n xa.c)) := Lib.hid (sr_at X _ xa rest hXl)
   have HC2 : Hid ((srCells (X ++ xa :: (Y ++ xb :: Z)) rest)[q]? = some (.slice xb.A xb.n xb.c)) := Lib.hid (sr_snd X Y Z xa xb rest hYl)
   have HPQ : Hid (p ≠ q) := Lib.hid (by omega)
   have HSW := Lib.hid (sr_swap X Y Z xa xb rest hXl hYl)
   clear eX eY hX hY hZ hXl hYl hxa hxb hp hq hiA hiB hAB hlen ha hb
   go_upto_block 1 with (fail)
   go_cut [] (fun wx => Hid (SrSt y G rest (X ++ xb :: (Y ++ xa :: Z)) wx))
   case first =>
    rename_i J1 K1 hJ1 hK1
    go_upto_region 3 with (fail)
    refine wp_region_fit' (by kernel_rfl) (by kernel_rfl) (by kernel_rfl) (fun (_ : Unit) ix => ([.slice (some ⟨G, 0, none⟩) n c, .int .i64 (a : Int), .int .i64 (i : Int), .int .i64 (p : Int), .slice (some ⟨G, 0, none⟩) n c, .int .i64 (b : Int), .int .i64 (i : Int), .int .i64 (q : Int), .slice (some ⟨G, 0, none⟩) n c, .int .i64 (b : Int), .int .i64 (i : Int), .int .i64 (q : Int), .pointer (some ⟨G, q, none⟩), .slice xb.A xb.n xb.c, .slice (some ⟨G, 0, none⟩) n c, .int .i64 (a : Int), .int .i64 (i : Int), .int .i64 (p : Int), .pointer (some ⟨G, p, none⟩), .slice xa.A xa.n xa.c, .pointer (some ⟨G, p, none⟩), undef, .pointer (some ⟨G, q, none⟩), undef] : List Value).getD ix undef) (fun (_ : Unit) L w' => SwW wr G 41 (srCells (X ++ xa :: (Y ++ xb :: Z)) rest) p q (.slice xb.A xb.n xb.c) (.slice xa.A xa.n xa.c) 13 19 21 23 L w') ⟨(), SwW.start HB.out⟩ ?_ ?_
    ·show AllC _ 24
     refine ⟨⟨⟨⟨⟨⟨⟨⟨⟨⟨⟨⟨⟨⟨⟨⟨⟨⟨⟨⟨⟨⟨⟨⟨trivial, ?_⟩, ?_⟩, ?_⟩, ?_⟩, ?_⟩, ?_⟩, ?_⟩, ?_⟩, ?_⟩, ?_⟩, ?_⟩, ?_⟩, ?_⟩, ?_⟩, ?_⟩, ?_⟩, ?_⟩, ?_⟩, ?_⟩, ?_⟩, ?_⟩, ?_⟩, ?_⟩, ?_⟩
     ·intro hb g L a1 w1 hL hD hF hW
      have e0 : a1.tmps.getD 0 undef = .slice (some ⟨G, 0, none⟩) n c := hF.old 0 (by kernel_rfl)
      have hN := hW.far (k := 0) (by decide) (by decide)
      refine fit_val (g := g) rfl hb rfl hF (by exact hN) ?_
      show (execOp _ _).run _ _ = Result.ok (.value (.slice (some ⟨G, 0, none⟩) n c)) _
      clear hN hF hD hb hW
      simp only [execOp, Act.eval, e0]
      go_simp
     ·intro hb g L a1 w1 hL hD hF hW
      have e1 : a1.tmps.getD 1 undef = .int .i64 (a : Int) := hF.old 1 (by kernel_rfl)
      have hN := hW.far (k := 1) (by decide) (by decide)
      refine fit_val (g := g) rfl hb rfl hF (by exact hN) ?_
      show (execOp _ _).run _ _ = Result.ok (.value (.int .i64 (a : Int))) _
      clear hN hF hD hb hW
      simp only [execOp, Act.eval, e1]
      go_simp
     ·intro hb g L a1 w1 hL hD hF hW
      have e10 : a1.tmps.getD 10 undef = .int .i64 (i : Int) := hF.old 10 (by kernel_rfl)
      have hN := hW.far (k := 2) (by decide) (by decide)
      refine fit_val (g := g) rfl hb rfl hF (by exact hN) ?_
      show (execOp _ _).run _ _ = Result.ok (.value (.int .i64 (i : Int))) _
      clear hN hF hD hb hW
      simp only [execOp, Act.eval, e10]
      go_simp
     ·intro hb g L a1 w1 hL hD hF hW
      have e17 : a1.tmps.getD 17 undef = .int .i64 (a : Int) := hF.y 1 _ 17 rfl rfl (hD 1 (by kernel_rfl))
      have e18 : a1.tmps.getD 18 undef = .int .i64 (i : Int) := hF.y 2 _ 18 rfl rfl (hD 2 (by kernel_rfl))
      have hN := hW.far (k := 3) (by decide) (by decide)
      refine fit_val (g := g) rfl hb rfl hF (by exact hN) ?_
      show (execOp _ _).run _ _ = Result.ok (.value (.int .i64 (p : Int))) _
      clear hN hF hD hb hW
      simp only [execOp, Act.eval, e17, e18]
      go_simp
     ·intro hb g L a1 w1 hL hD hF hW
      have e0 : a1.tmps.getD 0 undef = .slice (some ⟨G, 0, none⟩) n c := hF.old 0 (by kernel_rfl)
      have hN := hW.far (k := 4) (by decide) (by decide)
      refine fit_val (g := g) rfl hb rfl hF (by exact hN) ?_
      show (execOp _ _).run _ _ = Result.ok (.value (.slice (some ⟨G, 0, none⟩) n c)) _
      clear hN hF hD hb hW
      simp only [execOp, Act.eval, e0]
      go_simp
     ·intro hb g L a1 w1 hL hD hF hW
      have e2 : a1.tmps.getD 2 undef = .int .i64 (b : Int) := hF.old 2 (by kernel_rfl)
      have hN := hW.far (k := 5) (by decide) (by decide)
      refine fit_val (g := g) rfl hb rfl hF (by exact hN) ?_
      show (execOp _ _).run _ _ = Result.ok (.value (.int .i64 (b : Int))) _
      clear hN hF hD hb hW
      simp only [execOp, Act.eval, e2]
      go_simp
     ·intro hb g L a1 w1 hL hD hF hW
      have e10 : a1.tmps.getD 10 undef = .int .i64 (i : Int) := hF.old 10 (by kernel_rfl)
      have hN := hW.far (k := 6) (by decide) (by decide)
      refine fit_val (g := g) rfl hb rfl hF (by exact hN) ?_
      show (execOp _ _).run _ _ = Result.ok (.value (.int .i64 (i : Int))) _
      clear hN hF hD hb hW
      simp only [execOp, Act.eval, e10]
      go_simp
     ·intro hb g L a1 w1 hL hD hF hW
      have e21 : a1.tmps.getD 21 undef = .int .i64 (b : Int) := hF.y 5 _ 21 rfl rfl (hD 5 (by kernel_rfl))
      have e22 : a1.tmps.getD 22 undef = .int .i64 (i : Int) := hF.y 6 _ 22 rfl rfl (hD 6 (by kernel_rfl))
      have hN := hW.far (k := 7) (by decide) (by decide)
      refine fit_val (g := g) rfl hb rfl hF (by exact hN) ?_
      show (execOp _ _).run _ _ = Result.ok (.value (.int .i64 (q : Int))) _
      clear hN hF hD hb hW
      simp only [execOp, Act.eval, e21, e22]
      go_simp
     ·intro hb g L a1 w1 hL hD hF hW
      have e0 : a1.tmps.getD 0 undef = .slice (some ⟨G, 0, none⟩) n c := hF.old 0 (by kernel_rfl)
      have hN := hW.far (k := 8) (by decide) (by decide)
      refine fit_val (g := g) rfl hb rfl hF (by exact hN) ?_
      show (execOp _ _).run _ _ = Result.ok (.value (.slice (some ⟨G, 0, none⟩) n c)) _
      clear hN hF hD hb hW
      simp only [execOp, Act.eval, e0]
      go_simp
     ·intro hb g L a1 w1 hL hD hF hW
      have e2 : a1.tmps.getD 2 undef = .int .i64 (b : Int) := hF.old 2 (by kernel_rfl)
      have hN := hW.far (k := 9) (by decide) (by decide)
      refine fit_val (g := g) rfl hb rfl hF (by exact hN) ?_
      show (execOp _ _).run _ _ = Result.ok (.value (.int .i64 (b : Int))) _
      clear hN hF hD hb hW
      simp only [execOp, Act.eval, e2]
      go_simp
     ·intro hb g L a1 w1 hL hD hF hW
      have e10 : a1.tmps.getD 10 undef = .int .i64 (i : Int) := hF.old 10 (by kernel_rfl)
      have hN := hW.far (k := 10) (by decide) (by decide)
      refine fit_val (g := g) rfl hb rfl hF (by exact hN) ?_
      show (execOp _ _).run _ _ = Result.ok (.value (.int .i64 (i : Int))) _
      clear hN hF hD hb hW
      simp only [execOp, Act.eval, e10]
      go_simp
     ·intro hb g L a1 w1 hL hD hF hW
      have e25 : a1.tmps.getD 25 undef = .int .i64 (b : Int) := hF.y 9 _ 25 rfl rfl (hD 9 (by kernel_rfl))
      have e26 : a1.tmps.getD 26 undef = .int .i64 (i : Int) := hF.y 10 _ 26 rfl rfl (hD 10 (by kernel_rfl))
      have hN := hW.far (k := 11) (by decide) (by decide)
      refine fit_val (g := g) rfl hb rfl hF (by exact hN) ?_
      show (execOp _ _).run _ _ = Result.ok (.value (.int .i64 (q : Int))) _
      clear hN hF hD hb hW
      simp only [execOp, Act.eval, e25, e26]
      go_simp
     ·intro hb g L a1 w1 hL hD hF hW
      have e24 : a1.tmps.getD 24 undef = .slice (some ⟨G, 0, none⟩) n c := hF.y 8 _ 24 rfl rfl (hD 8 (by kernel_rfl))
      have e27 : a1.tmps.getD 27 undef = .int .i64 (q : Int) := hF.y 11 _ 27 rfl rfl (hD 11 (by kernel_rfl))
      have hN := hW.far (k := 12) (by decide) (by decide)
      refine fit_val (g := g) rfl hb rfl hF (by exact hN) ?_
      show (execOp _ _).run _ _ = Result.ok (.value (.pointer (some ⟨G, q, none⟩))) _
      clear hN hF hD hb hW
      simp only [execOp, Act.eval, e24, e27]
      go_simp
     ·intro hb g L a1 w1 hL hD hF hW
      have e28 : a1.tmps.getD 28 undef = .pointer (some ⟨G, q, none⟩) := hF.y 12 _ 28 rfl rfl (hD 12 (by kernel_rfl))
      have hN := hW.far (k := 13) (by decide) (by decide)
      obtain ⟨kk, bb⟩ := hW.ld1 hL
      have x1 : w1.cell? ⟨G, q, none⟩ = some (.slice xb.A xb.n xb.c) := (bb.cell _).trans HC2.out
      clear kk bb
      refine fit_val (g := g) rfl hb rfl hF (by exact hN) ?_
      show (execOp _ _).run _ _ = Result.ok (.value (.slice xb.A xb.n xb.c)) _
      clear hN hF hD hb hW
      simp only [execOp, Act.eval, e28]
      go_simp
     ·intro hb g L a1 w1 hL hD hF hW
      have e0 : a1.tmps.getD 0 undef = .slice (some ⟨G, 0, none⟩) n c := hF.old 0 (by kernel_rfl)
      have hN := hW.far (k := 14) (by decide) (by decide)
      refine fit_val (g := g) rfl hb rfl hF (by exact hN) ?_
      show (execOp _ _).run _ _ = Result.ok (.value (.slice (some ⟨G, 0, none⟩) n c)) _
      clear hN hF hD hb hW
      simp only [execOp, Act.eval, e0]
      go_simp
     ·intro hb g L a1 w1 hL hD hF hW
      have e1 : a1.tmps.getD 1 undef = .int .i64 (a : Int) := hF.old 1 (by kernel_rfl)
      have hN := hW.far (k := 15) (by decide) (by decide)
      refine fit_val (g := g) rfl hb rfl hF (by exact hN) ?_
      show (execOp _ _).run _ _ = Result.ok (.value (.int .i64 (a : Int))) _
      clear hN hF hD hb hW
      simp only [execOp, Act.eval, e1]
      go_simp
     ·intro hb g L a1 w1 hL hD hF hW
      have e10 : a1.tmps.getD 10 undef = .int .i64 (i : Int) := hF.old 10 (by kernel_rfl)
      have hN := hW.far (k := 16) (by decide) (by decide)
      refine fit_val (g := g) rfl hb rfl hF (by exact hN) ?_
      show (execOp _ _).run _ _ = Result.ok (.value (.int .i64 (i : Int))) _
      clear hN hF hD hb hW
      simp only [execOp, Act.eval, e10]
      go_simp
     ·intro hb g L a1 w1 hL hD hF hW
      have e31 : a1.tmps.getD 31 undef = .int .i64 (a : Int) := hF.y 15 _ 31 rfl rfl (hD 15 (by kernel_rfl))
      have e32 : a1.tmps.getD 32 undef = .int .i64 (i : Int) := hF.y 16 _ 32 rfl rfl (hD 16 (by kernel_rfl))
      have hN := hW.far (k := 17) (by decide) (by decide)
      refine fit_val (g := g) rfl hb rfl hF (by exact hN) ?_
      show (execOp _ _).run _ _ = Result.ok (.value (.int .i64 (p : Int))) _
      clear hN hF hD hb hW
      simp only [execOp, Act.eval, e31, e32]
      go_simp
     ·intro hb g L a1 w1 hL hD hF hW
      have e30 : a1.tmps.getD 30 undef = .slice (some ⟨G, 0, none⟩) n c := hF.y 14 _ 30 rfl rfl (hD 14 (by kernel_rfl))
      have e33 : a1.tmps.getD 33 undef = .int .i64 (p : Int) := hF.y 17 _ 33 rfl rfl (hD 17 (by kernel_rfl))
      have hN := hW.far (k := 18) (by decide) (by decide)
      refine fit_val (g := g) rfl hb rfl hF (by exact hN) ?_
      show (execOp _ _).run _ _ = Result.ok (.value (.pointer (some ⟨G, p, none⟩))) _
      clear hN hF hD hb hW
      simp only [execOp, Act.eval, e30, e33]
      go_simp
     ·intro hb g L a1 w1 hL hD hF hW
      have e34 : a1.tmps.getD 34 undef = .pointer (some ⟨G, p, none⟩) := hF.y 18 _ 34 rfl rfl (hD 18 (by kernel_rfl))
      have hN := hW.far (k := 19) (by decide) (by decide)
      obtain ⟨kk, bb⟩ := hW.ld2 hL
      have x1 : w1.cell? ⟨G, p, none⟩ = some (.slice xa.A xa.n xa.c) := (bb.cell _).trans HC1.out
      clear kk bb
      refine fit_val (g := g) rfl hb rfl hF (by exact hN) ?_
      show (execOp _ _).run _ _ = Result.ok (.value (.slice xa.A xa.n xa.c)) _
      clear hN hF hD hb hW
      simp only [execOp, Act.eval, e34]
      go_simp
     ·intro hb g L a1 w1 hL hD hF hW
      have e16 : a1.tmps.getD 16 undef = .slice (some ⟨G, 0, none⟩) n c := hF.y 0 _ 16 rfl rfl (hD 0 (by kernel_rfl))
      have e19 : a1.tmps.getD 19 undef = .int .i64 (p : Int) := hF.y 3 _ 19 rfl rfl (hD 3 (by kernel_rfl))
      have hN := hW.far (k := 20) (by decide) (by decide)
      refine fit_val (g := g) rfl hb rfl hF (by exact hN) ?_
      show (execOp _ _).run _ _ = Result.ok (.value (.pointer (some ⟨G, p, none⟩))) _
      clear hN hF hD hb hW
      simp only [execOp, Act.eval, e16, e19]
      go_simp
     ·intro hb g L a1 w1 hL hD hF hW
      have e36 : a1.tmps.getD 36 undef = .pointer (some ⟨G, p, none⟩) := hF.y 20 _ 36 rfl rfl (hD 20 (by kernel_rfl))
      have e29 : a1.tmps.getD 29 undef = .slice xb.A xb.n xb.c := hF.y 13 _ 29 rfl rfl (hD 13 (by kernel_rfl))
      obtain ⟨kk, bb⟩ := hW.p0 hL
      have x1 : w1.cell? ⟨G, p, none⟩ = some (.slice xa.A xa.n xa.c) := (bb.cell _).trans HC1.out
      have x2 : w1.frozen? ⟨G, p, none⟩ = false := bb.frozen _
      refine wpOp_skip (w' := w1.setCell ⟨G, p, none⟩ (.slice xb.A xb.n xb.c)) rfl rfl ?_ ⟨g, hF.put hb rfl, hW.b1 hL (hD 13 (by kernel_rfl)) (hD 19 (by kernel_rfl)) (by decide)⟩
      clear hF hD hb hW kk bb
      simp only [execOp, Act.eval, e36, e29]
      go_simp
     ·intro hb g L a1 w1 hL hD hF hW
      have e20 : a1.tmps.getD 20 undef = .slice (some ⟨G, 0, none⟩) n c := hF.y 4 _ 20 rfl rfl (hD 4 (by kernel_rfl))
      have e23 : a1.tmps.getD 23 undef = .int .i64 (q : Int) := hF.y 7 _ 23 rfl rfl (hD 7 (by kernel_rfl))
      have hN := hW.far (k := 22) (by decide) (by decide)
      refine fit_val (g := g) rfl hb rfl hF (by exact hN) ?_
      show (execOp _ _).run _ _ = Result.ok (.value (.pointer (some ⟨G, q, none⟩))) _
      clear hN hF hD hb hW
      simp only [execOp, Act.eval, e20, e23]
      go_simp
     ·intro hb g L a1 w1 hL hD hF hW
      have e37 : a1.tmps.getD 37 undef = .pointer (some ⟨G, q, none⟩) := hF.y 22 _ 37 rfl rfl (hD 22 (by kernel_rfl))
      have e35 : a1.tmps.getD 35 undef = .slice xa.A xa.n xa.c := hF.y 19 _ 35 rfl rfl (hD 19 (by kernel_rfl))
      have h1 := hD 21 (by kernel_rfl)
      obtain ⟨kk, bb⟩ := hW.p1 h1 hL
      have x1 : w1.cell? ⟨G, q, none⟩ = some (.slice xb.A xb.n xb.c) := (bb.cell _).trans (by rw [Array.getElem?_setIfInBounds, if_neg HPQ.out]; exact HC2.out)
      have x2 : w1.frozen? ⟨G, q, none⟩ = false := bb.frozen _
      refine wpOp_skip (w' := w1.setCell ⟨G, q, none⟩ (.slice xa.A xa.n xa.c)) rfl rfl ?_ ⟨g, hF.put hb rfl, hW.b2 hL h1 (by decide)⟩
      clear hF hD hb hW kk bb
      simp only [execOp, Act.eval, e37, e35]
      go_simp
    ·intro g L w' hall hW
     (try simp only [Exit.inBlock, Exit.then])
     refine hK1 _ _ (Met.intro (hJ1 _ _ ?_))
     repeat apply Exists.intro
     exact ⟨Lib.hid ⟨HI.out.k.trans (hW.p2 (hall 23 (by decide))).1, (hW.p2 (hall 23 (by decide))).2.congr HSW.out⟩, rfl⟩
   case rest =>
    have HN := Lib.hid (HEY.out _ hcut.out)
    obtain ⟨y4, rfl⟩ : ∃ z : World, z = wc := ⟨_, rfl⟩
    clear hcut
    go_wp2
    go_roundw
    case rel => exact ⟨i + 1, by omega, by go_num, HN⟩
    case measure => simp [intOf]; omega
  ·have hiki : ¬ (i : Int) < (k : Int) := by omega
   have HF : Hid (SrSt y G rest (P ++ (B ++ (M ++ (A ++ Q)))) wr) := Lib.hid (by
    have h := HI.out
    rw [List.take_of_length_le (by omega), List.take_of_length_le (by omega), List.drop_of_length_le (by omega), List.drop_of_length_le (by omega)] at h
    simpa using h)
   go_wp2
   go_end0
   exact ⟨rfl, HF.out⟩
end Go.Proofs.YtpfkjejknlkkoaaGreatDoor
namespace Go.Proofs.YtpfkjejknlkkoaaGreatDoor
open Go.RowKit Go.BigFrame
attribute [local go_sem] bs_size bs_extract bs_append bs_toList KW.cell
def sle (ci : SR → SR → Int) (x z : SR) : Bool := !decide (ci z x < 0)
theorem sle_yes {ci : SR → SR → Int} {x z : SR} (h : ¬ ci z x < 0) : sle ci x z = true := by unfold sle; rw [decide_eq_false h]; rfl
theorem sle_no {ci : SR → SR → Int} {x z : SR} (h : ci z x < 0) : sle ci x z = false := by unfold sle; rw [decide_eq_true h]; rfl
structure CmpC (y : World) (G : Nat) (kf : Nat) (cap : Array Value) (ci : SR → SR → Int) (S : SR → Prop) : Prop where
 he : ∀ args w, (callFunc kf args).run Tryz.prog w = .ok (.enter kf args) w
 ord : Ord' (sle ci)
 c : ∀ x z, S x → S z → ∀ W, Keeps [G] y W → Calls Tryz.prog kf (#[x.v, z.v] ++ cap) W fun e W' => e = .returned (.int .i64 (ci x z)) ∧ Keeps [] W W'
theorem SrSt.at {y : World} {G : Nat} {rest : List Value} {X Y : List SR} {x : SR} {w : World} (h : SrSt y G rest (X ++ x :: Y) w) {i : Nat} (hi : i = X.length) : w.cell? ⟨G, i, none⟩ = some (.slice x.A x.n x.c) := (h.b.cell i).trans (sr_at X Y x rest hi)
theorem SrSt.keep {y : World} {G : Nat} {rest : List Value} {l : List SR} {w w' : World} (h : SrSt y G rest l w) (hk : Keeps [] w w') : SrSt y G rest l w' := ⟨h.k.trans hk.of_nil, h.b.keep hk (by simp)⟩
set_option maxRecDepth 100000 in
set_option maxHeartbeats 16000000 in
theorem insertion_any (y : World) (G : Nat) (rest : List Value) (n c : Nat) (hn : n ≤ 1000000) (kf : Nat) (cap : Array Value) (ci : SR → SR → Int) (S : SR → Prop) (hC : CmpC y G kf cap ci S) (P A Q : List SR) (hS : ∀ x ∈ A, S x) (hlen : P.length + A.length + Q.length = n) (a b : Nat) (ha : a = P.length) (hb : b = P.length + A.length) (w : World) (h : SrSt y G rest (P ++ (A ++ Q)) w) :
  Calls Tryz.prog 139 #[.slice (some ⟨G, 0, none⟩) n c, .int .i64 (a : Int), .int .i64 (b : Int), .func (.func kf) #[] cap] w fun e w' => e = .returned (.tuple #[]) ∧ SrSt y G rest (P ++ (stS (sle ci) A ++ Q)) w' := by
 have HS := Lib.hid h
 have HSS := Lib.hid hS
 have HC := Lib.hid hC
 have he := hC.he
 have hw1 : IntKind.i64.wrap ((a : Int) + 1) = ((a + 1 : Nat) : Int) := by simp [IntKind.wrap, IntKind.bits, IntKind.signed]; omega
 have hst : a = P.length ∧ b = P.length + A.length ∧ P.length + A.length + Q.length = n := ⟨ha, hb, hlen⟩
 have HST := Lib.hid hst
 clear h hS hC hst ha hb hlen
 go_enter Tryz.func139, Tryz.ntmps139
 go_wp2_with fail
 clear hw1
 go_loopw [8] (fun v wr => ∃ i t : Nat, v = .int .i64 (i : Int) ∧ i = a + t ∧ 1 ≤ t ∧ (t ≤ A.length ∨ t = 1) ∧ Hid (SrSt y G rest (P ++ (stS (sle ci) (A.take t) ++ (A.drop t ++ Q))) wr)) (fun v _ => b - (intOf v).toNat)
 case atStart =>
  refine ⟨a + 1, 1, rfl, rfl, Nat.le_refl _, .inr rfl, Lib.hid ?_⟩
  have e : stS (sle ci) (A.take 1) = A.take 1 := by
   cases A with
   | nil => rfl
   | cons x l => simp [stS, mg]
  rw [e, ← List.append_assoc (A.take 1), List.take_append_drop]
  exact HS.out
 case round =>
  obtain ⟨i, t, rfl, hit, ht1, ht, HI⟩ := hrel
  have hst := HST.out
  by_cases hib : i < b
  ·have hibi : (i : Int) < (b : Int) := by omega
   have htA : t < A.length := by omega
   obtain ⟨yy, hyy⟩ : ∃ x, A[t] = x := ⟨_, rfl⟩
   have hin : i < n := by omega
   have hwi : IntKind.i64.wrap ((i : Int) + 1) = (i : Int) + 1 := by simp [IntKind.wrap, IntKind.bits, IntKind.signed]; omega
   obtain ⟨L, hL⟩ : ∃ L, stS (sle ci) (A.take t) = L := ⟨_, rfl⟩
   obtain ⟨R, hR⟩ : ∃ R, A.drop (t + 1) ++ Q = R := ⟨_, rfl⟩
   have hLl : L.length = t := by rw [← hL, stS_len, List.length_take]; omega
   have HLS : Hid (Srt (sle ci) L) := Lib.hid (by rw [← hL]; exact stS_srt HC.out.ord _)
   have HLM : Hid (∀ x ∈ L, S x) := Lib.hid (fun x hx => by
    rw [← hL] at hx
    exact HSS.out x (List.mem_of_mem_take ((stS_perm _).mem_iff.1 hx)))
   have HYS : Hid (S yy) := Lib.hid (by rw [← hyy]; exact HSS.out _ (List.getElem_mem htA))
   have HEND : Hid (∀ L1 L2 wx, L1 ++ L2 = L → (∀ x ∈ L1, sle ci x yy = true) → (∀ x ∈ L2, sle ci x yy = false) → SrSt y G rest (P ++ (L1 ++ (yy :: (L2 ++ R)))) wx → SrSt y G rest (P ++ (stS (sle ci) (A.take (t + 1)) ++ (A.drop (t + 1) ++ Q))) wx) := Lib.hid (fun L1 L2 wx e h1 h2 h => by
    rw [take_at htA, hyy, stS_snoc, hL, ← e, mg_one h1 h2, hR]
    simpa using h)
   rw [sdrop_at htA, hyy, hL] at HI
   have HI0 : Hid (SrSt y G rest (P ++ (L ++ (yy :: ([] ++ R)))) wr) := Lib.hid (by
    have h := HI.out
    rw [← hR]
    simpa using h)
   have hPl : a = P.length := hst.1
   have HLP := Lib.hid (show i = a + L.length by omega)
   have HRL : Hid (P.length + L.length + 1 + R.length = n) := Lib.hid (by
    rw [← hR, List.length_append, List.length_drop]
    omega)
   have HPL := Lib.hid hPl
   have HTT : Hid (∀ wx, SrSt y G rest (P ++ (stS (sle ci) (A.take (t + 1)) ++ (A.drop (t + 1) ++ Q))) wx → ∃ i2 t2 : Nat, (.int .i64 ((i : Int) + 1) : Value) = .int .i64 (i2 : Int) ∧ i2 = a + t2 ∧ 1 ≤ t2 ∧ (t2 ≤ A.length ∨ t2 = 1) ∧ Hid (SrSt y G rest (P ++ (stS (sle ci) (A.take t2) ++ (A.drop t2 ++ Q))) wx)) := Lib.hid (fun wx h => ⟨i + 1, t + 1, by go_num, by omega, by omega, .inl (by omega), Lib.hid h⟩)
   clear hit ht1 ht htA hyy hL hR hLl hst hPl HI HS
   go_upto_block 1 with (fail)
   go_cut [] (fun wx => Hid (SrSt y G rest (P ++ (stS (sle ci) (A.take (t + 1)) ++ (A.drop (t + 1) ++ Q))) wx))
   case first =>
    go_wp2_with fail
    go_loopw [9] (fun v wx => ∃ (L1 L2 : List SR) (p : Nat), v = .int .i64 (p : Int) ∧ Hid (p = a + L1.length) ∧ p ≤ i ∧ Hid (L1 ++ L2 = L) ∧ Hid (∀ x ∈ L2, sle ci x yy = false) ∧ Hid (SrSt y G rest (P ++ (L1 ++ (yy :: (L2 ++ R)))) wx)) (fun v _ => (intOf v).toNat)
    case atStart => exact ⟨L, [], i, rfl, HLP, Nat.le_refl _, Lib.hid (by simp), Lib.hid (fun x hx => by cases hx), HI0⟩
    case round =>
     obtain ⟨L1, L2, p, rfl, HP, hpi, HL, HL2, HJ⟩ := hrel
     obtain ⟨u, rfl⟩ : ∃ u : World, u = wr := ⟨_, rfl⟩
     have hin' := hin
     rcases List.eq_nil_or_concat L1 with rfl | ⟨L1', z, rfl⟩
     ·have hpa : ¬ (p : Int) > (a : Int) := by
       have h := HP.out
       simp at h
       omega
      go_upto_region 4 with (fail)
      refine wp_region_keeps (by kernel_rfl) (by kernel_rfl) ?_
      repeat (go_big_quiet_step (fail))
      refine wpQuiet_nil ?_
      intro wx kx
      have HX := Lib.hid (HEND.out [] L2 wx HL.out (fun x hx => by cases hx) HL2.out (HJ.out.keep kx))
      go_wp2
      go_meet
      exact HX
     ·rw [List.concat_eq_append] at HP HL HJ
      obtain ⟨q, hq⟩ : ∃ q, a + L1'.length = q := ⟨_, rfl⟩
      have hp : p = q + 1 := by
       have h := HP.out
       rw [List.length_append] at h
       simp at h
       omega
      have hpa : (p : Int) > (a : Int) := by omega
      have hpn : (p : Int) < (n : Int) := by omega
      have hqn : (q : Int) < (n : Int) := by omega
      have hwq : IntKind.i64.wrap ((p : Int) - 1) = (q : Int) := by simp [IntKind.wrap, IntKind.bits, IntKind.signed]; omega
      have HJ2 : Hid (SrSt y G rest ((P ++ L1') ++ z :: ([] ++ yy :: (L2 ++ R))) u) := Lib.hid (by
       have h := HJ.out
       simpa using h)
      have HQX : Hid (q = (P ++ L1').length) := Lib.hid (by rw [List.length_append, ← HPL.out]; exact hq.symm)
      have HPX : Hid (p = (P ++ L1').length + 1 + ([] : List SR).length) := Lib.hid (by rw [← HQX.out]; exact hp)
      have hzL : z ∈ L := by rw [← HL.out]; simp
      obtain ⟨r, hr⟩ : ∃ r, ci yy z = r := ⟨_, rfl⟩
      have HCC : Hid (∀ W, Keeps [] u W → Calls Tryz.prog kf (#[.slice yy.A yy.n yy.c, .slice z.A z.n z.c] ++ cap) W fun e W' => e = .returned (.int .i64 r) ∧ Keeps [] W W') := Lib.hid (fun W k => by
       rw [← hr]
       exact HC.out.c yy z HYS.out (HLM.out z hzL) W (HJ2.out.k.trans k.of_nil))
      have x1 : u.cell? ⟨G, p, none⟩ = some (.slice yy.A yy.n yy.c) := (HJ2.out.b.cell p).trans (sr_snd _ _ _ _ _ _ HPX.out)
      have x2 : u.cell? ⟨G, q, none⟩ = some (.slice z.A z.n z.c) := HJ2.out.at HQX.out
      have lG : G < u.heap.size := HJ2.out.b.lt
      by_cases hr0 : r < 0
      ·have HZ : Hid (sle ci z yy = false) := Lib.hid (sle_no (by rw [hr]; exact hr0))
       have HIN : Hid (∀ wx, SrSt y G rest ((P ++ L1') ++ yy :: ([] ++ z :: (L2 ++ R))) wx → ∃ (M1 M2 : List SR) (p2 : Nat), (.int .i64 (q : Int) : Value) = .int .i64 (p2 : Int) ∧ Hid (p2 = a + M1.length) ∧ p2 ≤ i ∧ Hid (M1 ++ M2 = L) ∧ Hid (∀ x ∈ M2, sle ci x yy = false) ∧ Hid (SrSt y G rest (P ++ (M1 ++ (yy :: (M2 ++ R)))) wx)) := Lib.hid (fun wx h => by
        refine ⟨L1', z :: L2, q, rfl, Lib.hid hq.symm, by omega, Lib.hid (by have := HL.out; simpa using this), Lib.hid (fun x hx => ?_), Lib.hid (by simpa using h)⟩
        rcases List.mem_cons.1 hx with rfl | hx
        ·exact HZ.out
        ·exact HL2.out x hx)
       have hms : q < p := by omega
       have HPQ : Hid (p ≠ q) := Lib.hid (by omega)
       clear hzL hr hp hq HJ hin'
       go_upto_region 4 with (fail)
       refine wp_region_keeps (by kernel_rfl) (by kernel_rfl) ?_
       repeat (go_big_quiet_step (with_reducible exact KW.of HCC.out _))
       refine wpQuiet_nil ?_
       intro wx kx
       have HJ3 := Lib.hid (HJ2.out.keep kx)
       obtain ⟨X, hX⟩ : ∃ X, P ++ L1' = X := ⟨_, rfl⟩
       obtain ⟨Z, hZ⟩ : ∃ Z, L2 ++ R = Z := ⟨_, rfl⟩
       rw [hX, hZ] at HJ3 HIN
       rw [hX] at HQX HPX
       have HB := Lib.hid HJ3.out.b
       have HC1 : Hid ((srCells (X ++ z :: ([] ++ yy :: Z)) rest)[q]? = some (.slice z.A z.n z.c)) := Lib.hid (sr_at X _ z rest HQX.out)
       have HC2 : Hid ((srCells (X ++ z :: ([] ++ yy :: Z)) rest)[p]? = some (.slice yy.A yy.n yy.c)) := Lib.hid (sr_snd X [] Z z yy rest HPX.out)
       have HSW := Lib.hid (sr_swap' X [] Z z yy rest HQX.out HPX.out)
       clear x1 x2 lG kx hX hZ
       go_upto_block 3 with (fail)
       go_cut [] (fun wy => Hid (SrSt y G rest (X ++ yy :: ([] ++ z :: Z)) wy))
       case first =>
        rename_i J1 K1 hJ1 hK1
        go_upto_region 6 with (fail)
        refine wp_region_fit' (by kernel_rfl) (by kernel_rfl) (by kernel_rfl) (fun (_ : Unit) ix => ([.slice (some ⟨G, 0, none⟩) n c, .int .i64 (p : Int), .slice (some ⟨G, 0, none⟩) n c, .int .i64 (p : Int), .int .i64 (q : Int), .slice (some ⟨G, 0, none⟩) n c, .int .i64 (p : Int), .int .i64 (q : Int), .pointer (some ⟨G, q, none⟩), .slice z.A z.n z.c, .slice (some ⟨G, 0, none⟩) n c, .int .i64 (p : Int), .pointer (some ⟨G, p, none⟩), .slice yy.A yy.n yy.c, .pointer (some ⟨G, p, none⟩), undef, .pointer (some ⟨G, q, none⟩), undef] : List Value).getD ix undef) (fun (_ : Unit) L w' => SwW wx G 41 (srCells (X ++ z :: ([] ++ yy :: Z)) rest) p q (.slice z.A z.n z.c) (.slice yy.A yy.n yy.c) 9 13 15 17 L w') ⟨(), SwW.start HB.out⟩ ?_ ?_
        ·show AllC _ 18
         refine ⟨⟨⟨⟨⟨⟨⟨⟨⟨⟨⟨⟨⟨⟨⟨⟨⟨⟨trivial, ?_⟩, ?_⟩, ?_⟩, ?_⟩, ?_⟩, ?_⟩, ?_⟩, ?_⟩, ?_⟩, ?_⟩, ?_⟩, ?_⟩, ?_⟩, ?_⟩, ?_⟩, ?_⟩, ?_⟩, ?_⟩
         ·intro hb g L a1 w1 hL hD hF hW
          have e0 : a1.tmps.getD 0 undef = .slice (some ⟨G, 0, none⟩) n c := hF.old 0 (by kernel_rfl)
          have hN := hW.far (k := 0) (by decide) (by decide)
          refine fit_val (g := g) rfl hb rfl hF (by exact hN) ?_
          show (execOp _ _).run _ _ = Result.ok (.value (.slice (some ⟨G, 0, none⟩) n c)) _
          clear hN hF hD hb hW
          simp only [execOp, Act.eval, e0]
          go_simp
         ·intro hb g L a1 w1 hL hD hF hW
          have e9 : a1.tmps.getD 9 undef = .int .i64 (p : Int) := hF.old 9 (by kernel_rfl)
          have hN := hW.far (k := 1) (by decide) (by decide)
          refine fit_val (g := g) rfl hb rfl hF (by exact hN) ?_
          show (execOp _ _).run _ _ = Result.ok (.value (.int .i64 (p : Int))) _
          clear hN hF hD hb hW
          simp only [execOp, Act.eval, e9]
          go_simp
         ·intro hb g L a1 w1 hL hD hF hW
          have e0 : a1.tmps.getD 0 undef = .slice (some ⟨G, 0, none⟩) n c := hF.old 0 (by kernel_rfl)
          have hN := hW.far (k := 2) (by decide) (by decide)
          refine fit_val (g := g) rfl hb rfl hF (by exact hN) ?_
          show (execOp _ _).run _ _ = Result.ok (.value (.slice (some ⟨G, 0, none⟩) n c)) _
          clear hN hF hD hb hW
          simp only [execOp, Act.eval, e0]
          go_simp
         ·intro hb g L a1 w1 hL hD hF hW
          have e9 : a1.tmps.getD 9 undef = .int .i64 (p : Int) := hF.old 9 (by kernel_rfl)
          have hN := hW.far (k := 3) (by decide) (by decide)
          refine fit_val (g := g) rfl hb rfl hF (by exact hN) ?_
          show (execOp _ _).run _ _ = Result.ok (.value (.int .i64 (p : Int))) _
          clear hN hF hD hb hW
          simp only [execOp, Act.eval, e9]
          go_simp
         ·intro hb g L a1 w1 hL hD hF hW
          have e40 : a1.tmps.getD 40 undef = .int .i64 (p : Int) := hF.y 3 _ 40 rfl rfl (hD 3 (by kernel_rfl))
          have hN := hW.far (k := 4) (by decide) (by decide)
          refine fit_val (g := g) rfl hb rfl hF (by exact hN) ?_
          show (execOp _ _).run _ _ = Result.ok (.value (.int .i64 (q : Int))) _
          clear hN hF hD hb hW
          simp only [execOp, Act.eval, e40]
          go_simp
         ·intro hb g L a1 w1 hL hD hF hW
          have e0 : a1.tmps.getD 0 undef = .slice (some ⟨G, 0, none⟩) n c := hF.old 0 (by kernel_rfl)
          have hN := hW.far (k := 5) (by decide) (by decide)
          refine fit_val (g := g) rfl hb rfl hF (by exact hN) ?_
          show (execOp _ _).run _ _ = Result.ok (.value (.slice (some ⟨G, 0, none⟩) n c)) _
          clear hN hF hD hb hW
          simp only [execOp, Act.eval, e0]
          go_simp
         ·intro hb g L a1 w1 hL hD hF hW
          have e9 : a1.tmps.getD 9 undef = .int .i64 (p : Int) := hF.old 9 (by kernel_rfl)
          have hN := hW.far (k := 6) (by decide) (by decide)
          refine fit_val (g := g) rfl hb rfl hF (by exact hN) ?_
          show (execOp _ _).run _ _ = Result.ok (.value (.int .i64 (p : Int))) _
          clear hN hF hD hb hW
          simp only [execOp, Act.eval, e9]
          go_simp
         ·intro hb g L a1 w1 hL hD hF hW
          have e43 : a1.tmps.getD 43 undef = .int .i64 (p : Int) := hF.y 6 _ 43 rfl rfl (hD 6 (by kernel_rfl))
          have hN := hW.far (k := 7) (by decide) (by decide)
          refine fit_val (g := g) rfl hb rfl hF (by exact hN) ?_
          show (execOp _ _).run _ _ = Result.ok (.value (.int .i64 (q : Int))) _
          clear hN hF hD hb hW
          simp only [execOp, Act.eval, e43]
          go_simp
         ·intro hb g L a1 w1 hL hD hF hW
          have e42 : a1.tmps.getD 42 undef = .slice (some ⟨G, 0, none⟩) n c := hF.y 5 _ 42 rfl rfl (hD 5 (by kernel_rfl))
          have e44 : a1.tmps.getD 44 undef = .int .i64 (q : Int) := hF.y 7 _ 44 rfl rfl (hD 7 (by kernel_rfl))
          have hN := hW.far (k := 8) (by decide) (by decide)
          refine fit_val (g := g) rfl hb rfl hF (by exact hN) ?_
          show (execOp _ _).run _ _ = Result.ok (.value (.pointer (some ⟨G, q, none⟩))) _
          clear hN hF hD hb hW
          simp only [execOp, Act.eval, e42, e44]
          go_simp
         ·intro hb g L a1 w1 hL hD hF hW
          have e45 : a1.tmps.getD 45 undef = .pointer (some ⟨G, q, none⟩) := hF.y 8 _ 45 rfl rfl (hD 8 (by kernel_rfl))
          have hN := hW.far (k := 9) (by decide) (by decide)
          obtain ⟨kk, bb⟩ := hW.ld1 hL
          have x1 : w1.cell? ⟨G, q, none⟩ = some (.slice z.A z.n z.c) := (bb.cell _).trans HC1.out
          clear kk bb
          refine fit_val (g := g) rfl hb rfl hF (by exact hN) ?_
          show (execOp _ _).run _ _ = Result.ok (.value (.slice z.A z.n z.c)) _
          clear hN hF hD hb hW
          simp only [execOp, Act.eval, e45]
          go_simp
         ·intro hb g L a1 w1 hL hD hF hW
          have e0 : a1.tmps.getD 0 undef = .slice (some ⟨G, 0, none⟩) n c := hF.old 0 (by kernel_rfl)
          have hN := hW.far (k := 10) (by decide) (by decide)
          refine fit_val (g := g) rfl hb rfl hF (by exact hN) ?_
          show (execOp _ _).run _ _ = Result.ok (.value (.slice (some ⟨G, 0, none⟩) n c)) _
          clear hN hF hD hb hW
          simp only [execOp, Act.eval, e0]
          go_simp
         ·intro hb g L a1 w1 hL hD hF hW
          have e9 : a1.tmps.getD 9 undef = .int .i64 (p : Int) := hF.old 9 (by kernel_rfl)
          have hN := hW.far (k := 11) (by decide) (by decide)
          refine fit_val (g := g) rfl hb rfl hF (by exact hN) ?_
          show (execOp _ _).run _ _ = Result.ok (.value (.int .i64 (p : Int))) _
          clear hN hF hD hb hW
          simp only [execOp, Act.eval, e9]
          go_simp
         ·intro hb g L a1 w1 hL hD hF hW
          have e47 : a1.tmps.getD 47 undef = .slice (some ⟨G, 0, none⟩) n c := hF.y 10 _ 47 rfl rfl (hD 10 (by kernel_rfl))
          have e48 : a1.tmps.getD 48 undef = .int .i64 (p : Int) := hF.y 11 _ 48 rfl rfl (hD 11 (by kernel_rfl))
          have hN := hW.far (k := 12) (by decide) (by decide)
          refine fit_val (g := g) rfl hb rfl hF (by exact hN) ?_
          show (execOp _ _).run _ _ = Result.ok (.value (.pointer (some ⟨G, p, none⟩))) _
          clear hN hF hD hb hW
          simp only [execOp, Act.eval, e47, e48]
          go_simp
         ·intro hb g L a1 w1 hL hD hF hW
          have e49 : a1.tmps.getD 49 undef = .pointer (some ⟨G, p, none⟩) := hF.y 12 _ 49 rfl rfl (hD 12 (by kernel_rfl))
          have hN := hW.far (k := 13) (by decide) (by decide)
          obtain ⟨kk, bb⟩ := hW.ld2 hL
          have x1 : w1.cell? ⟨G, p, none⟩ = some (.slice yy.A yy.n yy.c) := (bb.cell _).trans HC2.out
          clear kk bb
          refine fit_val (g := g) rfl hb rfl hF (by exact hN) ?_
          show (execOp _ _).run _ _ = Result.ok (.value (.slice yy.A yy.n yy.c)) _
          clear hN hF hD hb hW
          simp only [execOp, Act.eval, e49]
          go_simp
         ·intro hb g L a1 w1 hL hD hF hW
          have e37 : a1.tmps.getD 37 undef = .slice (some ⟨G, 0, none⟩) n c := hF.y 0 _ 37 rfl rfl (hD 0 (by kernel_rfl))
          have e38 : a1.tmps.getD 38 undef = .int .i64 (p : Int) := hF.y 1 _ 38 rfl rfl (hD 1 (by kernel_rfl))
          have hN := hW.far (k := 14) (by decide) (by decide)
          refine fit_val (g := g) rfl hb rfl hF (by exact hN) ?_
          show (execOp _ _).run _ _ = Result.ok (.value (.pointer (some ⟨G, p, none⟩))) _
          clear hN hF hD hb hW
          simp only [execOp, Act.eval, e37, e38]
          go_simp
         ·intro hb g L a1 w1 hL hD hF hW
          have e51 : a1.tmps.getD 51 undef = .pointer (some ⟨G, p, none⟩) := hF.y 14 _ 51 rfl rfl (hD 14 (by kernel_rfl))
          have e46 : a1.tmps.getD 46 undef = .slice z.A z.n z.c := hF.y 9 _ 46 rfl rfl (hD 9 (by kernel_rfl))
          obtain ⟨kk, bb⟩ := hW.p0 hL
          have x1 : w1.cell? ⟨G, p, none⟩ = some (.slice yy.A yy.n yy.c) := (bb.cell _).trans HC2.out
          have x2 : w1.frozen? ⟨G, p, none⟩ = false := bb.frozen _
          refine wpOp_skip (w' := w1.setCell ⟨G, p, none⟩ (.slice z.A z.n z.c)) rfl rfl ?_ ⟨g, hF.put hb rfl, hW.b1 hL (hD 9 (by kernel_rfl)) (hD 13 (by kernel_rfl)) (by decide)⟩
          clear hF hD hb hW kk bb
          simp only [execOp, Act.eval, e51, e46]
          go_simp
         ·intro hb g L a1 w1 hL hD hF hW
          have e39 : a1.tmps.getD 39 undef = .slice (some ⟨G, 0, none⟩) n c := hF.y 2 _ 39 rfl rfl (hD 2 (by kernel_rfl))
          have e41 : a1.tmps.getD 41 undef = .int .i64 (q : Int) := hF.y 4 _ 41 rfl rfl (hD 4 (by kernel_rfl))
          have hN := hW.far (k := 16) (by decide) (by decide)
          refine fit_val (g := g) rfl hb rfl hF (by exact hN) ?_
          show (execOp _ _).run _ _ = Result.ok (.value (.pointer (some ⟨G, q, none⟩))) _
          clear hN hF hD hb hW
          simp only [execOp, Act.eval, e39, e41]
          go_simp
         ·intro hb g L a1 w1 hL hD hF hW
          have e52 : a1.tmps.getD 52 undef = .pointer (some ⟨G, q, none⟩) := hF.y 16 _ 52 rfl rfl (hD 16 (by kernel_rfl))
          have e50 : a1.tmps.getD 50 undef = .slice yy.A yy.n yy.c := hF.y 13 _ 50 rfl rfl (hD 13 (by kernel_rfl))
          have h1 := hD 15 (by kernel_rfl)
          obtain ⟨kk, bb⟩ := hW.p1 h1 hL
          have x1 : w1.cell? ⟨G, q, none⟩ = some (.slice z.A z.n z.c) := (bb.cell _).trans (by rw [Array.getElem?_setIfInBounds, if_neg HPQ.out]; exact HC1.out)
          have x2 : w1.frozen? ⟨G, q, none⟩ = false := bb.frozen _
          refine wpOp_skip (w' := w1.setCell ⟨G, q, none⟩ (.slice yy.A yy.n yy.c)) rfl rfl ?_ ⟨g, hF.put hb rfl, hW.b2 hL h1 (by decide)⟩
          clear hF hD hb hW kk bb
          simp only [execOp, Act.eval, e52, e50]
          go_simp
        ·intro g L w' hall hW
         (try simp only [Exit.inBlock, Exit.then])
         refine hK1 _ _ (Met.intro (hJ1 _ _ ?_))
         repeat apply Exists.intro
         exact ⟨Lib.hid ⟨HJ3.out.k.trans (hW.p2 (hall 17 (by decide))).1, (hW.p2 (hall 17 (by decide))).2.congr HSW.out⟩, rfl⟩
       case rest =>
        have HN := Lib.hid (HIN.out _ hcut.out)
        obtain ⟨y4, rfl⟩ : ∃ z : World, z = wc := ⟨_, rfl⟩
        clear hcut
        go_wp2
        go_roundw
        case rel => exact HN.out
        case measure => simp [intOf]; omega
      ·have HZ : Hid (sle ci z yy = true) := Lib.hid (sle_yes (by rw [hr]; exact hr0))
       have HALL : Hid (∀ x ∈ L1' ++ [z], sle ci x yy = true) := Lib.hid (by
        have hs : Srt (sle ci) (L1' ++ [z]) := by
         have h := HLS.out
         rw [← HL.out] at h
         exact (List.pairwise_append.1 h).1
        intro x hx
        rcases List.mem_append.1 hx with hx | hx
        ·exact HC.out.ord.trans _ _ _ ((List.pairwise_append.1 hs).2.2 x hx z (by simp)) HZ.out
        ·obtain rfl := List.mem_singleton.1 hx
         exact HZ.out)
       clear hzL hr hp hq hin'
       go_upto_region 4 with (fail)
       refine wp_region_keeps (by kernel_rfl) (by kernel_rfl) ?_
       repeat (go_big_quiet_step (with_reducible exact KW.of HCC.out _))
       refine wpQuiet_nil ?_
       intro wx kx
       have HX := Lib.hid (HEND.out (L1' ++ [z]) L2 wx HL.out HALL.out HL2.out (HJ.out.keep kx))
       go_wp2
       go_meet
       exact HX
   case rest =>
    have HN := Lib.hid (HTT.out _ hcut.out)
    obtain ⟨y4, rfl⟩ : ∃ z : World, z = wc := ⟨_, rfl⟩
    clear hcut
    go_wp2
    go_roundw
    case rel => exact HN.out
    case measure => simp [intOf]; omega
  ·have hibi : ¬ (i : Int) < (b : Int) := by omega
   have HF : Hid (SrSt y G rest (P ++ (stS (sle ci) A ++ Q)) wr) := Lib.hid (by
    have h := HI.out
    rw [List.take_of_length_le (by omega), List.drop_of_length_le (by omega)] at h
    simpa using h)
   clear hst hit
   go_wp2
   go_end0
   exact ⟨rfl, HF.out⟩
end Go.Proofs.YtpfkjejknlkkoaaGreatDoor
