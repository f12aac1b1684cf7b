/- What tables lean on, out of a row's condition; a world in which it is laid. Arguments opened: jobs, slices of texts. The package-level variables that jobs lean on, out of a row's laid list. -/
import Derived.Test.YtomgnjgaafnkiaaGreatDoorOncM22
import Derived.Test.YtomgnjgaafnkiaaGreatDoorOncM7
import Derived.Test.YtomgnjgaafnkiaaGreatDoorRows
import Derived.Lib.LaidTab
import Derived.LaidLaws
import Derived.LaidSub
import Derived.LaidMore
import Derived.Shelf.Vars
import Derived.HandedShaped
import Derived.Test.YtomgnjgaafnkiaaGreatDoorOncM6
import Derived.SliceStrings
namespace Go.Proofs.YtomgnjgaafnkiaaGreatDoor
open Go.RowKit Go.Shelf Go.ChangeShapes Go.WideShapes
/-- A row's wrap: the condition and the world's shape, both handed to the contract. -/
theorem returns_shaped {H : Type} {enc : TypeId × Value → H} {a : Assume} {C : Checked} {os : Os} {f : FuncId} {fn : Func} {s : ChangeSpec} {conds : List PathCond} {apart fresh handsOn again : Bool} {X : World → Array Value → Prop}
    (hX : ∀ (w w' : World) (args : Array Value), w.heap = w'.heap → X w args → X w' args)
    (own : ownKnob C.prog.godebug = none) (started : os.Started) (noInit : C.prog.inits.idxOf? f = none) (hfn : C.prog.funcs[f]? = some fn)
    (witness : ∃ (w : World) (tape : Tape) (i : Input), w.os = os ∧ (w.forCall tape i).Shaped C.prog ∧ i.vars = [] ∧ Input.okWide C.prog (w.forCall tape i) .any w.heap.size f i ∧
      ((s.pre enc C.prog fn conds apart (w.forCall tape i).memory i.args ∧ X (w.forCall tape i).memory i.args) ∧ sizedMet enc C.prog fn (OpenSpec.ofChange s) apart (w.forCall tape i).memory i.args) ∧ a.holds C.prog (lone (Frame.enter C.prog f i.args .normal) [] (w.forCall tape i)))
    (contract : ∀ (W : World) (base : Nat) (args : Array Value) (ds gs : List (DataW H)) (before : List MemPlace),
      (∀ (j : Nat) t v, fn.params[j]? = some t → args[j]? = some v → Value.okWide C.prog W .any base t v) →
      DataW.Whole enc C.prog fn.params.toList s.vars apart W args.toList ds gs before → X W args → W.ShapedOpen C.prog →
      Calls C.prog f args W fun e W' => ∃ v, e = .returned v ∧ s.post enc C.prog fn apart fresh handsOn again W args v W') :
    ReturnsInHanded a C os f .any (fun w args => (s.pre enc C.prog fn conds apart w args ∧ X w args) ∧ sizedMet enc C.prog fn (OpenSpec.ofChange s) apart w args) (s.post enc C.prog fn apart fresh handsOn again) := by
  refine returnsInHanded_of_calls own started noInit witness ?_
  intro w tape i _ hsh _ hok hpre _
  obtain ⟨_, _, _, fn', hfn', _, _, _, _, hval⟩ := hok
  obtain rfl : fn' = fn := Option.some.inj (hfn'.symm.trans hfn)
  obtain ⟨⟨⟨ds, gs, before, hw, _⟩, hx⟩, _⟩ := hpre
  have hw' := DataW.Whole.of_heap (w' := w.forCall tape i) (by rfl) hw
  refine (contract (w.forCall tape i) w.heap.size i.args ds gs before hval hw' (hX _ _ _ (by rfl) hx) hsh).mono fun e W' ⟨v, he, hp⟩ => ?_
  subst he
  exact ChangeSpec.post_blind hp
theorem one_of {P : Program} {W : World} {laid : List (String × DataW Unit)} (nm : String) (d : DataW Unit) (hf : laid.filter (fun x => x.1 == nm) = [(nm, d)]) (h : laidMet P laid W) : laidMet P [(nm, d)] W := hf ▸ h.filter fun x => x.1 == nm
/-- An array of strings that reads as texts holds them, cell for cell. -/
theorem cells_of_strs {H : Type} {enc : TypeId × Value → H} {P : Program} {w : World} {base : Nat} {sp : Nat → Bool} {held : Bool} {fuel : Nat} {t e : TypeId} {n : Nat} {cs : List Value} {zs : List Bs} {p : List MemPlace}
    (ht : P.underlying t = some (.array n e)) (he : P.underlying e = some .string) (hce : P.cellsOf e = 1) (hct : P.cellsOf t = n)
    (h : DataW.trod enc P w base sp held fuel t cs = some (.agg (zs.map fun z => .lit (.string z)), p)) : cs = zs.map fun z => Value.string (bs z) := by
  cases fuel with
  | zero => simp [DataW.trod] at h
  | succ fuel =>
    simp only [DataW.trod, ht, hce, hct, Nat.mul_one] at h
    split at h
    · rename_i hl
      obtain ⟨xs, hm, hx⟩ := Option.map_eq_some_iff.1 h
      have hxs : xs.map (·.1) = zs.map fun z => (DataW.lit (.string z) : DataW H) := by
        have := congrArg Prod.fst hx
        simpa using this
      have hxl : xs.length = n := by simpa using Lib.mapM_length hm
      have hzl : zs.length = n := by
        have := congrArg List.length hxs
        simp at this
        omega
      apply List.ext_getElem?
      intro i
      by_cases hi : i < n
      · obtain ⟨b, hb, hf⟩ := Lib.mapM_at hm i i (by simp [hi])
        obtain ⟨s, hc, rfl, _⟩ := DataW.trod_string he hf
        have h1 : cs[i]? = some (.string s) := by
          have := congrArg (·[0]?) hc
          simpa [List.getElem?_take, List.getElem?_drop] using this
        have h2 : (xs.map (·.1))[i]? = some (DataW.lit (.string s.data.toList) : DataW H) := by simp [hb]
        rw [hxs] at h2
        simp only [List.getElem?_map, Option.map_eq_some_iff, DataW.lit.injEq, Lit.string.injEq] at h2
        obtain ⟨z', hz', rfl⟩ := h2
        simp [h1, hz', bs_data]
      · rw [List.getElem?_eq_none (by omega), List.getElem?_eq_none (by simp; omega)]
    · cases h
/-- A variable that holds an error. -/
theorem iface_at {P : Program} {W : World} {nm : String} {g : Nat} {t : TypeId} {ms : Array (String × TypeId)} {name : String} {d : DataW Unit} (hg : P.globalNamed nm = some g) (hty : (P.globals[g]?).map (·.type) = some t) (ht : P.underlying t = some (.interface ms))
    (h : laidMet P [(nm, .iface name d)] W) : ∃ u v, W.cell? ⟨g, 0, none⟩ = some (.iface u v) := by
  obtain ⟨ps, ⟨g', t', cs, fuel, p, q, hg', ht', hvar, hd, _, _⟩, _⟩ := h
  obtain rfl := Option.some.inj (hg.symm.trans hg')
  obtain rfl := Option.some.inj (hty.symm.trans ht')
  obtain ⟨_, u, v, hc, _, _⟩ := iface_of_trod ht hd
  refine ⟨u, v, ?_⟩
  rw [World.var?_cell hg hvar 0]
  have : cs = #[.iface u v] := by rw [← hc]
  rw [this]
  rfl
/-- A flat datum's cells. -/
def litCells : DataW Unit → Array Value
  | .agg l => (l.map fun
    | .lit (.int k z) => Value.int k z
    | .lit (.string s) => Value.string (bs s)
    | _ => undef).toArray
  | _ => #[]
/-- The table of first bytes, laid in a world. -/
def withFirst (w0 : World) : World :=
  { w0 with heap := w0.heap.modify 5 fun
      | .cells _ t fz => .cells (litCells Go.Pinned.utf8First) t fz
      | o => o }
noncomputable def doorWorld (os : Os) : World := withFirst (World.doorLaid Tryz.prog 400 os)
theorem En.p10g : Tryz.prog.globalNamed "internal/strconv.uint64pow10" = some 7 := by kernel_rfl
theorem En.p10t : (Tryz.prog.globals[7]?).map (·.type) = some 201 := by kernel_rfl
theorem En.kg : Tryz.prog.globalNamed "foreman/table.kinds" = some 0 := by kernel_rfl
theorem En.kt : (Tryz.prog.globals[0]?).map (·.type) = some 95 := by kernel_rfl
theorem En.sg : Tryz.prog.globalNamed "strconv.ErrSyntax" = some 3 := by kernel_rfl
theorem En.st : (Tryz.prog.globals[3]?).map (·.type) = some 47 := by kernel_rfl
theorem En.rg : Tryz.prog.globalNamed "strconv.ErrRange" = some 4 := by kernel_rfl
theorem En.rt : (Tryz.prog.globals[4]?).map (·.type) = some 47 := by kernel_rfl
theorem tenv_of {laid : List (String × DataW Unit)} {W : World}
    (h1 : laid.filter (fun x => x.1 == "internal/strconv.uint64pow10") = [("internal/strconv.uint64pow10", Rows.laid_internal_strconv_uint64pow10)])
    (h2 : laid.filter (fun x => x.1 == "foreman/table.kinds") = [("foreman/table.kinds", Rows.laid_foreman_table_kinds)])
    (h3 : laid.filter (fun x => x.1 == "strconv.ErrSyntax") = [("strconv.ErrSyntax", Rows.laid_strconv_ErrSyntax)])
    (h4 : laid.filter (fun x => x.1 == "strconv.ErrRange") = [("strconv.ErrRange", Rows.laid_strconv_ErrRange)])
    (h : laidMet Tryz.prog laid W) (hs : W.ShapedOpen Tryz.prog) : TEnv W := by
  refine ⟨?_, ?_, ?_, iface_at En.sg En.st Tryz.underlying47 (one_of _ _ h3 h), iface_at En.rg En.rt Tryz.underlying47 (one_of _ _ h4 h)⟩
  · have e : (Rows.laid_internal_strconv_uint64pow10 : DataW Unit) = Lib.tabData .u64 Lib.pow10Tab := by kernel_rfl
    have h' := one_of _ _ h1 h
    rw [e] at h'
    exact Lib.tabIs_of_head En.p10g En.p10t Tryz.underlying201 Tryz.underlying171 (by kernel_rfl) (by kernel_rfl) h'
  · have e : (Rows.laid_foreman_table_kinds : DataW Unit) = .agg ([[], [105, 110, 116], [116, 101, 120, 116]].map fun z => .lit (.string z)) := by kernel_rfl
    have h' := one_of _ _ h2 h
    rw [e] at h'
    obtain ⟨ps, ⟨g', t', cs, fuel, p, q, hg', ht', hvar, hd, _, _⟩, _⟩ := h'
    obtain rfl := Option.some.inj (En.kg.symm.trans hg')
    obtain rfl := Option.some.inj (En.kt.symm.trans ht')
    have hc := cells_of_strs Tryz.underlying95 Tryz.underlying9 (by kernel_rfl) (by kernel_rfl) hd
    intro j hj
    rw [World.var?_cell En.kg hvar j, ← Array.getElem?_toList, hc]
    rcases j with _ | _ | _ | j
    · rfl
    · rfl
    · rfl
    · omega
  · exact Go.Proofs.cell_of_shapedOpen_int (t := 3) (zero := #[.int .i64 0]) hs (of_decide_eq_true (by kernel_rfl)) (by kernel_rfl) rfl (by kernel_rfl) (by kernel_rfl) Tryz.underlying3
end Go.Proofs.YtomgnjgaafnkiaaGreatDoor
namespace Go.Proofs.YtomgnjgaafnkiaaGreatDoor
open Go.RowKit Go.ChangeShapes Go.WideShapes Go.Joins
section
variable {H : Type} {enc : TypeId × Value → H} {w : World} {base b0 : Nat} {spare : Nat → Bool} {held : Bool} {fuel : Nat} {cs : List Value} {x : DataW H × List MemPlace}
theorem open_texts (h : DataW.trod enc Tryz.prog w base spare held fuel 30 cs = some x) :
    ∃ (A : Option Addr) (c : Nat) (l : List Bs), cs = [.slice A l.length c] ∧ l.length ≤ c ∧ c ≤ maxLen ∧ Rd w [] 1 A l.length (strs l) ∧ ∀ s ∈ l, s.length ≤ maxLen := by
  rcases open_strings Tryz.underlying30 Tryz.underlying9 (by kernel_rfl) h with ⟨hcs, _⟩ | ⟨a, len, cap, ss, hcs, _, hl, hcap, hlen, _, hcell, hw⟩
  · exact ⟨none, 0, [], hcs, Nat.le_refl _, Nat.zero_le _, Rd.nil, by simp⟩
  · have hsl : len ≤ ss.length := by rw [hlen]; split <;> omega
    have hml : ((ss.take len).map (·.data.toList)).length = len := by simp; omega
    refine ⟨some a, cap, (ss.take len).map (·.data.toList), by rw [hml]; exact hcs, by rw [hml]; exact hl, hcap, ⟨by rw [strs_length, Nat.mul_one], fun h0 => ⟨a, rfl, by simp, ?_, fun j u hu => ?_⟩⟩, fun s hs => ?_⟩
    · have := World.block_lt_of_cell? _ _ (hcell 0 (by rw [hml] at h0; omega))
      rwa [block_add] at this
    · unfold strs at hu
      rw [List.map_map, List.getElem?_map, Option.map_eq_some_iff] at hu
      obtain ⟨y, hy, rfl⟩ := hu
      rw [List.getElem?_take] at hy
      split at hy
      · rename_i hj
        rw [hcell j (by omega), List.getD_eq_getElem?_getD, hy]
        rfl
      · cases hy
    · obtain ⟨y, hy, rfl⟩ := List.mem_map.1 hs
      have := hw y (List.mem_of_mem_take hy)
      exact this
end
/-- Whatever job is handed in. -/
structure JobAny (w : World) (j : Jb) (Ao : Option Addr) (co : Nat) (Ac : Option Addr) (cc : Nat) : Prop where
  outs : Rd w [] 1 Ao j.outs.length (strs j.outs)
  oc : j.outs.length ≤ co
  cols : Rd w [] 1 Ac j.cols.length (strs j.cols)
  cq : j.cols.length ≤ cc
  lo : co ≤ maxLen
  lc : cc ≤ maxLen
  names : ∀ s ∈ j.cols, s.length ≤ maxLen
  lop : j.op.length ≤ maxLen
  ll : j.left.col.length ≤ maxLen ∧ j.left.val.word.length ≤ maxLen ∧ numOk j.left.val.num
  lr : j.right.col.length ≤ maxLen ∧ j.right.val.word.length ≤ maxLen ∧ numOk j.right.val.num
section
variable {H : Type} {enc : TypeId × Value → H} {w : World} {base b0 : Nat} {spare : Nat → Bool} {held : Bool} {fuel : Nat} {v : Value} {d : DataW H} {p : List MemPlace} {r : Reach}
set_option maxRecDepth 100000 in
theorem open_arg {c0 c1 c2 c3 : Value} {y : DataW H × List MemPlace} (h : DataW.trod enc Tryz.prog w base spare held fuel 34 [c0, c1, c2, c3] = some y) : ∃ a : Ar, [c0, c1, c2, c3] = aCells a ∧ a.col.length ≤ maxLen ∧ a.val.word.length ≤ maxLen ∧ numOk a.val.num := by
  obtain ⟨xs, n, _, _, _, hxl, hg⟩ := DataW.trod_struct Tryz.underlying34 h
  match xs, hxl with
  | [y0, y1], _ =>
    have h0 : DataW.trod enc Tryz.prog w base spare held n 9 [c0] = some y0 := hg 0 _ rfl
    have h1 : DataW.trod enc Tryz.prog w base spare held n 32 [c1, c2, c3] = some y1 := hg 1 _ rfl
    obtain ⟨xs2, n2, _, _, _, hxl2, hg2⟩ := DataW.trod_struct Tryz.underlying32 h1
    match xs2, hxl2 with
    | [z0, z1, z2], _ =>
      have g0 : DataW.trod enc Tryz.prog w base spare held n2 3 [c1] = some z0 := hg2 0 _ rfl
      have g1 : DataW.trod enc Tryz.prog w base spare held n2 3 [c2] = some z1 := hg2 1 _ rfl
      have g2 : DataW.trod enc Tryz.prog w base spare held n2 9 [c3] = some z2 := hg2 2 _ rfl
      obtain ⟨s, e0, _, hs⟩ := DataW.trod_string Tryz.underlying9 h0
      obtain ⟨k, e1, _, _⟩ := DataW.trod_int Tryz.underlying3 g0
      obtain ⟨m, e2, _, hm⟩ := DataW.trod_int Tryz.underlying3 g1
      obtain ⟨u, e3, _, hu⟩ := DataW.trod_string Tryz.underlying9 g2
      injection e0 with e0
      injection e1 with e1
      injection e2 with e2
      injection e3 with e3
      subst e0 e1 e2 e3
      exact ⟨⟨s.data.toList, ⟨k, m, u.data.toList⟩⟩, rfl, hs, hu, num_of_wf hm⟩
set_option maxRecDepth 100000 in
theorem open_job (hv : Value.okWide Tryz.prog w r b0 36 v) (h : DataW.Trod enc Tryz.prog w base spare held 36 v d p) : ∃ (j : Jb) (Ao : Option Addr) (co : Nat) (Ai : Option Addr) (ni ci : Nat) (Ac : Option Addr) (cc : Nat), v = jAgg j Ao co Ai ni ci Ac cc ∧ JobAny w j Ao co Ac cc := by
  obtain ⟨cs, rfl, hsz⟩ := okWide_struct Tryz.underlying36 hv
  obtain ⟨l⟩ := cs
  have hsz' : l.length = 15 := hsz.trans (by kernel_rfl)
  match l, hsz' with
  | [c0, c1, c2, c3, c4, c5, c6, c7, c8, c9, c10, c11, c12, c13, c14], _ =>
    obtain ⟨fuel, hf⟩ := h
    obtain ⟨xs, n, _, _, _, hxl, hg⟩ := DataW.trod_struct Tryz.underlying36 hf
    match xs, hxl with
    | [y0, y1, y2, y3, y4, y5, y6, y7, y8], _ =>
      have h0 : DataW.trod enc Tryz.prog w base spare held n 3 [c0] = some y0 := hg 0 _ rfl
      have h1 : DataW.trod enc Tryz.prog w base spare held n 3 [c1] = some y1 := hg 1 _ rfl
      have h2 : DataW.trod enc Tryz.prog w base spare held n 30 [c2] = some y2 := hg 2 _ rfl
      have h3 : DataW.trod enc Tryz.prog w base spare held n 30 [c3] = some y3 := hg 3 _ rfl
      have h4 : DataW.trod enc Tryz.prog w base spare held n 30 [c4] = some y4 := hg 4 _ rfl
      have h5 : DataW.trod enc Tryz.prog w base spare held n 9 [c5] = some y5 := hg 5 _ rfl
      have h6 : DataW.trod enc Tryz.prog w base spare held n 34 [c6, c7, c8, c9] = some y6 := hg 6 _ rfl
      have h7 : DataW.trod enc Tryz.prog w base spare held n 34 [c10, c11, c12, c13] = some y7 := hg 7 _ rfl
      have h8 : DataW.trod enc Tryz.prog w base spare held n 3 [c14] = some y8 := hg 8 _ rfl
      obtain ⟨k0, e0, _, _⟩ := DataW.trod_int Tryz.underlying3 h0
      obtain ⟨k1, e1, _, _⟩ := DataW.trod_int Tryz.underlying3 h1
      obtain ⟨Ao, co, lo, e2, ho1, ho2, ho3, _⟩ := open_texts h2
      obtain ⟨Ai, ci, li, e3, _, _, _, _⟩ := open_texts h3
      obtain ⟨Ac, cc, lc, e4, hc1, hc2, hc3, hc4⟩ := open_texts h4
      obtain ⟨s5, e5, _, hs5⟩ := DataW.trod_string Tryz.underlying9 h5
      obtain ⟨a6, e6, h61, h62, h63⟩ := open_arg h6
      obtain ⟨a7, e7, h71, h72, h73⟩ := open_arg h7
      obtain ⟨k8, e8, _, _⟩ := DataW.trod_int Tryz.underlying3 h8
      injection e0 with e0
      injection e1 with e1
      injection e2 with e2
      injection e3 with e3
      injection e4 with e4
      injection e5 with e5
      injection e8 with e8
      simp only [aCells, List.cons.injEq, and_true] at e6 e7
      obtain ⟨e60, e61, e62, e63⟩ := e6
      obtain ⟨e70, e71, e72, e73⟩ := e7
      subst e0 e1 e2 e3 e4 e5 e8 e60 e61 e62 e63 e70 e71 e72 e73
      exact ⟨⟨k0, k1, lo, li, lc, s5.data.toList, a6, a7, k8⟩, Ao, co, Ai, li.length, ci, Ac, cc, rfl, ⟨ho3, ho1, hc3, hc1, ho2, hc2, hc4, hs5, ⟨h61, h62, h63⟩, ⟨h71, h72, h73⟩⟩⟩
end
end Go.Proofs.YtomgnjgaafnkiaaGreatDoor
namespace Go.Proofs.YtomgnjgaafnkiaaGreatDoor
open Go.RowKit Go.ChangeShapes Go.WideShapes
def litText : DataW Unit → Bs
  | .lit (.string s) => s
  | _ => []
theorem En.cg : Tryz.prog.globalNamed "foreman/ops.compares" = some 1 := by kernel_rfl
theorem En.ct : (Tryz.prog.globals[1]?).map (·.type) = some 30 := by kernel_rfl
theorem compares_at {W : World} (h : laidMet Tryz.prog [("foreman/ops.compares", Rows.laid_foreman_ops_compares)] W) : ∃ A c, W.cell? ⟨1, 0, none⟩ = some (.slice A 6 c) ∧ Rd W [] 1 A 6 (strs compares) := by
  obtain ⟨ps, ⟨g', t', cs, fuel, p, q, hg', ht', hvar, hd, _, _⟩, _⟩ := h
  obtain rfl := Option.some.inj (En.cg.symm.trans hg')
  obtain rfl := Option.some.inj (En.ct.symm.trans ht')
  rcases open_strings Tryz.underlying30 Tryz.underlying9 (by kernel_rfl) hd with ⟨_, h0⟩ | ⟨a, len, cap, ss, hcs, _, hl, hcap, hlen, hx, hcell, hw⟩
  · have := congrArg Prod.fst h0
    cases this
  · have h1 := congrArg Prod.fst hx
    injection h1 with e1 e2
    have e3 : compares = (ss.take len).map (·.data.toList) := by
      have := congrArg (List.map litText) e1
      refine (Eq.trans (by rfl) this).trans ?_
      unfold Go.ChangeShapes.strs
      rw [List.map_map]
      rfl
    have hle : len ≤ ss.length := by rw [hlen]; split <;> omega
    have hl6 : len = 6 := by
      have := congrArg List.length e3
      simp [compares] at this
      omega
    subst hl6
    have hc0 : W.cell? ⟨1, 0, none⟩ = some (.slice (some a) 6 cap) := by
      rw [World.var?_cell En.cg hvar 0, ← Array.getElem?_toList, hcs]
      rfl
    refine ⟨some a, cap, hc0, rfl, fun _ => ⟨a, rfl, by simp, ?_, fun j u hu => ?_⟩⟩
    · have := World.block_lt_of_cell? _ _ (hcell 0 (by omega))
      rwa [block_add] at this
    · rw [e3] at hu
      unfold strs at hu
      rw [List.map_map, List.getElem?_map, Option.map_eq_some_iff] at hu
      obtain ⟨y, hy, rfl⟩ := hu
      rw [List.getElem?_take] at hy
      split at hy
      · rename_i hj
        rw [hcell j (by omega), List.getD_eq_getElem?_getD, hy]
        rfl
      · cases hy
theorem oenv_of {laid : List (String × DataW Unit)} {W : World}
    (h1 : laid.filter (fun x => x.1 == "internal/strconv.uint64pow10") = [("internal/strconv.uint64pow10", Rows.laid_internal_strconv_uint64pow10)])
    (h2 : laid.filter (fun x => x.1 == "foreman/table.kinds") = [("foreman/table.kinds", Rows.laid_foreman_table_kinds)])
    (h3 : laid.filter (fun x => x.1 == "strconv.ErrSyntax") = [("strconv.ErrSyntax", Rows.laid_strconv_ErrSyntax)])
    (h4 : laid.filter (fun x => x.1 == "strconv.ErrRange") = [("strconv.ErrRange", Rows.laid_strconv_ErrRange)])
    (h5 : laid.filter (fun x => x.1 == "foreman/ops.compares") = [("foreman/ops.compares", Rows.laid_foreman_ops_compares)])
    (h : laidMet Tryz.prog laid W) (hs : W.ShapedOpen Tryz.prog) : OEnv W := ⟨tenv_of h1 h2 h3 h4 h hs, compares_at (one_of _ _ h5 h)⟩
end Go.Proofs.YtomgnjgaafnkiaaGreatDoor
