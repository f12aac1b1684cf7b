/- FlowBack: the walk, and the plain law. Other blanks between: plain. pick. -/
import Derived.Test.YtdmboaoeholkpaaDoorFlwM18
import Derived.Test.YtdmboaoeholkpaaDoorFlwM19
import Derived.Test.YtdmboaoeholkpaaDoorProg
import Derived.Test.YtdmboaoeholkpaaDoorFlwM1
namespace Go.Proofs.YtdmboaoeholkpaaDoor
open Go.RowKit
theorem readW : ReadW := fun _ _ hs h => (parseF_o hs h).1
theorem backW : BackW := fun s f hs h => by
  obtain ⟨hf, hn⟩ := parseF_o (s := s) (by omega) h
  have hb := pieces_back hf hn (P := flPc f) rfl (fl_good hf)
  rw [fl_txt hf] at hb
  exact hb
theorem flowBack_all (s : Bs) (w : World) (hE : FEnv w) :
    Calls Tryd.prog 3 #[.string (bs s)] w fun e w' => e = .returned (.bool true) ∧ Keeps [] w w' := back_any readW backW s w hE
end Go.Proofs.YtdmboaoeholkpaaDoor
namespace Go.Proofs.YtdmboaoeholkpaaDoor
/-- One byte: what is written so far, how many blanks were, whether within '. -/
def bstep (g : Nat → Bs) (st : Bs × Nat × Bool) (c : UInt8) : Bs × Nat × Bool :=
  if !(st.2.2 != (c == 39)) && (c == 32 || c == 10) then (st.1 ++ g st.2.1, st.2.1 + 1, st.2.2 != (c == 39)) else (st.1 ++ [c], st.2.1, st.2.2 != (c == 39))
def sepsG (g : Nat → Bs) : Nat → Nat → Bs
  | _, 0 => []
  | m, k + 1 => g m ++ sepsG g (m + 1) k
/-- The pieces with other blanks. -/
def reP (g : Nat → Bs) : Nat → List Pc → List Pc
  | _, [] => []
  | m, p :: l => (p.1, sepsG g m p.2.length) :: reP g (m + p.2.length) l
theorem fold_plain (g : Nat → Bs) : ∀ (s : Bs) (o : Bs) (m : Nat), (∀ c ∈ s, c ≠ 39 ∧ c ≠ 32 ∧ c ≠ 10) → s.foldl (bstep g) (o, m, false) = (o ++ s, m, false)
  | [], o, m, _ => by simp
  | c :: s, o, m, h => by
    obtain ⟨h1, h2, h3⟩ := h c (by simp)
    have e : bstep g (o, m, false) c = (o ++ [c], m, false) := by
      have e1 : (c == 39) = false := by rw [beq_eq_false_iff_ne]; exact h1
      have e2 : (c == 32) = false := by rw [beq_eq_false_iff_ne]; exact h2
      have e3 : (c == 10) = false := by rw [beq_eq_false_iff_ne]; exact h3
      unfold bstep
      rw [e1, e2, e3]
      rfl
    rw [List.foldl_cons, e, fold_plain g s _ m (fun d hd => h d (List.mem_cons_of_mem _ hd))]
    simp
theorem fold_in (g : Nat → Bs) : ∀ (s : Bs) (o : Bs) (m : Nat), (39 : UInt8) ∉ s → s.foldl (bstep g) (o, m, true) = (o ++ s, m, true)
  | [], o, m, _ => by simp
  | c :: s, o, m, h => by
    have e : bstep g (o, m, true) c = (o ++ [c], m, true) := by
      have e1 : (c == 39) = false := by rw [beq_eq_false_iff_ne]; intro e; exact h (by simp [e])
      unfold bstep
      rw [e1]
      rfl
    rw [List.foldl_cons, e, fold_in g s _ m (fun hm => h (List.mem_cons_of_mem _ hm))]
    simp
theorem fold_seps (g : Nat → Bs) : ∀ (s : Bs) (o : Bs) (m : Nat), (∀ c ∈ s, blankC c = true) → s.foldl (bstep g) (o, m, false) = (o ++ sepsG g m s.length, m + s.length, false)
  | [], o, m, _ => by simp [sepsG]
  | c :: s, o, m, h => by
    have hc := h c (by simp)
    have e : bstep g (o, m, false) c = (o ++ g m, m + 1, false) := by
      have h' : c = 32 ∨ c = 10 := by unfold blankC at hc; simpa using hc
      rcases h' with rfl | rfl <;> rfl
    rw [List.foldl_cons, e, fold_seps g s _ (m + 1) (fun d hd => h d (List.mem_cons_of_mem _ hd))]
    simp only [sepsG, List.length_cons, List.append_assoc]
    rw [show m + 1 + s.length = m + (s.length + 1) by omega]
theorem tok_chars {t : Kt} (h : TokOk t) : (∀ c ∈ t.2, c ≠ 39 ∧ c ≠ 32 ∧ c ≠ 10) ∨ ∃ w : Bs, t.2 = 39 :: (w ++ [39]) ∧ (39 : UInt8) ∉ w := by
  obtain ⟨k, s⟩ := t
  rcases h with ⟨e, hne, hh, hall⟩ | ⟨e, hne, hall⟩ | ⟨e, w, hw, hn⟩ | ⟨e, hm⟩
  · left
    intro c hc
    have := hall c hc
    refine ⟨?_, ?_, ?_⟩ <;> (intro e; subst e; exact absurd this (by decide))
  · left
    intro c hc
    have := hall c hc
    refine ⟨?_, ?_, ?_⟩ <;> (intro e; subst e; exact absurd this (by decide))
  · exact .inr ⟨w, hw, hn⟩
  · left
    have key : ∀ m ∈ marksL, ∀ c ∈ m, c ≠ 39 ∧ c ≠ 32 ∧ c ≠ 10 := by decide
    exact key s hm
theorem fold_tok (g : Nat → Bs) {t : Kt} (h : TokOk t) (o : Bs) (m : Nat) : t.2.foldl (bstep g) (o, m, false) = (o ++ t.2, m, false) := by
  rcases tok_chars h with h | ⟨w, hw, hn⟩
  · exact fold_plain g _ o m h
  · rw [hw, List.foldl_cons, List.foldl_append]
    have e : bstep g (o, m, false) 39 = (o ++ [39], m, true) := rfl
    rw [e, fold_in g w _ m hn]
    have e2 : ∀ o, bstep g (o, m, true) 39 = (o ++ [39], m, false) := fun _ => rfl
    rw [List.foldl_cons, List.foldl_nil, e2]
    simp
theorem fold_pieces (g : Nat → Bs) : ∀ (l : List Pc) (o : Bs) (m : Nat), GoodP l → ∃ k, (txtP l).foldl (bstep g) (o, m, false) = (o ++ txtP (reP g m l), k, false)
  | [], o, m, _ => ⟨m, by simp [txtP, reP]⟩
  | p :: l, o, m, ⟨h1, h2, h3, h4⟩ => by
    obtain ⟨k, hk⟩ := fold_pieces g l (o ++ p.1.2 ++ sepsG g m p.2.length) (m + p.2.length) h4
    refine ⟨k, ?_⟩
    rw [txtP_cons, List.foldl_append, List.foldl_append, fold_tok g h1, fold_seps g _ _ _ h2, hk]
    show _ = (o ++ txtP ((p.1, sepsG g m p.2.length) :: reP g (m + p.2.length) l), k, false)
    rw [txtP_cons]
    simp
/-- Blanks that are told. -/
def GapG (g : Nat → Bs) : Prop := ∀ n, g n ≠ [] ∧ (g n).length ≤ 3 ∧ ∀ c ∈ g n, blankC c = true
theorem seps_blank {g : Nat → Bs} (hg : GapG g) : ∀ (k m : Nat), ∀ c ∈ sepsG g m k, blankC c = true
  | 0, _, c, h => by cases h
  | k + 1, m, c, h => by
    rcases List.mem_append.1 h with h | h
    · exact (hg m).2.2 c h
    · exact seps_blank hg k (m + 1) c h
theorem seps_len {g : Nat → Bs} (hg : GapG g) : ∀ (k m : Nat), (sepsG g m k).length ≤ 3 * k
  | 0, _ => Nat.le_refl _
  | k + 1, m => by
    have := (hg m).2.1
    have := seps_len hg k (m + 1)
    show (g m ++ sepsG g (m + 1) k).length ≤ _
    rw [List.length_append]
    omega
theorem seps_head {g : Nat → Bs} (hg : GapG g) {k m : Nat} (hk : 0 < k) (r : Bs) : blankC ((sepsG g m k ++ r).headD 0) = true := by
  obtain ⟨k, rfl⟩ : ∃ j, k = j + 1 := ⟨k - 1, by omega⟩
  show blankC (((g m ++ sepsG g (m + 1) k) ++ r).headD 0) = true
  obtain ⟨h1, _, h3⟩ := hg m
  cases hgm : g m with
  | nil => exact absurd hgm h1
  | cons c s =>
    rw [hgm] at h3
    exact h3 c (by simp)
theorem re_fst (g : Nat → Bs) : ∀ (l : List Pc) (m : Nat), (reP g m l).map Prod.fst = l.map Prod.fst
  | [], _ => rfl
  | p :: l, m => by
    show p.1 :: (reP g _ l).map Prod.fst = _
    rw [re_fst g l]
    rfl
theorem re_head (g : Nat → Bs) (l : List Pc) (m : Nat) (h : GoodP l) : (txtP (reP g m l)).headD 0 = (txtP l).headD 0 := by
  cases l with
  | nil => rfl
  | cons p l =>
    obtain ⟨c, s, hs, _⟩ := tok_ne h.1
    show (txtP ((p.1, sepsG g m p.2.length) :: reP g (m + p.2.length) l)).headD 0 = _
    rw [txtP_cons, txtP_cons, hs]
    rfl
theorem re_good {g : Nat → Bs} (hg : GapG g) : ∀ (l : List Pc) (m : Nat), GoodP l → GoodP (reP g m l)
  | [], _, _ => trivial
  | p :: l, m, ⟨h1, h2, h3, h4⟩ => by
    refine ⟨h1, seps_blank hg _ _, ?_, re_good hg l _ h4⟩
    show Adj p.1 ((sepsG g m p.2.length ++ txtP (reP g (m + p.2.length) l)).headD 0)
    by_cases hp : p.2 = []
    · rw [hp]
      show Adj p.1 ((txtP (reP g m l)).headD 0)
      rw [re_head g l m h4]
      rw [hp] at h3
      exact h3
    · exact adj_blank _ (seps_head hg (List.length_pos_iff.2 hp) _)
/-- One blank at most, behind each. -/
def Sep1 (l : List Pc) : Prop := ∀ p ∈ l, p.2.length ≤ 1
theorem Sep1.app {a b : List Pc} (h : Sep1 a) (k : Sep1 b) : Sep1 (a ++ b) := fun p hp => by
  rcases List.mem_append.1 hp with hp | hp
  · exact h p hp
  · exact k p hp
theorem Sep1.cons {p : Pc} {l : List Pc} (h : p.2.length ≤ 1) (k : Sep1 l) : Sep1 (p :: l) := fun q hq => by
  rcases List.mem_cons.1 hq with rfl | hq
  · exact h
  · exact k q hq
theorem Sep1.nil : Sep1 [] := fun _ h => by cases h
theorem val_sep (v : Vl) {e : Bs} (he : e.length ≤ 1) : Sep1 (valPc v e) := by
  unfold valPc
  split
  · split
    · exact .cons (by decide) (.cons he .nil)
    · exact .cons he .nil
  · exact .cons he .nil
theorem arg_sep (a : Ar) {e : Bs} (he : e.length ≤ 1) : Sep1 (argPc a e) := by
  unfold argPc
  split
  · exact val_sep _ he
  · exact .cons he .nil
theorem names_sep {e : Bs} (he : e.length ≤ 1) : ∀ l : List Bs, Sep1 (namesPc l e)
  | [] => .nil
  | [a] => .cons he .nil
  | a :: b :: l => .cons (Nat.zero_le _) (.cons (Nat.le_refl 1) (names_sep he (b :: l)))
theorem cols_sep : ∀ l : List Cl, Sep1 (colsPc l)
  | [] => .nil
  | [c] => .cons (Nat.le_refl 1) (.cons (Nat.zero_le _) .nil)
  | c :: d :: l => .cons (Nat.le_refl 1) (.cons (Nat.zero_le _) (.cons (Nat.le_refl 1) (cols_sep (d :: l))))
theorem in_sep (x : In) : Sep1 (inPc x) := .cons (Nat.le_refl 1) (.cons (Nat.zero_le _) (.cons (Nat.le_refl 1) (.app (cols_sep _) (.cons (Nat.le_refl 1) .nil))))
theorem out_sep (x : Pb) : Sep1 (outPc x) := .cons (Nat.le_refl 1) (.cons (Nat.le_refl 1) (.cons (Nat.le_refl 1) (.cons (Nat.zero_le _) (.cons (Nat.le_refl 1) .nil))))
theorem body_sep (j : Jb) : Sep1 (bodyPc j) := by
  have l1 : ([32] : Bs).length ≤ 1 := Nat.le_refl 1
  have l0 : ([] : Bs).length ≤ 1 := Nat.zero_le 1
  unfold bodyPc
  split
  · exact .cons l1 (.cons l0 (.cons l0 (.cons l0 (.cons l1 (.cons l0 (.cons l0 (.cons l0 .nil)))))))
  split
  · exact .cons l1 (.cons l0 (.cons l1 (.cons l0 .nil)))
  split
  · exact .cons l1 (.cons l0 .nil)
  split
  · exact .cons l1 (.cons l0 (.cons l1 (.cons l1 (.cons l1 (.app (arg_sep _ l1) (.cons l1 (arg_sep _ l0)))))))
  refine .cons l1 (.cons l1 ?_)
  split
  · exact .cons l1 (.cons l1 (.cons l1 (arg_sep _ l0)))
  split
  · exact .cons l1 (.cons l1 (.cons l1 (.cons l0 .nil)))
  · exact .cons l1 (names_sep l0 _)
theorem job_sep (j : Jb) : Sep1 (jobPc j) := by
  have l1 : ([32] : Bs).length ≤ 1 := Nat.le_refl 1
  refine .cons l1 (.app (names_sep l1 _) (.app ?_ (.cons l1 (.app (body_sep j) (.cons l1 .nil)))))
  unfold retryPc
  split
  · exact .cons l1 (.cons l1 .nil)
  · exact .nil
theorem flat_sep {α : Type} {pc : α → List Pc} (h : ∀ x, Sep1 (pc x)) : ∀ l : List α, Sep1 (l.flatMap pc)
  | [] => .nil
  | x :: l => by
    rw [List.flatMap_cons]
    exact .app (h x) (flat_sep h l)
theorem fl_sep (f : Fl) : Sep1 (flPc f) := .app (.app (flat_sep in_sep _) (flat_sep job_sep _)) (flat_sep out_sep _)
theorem re_len {g : Nat → Bs} (hg : GapG g) : ∀ (l : List Pc) (m : Nat), Sep1 l → (txtP (reP g m l)).length ≤ (txtP l).length + 3 * l.length
  | [], _, _ => Nat.zero_le _
  | p :: l, m, h => by
    have h1 := h p (by simp)
    have ih := re_len hg l (m + p.2.length) (fun q hq => h q (List.mem_cons_of_mem _ hq))
    have h2 := seps_len hg p.2.length m
    show (txtP ((p.1, sepsG g m p.2.length) :: reP g (m + p.2.length) l)).length ≤ _
    rw [txtP_cons, txtP_cons]
    simp only [List.length_append, List.length_cons] at *
    omega
/-- How a flow's text is written with other blanks. -/
def blanked (g : Nat → Bs) (t : Bs) : Bs := (t.foldl (bstep g) ([], 0, false)).1
theorem blanked_fl {f : Fl} (h : FlW f) (g : Nat → Bs) : blanked g (printF f) = txtP (reP g 0 (flPc f)) := by
  obtain ⟨k, hk⟩ := fold_pieces g (flPc f) [] 0 (fl_good h)
  unfold blanked
  rw [← fl_txt h, hk]
  rfl
theorem blanked_back {f : Fl} (h : FlW f) (hn : (flPc f).length ≤ 400) {g : Nat → Bs} (hg : GapG g) : (∃ f', parseF (blanked g (printF f)) = .ok f' ∧ printF f' = printF f) ∧ (blanked g (printF f)).length ≤ (printF f).length + 1200 := by
  rw [blanked_fl h]
  obtain ⟨f', h1, h2, _⟩ := pieces_back h hn (re_fst g _ 0) (re_good hg _ 0 (fl_good h))
  refine ⟨⟨f', h1, h2⟩, ?_⟩
  have := re_len hg (flPc f) 0 (fl_sep f)
  rw [fl_txt h] at this
  omega
end Go.Proofs.YtdmboaoeholkpaaDoor
namespace Go.Proofs.YtdmboaoeholkpaaDoor
open Go.RowKit
/-- pick, as numbers. -/
def pickN (a : Int) (n : Nat) : Nat := (a.emod 18446744073709551616).toNat % n
theorem pickN_lt (a : Int) {n : Nat} (h : 0 < n) : pickN a n < n := Nat.mod_lt _ h
theorem pick_val (a : Int) (n : Nat) (h1 : n ≤ 4294967296) (h0 : 0 < n) : wrap64 ((IntKind.u64.wrap a).tmod (n : Int)) = (pickN a n : Int) := by
  have e : IntKind.u64.wrap a = ((a.emod 18446744073709551616).toNat : Int) := by
    rw [IntKind.wrap_u64]
    have := Int.emod_nonneg a (show (18446744073709551616 : Int) ≠ 0 by decide)
    exact (Int.toNat_of_nonneg this).symm
  have hl := pickN_lt a h0
  rw [e, Int.tmod_eq_emod_of_nonneg (Int.natCast_nonneg _)]
  show wrap64 ((pickN a n : Nat) : Int) = _
  exact IntWalk.wrap64_in _ ⟨by omega, by omega⟩

set_option maxRecDepth 100000 in
theorem pick_any (a : Int) (n : Nat) (h0 : 0 < n) (h1 : n ≤ 4294967296) (w : World) :
    Calls Tryd.prog 8 #[.int .i64 a, .int .i64 (n : Int)] w fun e w' => e = .returned (.int .i64 (pickN a n)) ∧ w = w' := by
  have hz : ¬ (n : Int) = 0 := by omega
  have hv := Lib.hid (pick_val a n h1 h0)
  go_enter Tryd.func8, Tryd.ntmps8
  go_wp2
  go_ret
  exact ⟨by rw [← hv.out]; rfl, rfl⟩
end Go.Proofs.YtdmboaoeholkpaaDoor
