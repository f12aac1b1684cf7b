/- A text of pieces, each a token and the blanks behind it, is cut into these tokens: plain. A flow's pieces: its tokens, each with the blanks behind it, as it is written: plain. The parser's must and name. -/
import Derived.Test.YtbhejdljekmohaaGreatDoorFlrM3
import Derived.Test.YtbhejdljekmohaaGreatDoorFlrM1
namespace Go.Proofs.YtbhejdljekmohaaGreatDoor
/-- A token's kind and text. -/
abbrev Kt := Int × Bs
abbrev Pc := Kt × Bs
def kt (t : Tk) : Kt := (t.kind, t.text)
def txtP (l : List Pc) : Bs := l.flatMap fun p => p.1.2 ++ p.2
def blankC (c : UInt8) : Bool := c == 32 || c == 10
/-- A token that stands by itself. -/
def TokOk (t : Kt) : Prop :=
  (t.1 = 1 ∧ t.2 ≠ [] ∧ letC (t.2.headD 0) = true ∧ ∀ c ∈ t.2, ldC c = true)
  ∨ (t.1 = 2 ∧ t.2 ≠ [] ∧ ∀ c ∈ t.2, digC c = true)
  ∨ (t.1 = 3 ∧ ∃ w : Bs, t.2 = 39 :: (w ++ [39]) ∧ (39 : UInt8) ∉ w)
  ∨ (t.1 = 4 ∧ t.2 ∈ marksL)
/-- What may stand right behind it. -/
def Adj (t : Kt) (c : UInt8) : Prop := (t.1 = 1 → ldC c = false) ∧ (t.1 = 2 → digC c = false) ∧ (t.1 = 4 → (t.2 = [60] ∨ t.2 = [62]) → c ≠ 61 ∧ c ≠ 62)
def GoodP : List Pc → Prop
  | [] => True
  | p :: l => TokOk p.1 ∧ (∀ c ∈ p.2, blankC c = true) ∧ Adj p.1 ((p.2 ++ txtP l).headD 0) ∧ GoodP l
theorem runN_app (p : UInt8 → Bool) : ∀ (a b : Bs), (∀ c ∈ a, p c = true) → p (b.headD 0) = false → runN p (a ++ b) = a.length
  | [], [], _, _ => rfl
  | [], c :: b, _, h => by
    show runN p (c :: b) = 0
    unfold runN
    rw [if_neg (by simpa using h)]
  | c :: a, b, ha, h => by
    show runN p (c :: (a ++ b)) = _
    unfold runN
    rw [if_pos (ha c (by simp)), runN_app p a b (fun d hd => ha d (List.mem_cons_of_mem _ hd)) h]
    rfl
theorem indexByte_app : ∀ (w : Bs) (r : Bs), (39 : UInt8) ∉ w → Lib.indexByte (w ++ 39 :: r) 39 = w.length
  | [], r, _ => by
    show Lib.indexByte (39 :: r) 39 = 0
    unfold Lib.indexByte
    rfl
  | c :: w, r, h => by
    show Lib.indexByte (c :: (w ++ 39 :: r)) 39 = _
    unfold Lib.indexByte
    have hc : (c == 39) = false := by
      rw [beq_eq_false_iff_ne]
      intro e; exact h (by simp [e])
    have ih := indexByte_app w r (fun hm => h (List.mem_cons_of_mem _ hm))
    rw [hc, ih, if_neg (by simp)]
    rw [if_neg (by rw [beq_iff_eq]; omega)]
    simp
theorem nextL_cons (c : UInt8) (t : Bs) : nextL (c :: t) = if letC c then (1, runN ldC (c :: t)) else if digC c then (2, runN digC (c :: t)) else if c = 39 then (3, if Lib.indexByte t 39 < 0 then 0 else (Lib.indexByte t 39).toNat + 2) else (4, markN (c :: t) marksL) := rfl
theorem nextL_tok {t : Kt} (h : TokOk t) (r : Bs) (ha : Adj t (r.headD 0)) : nextL (t.2 ++ r) = (t.1, t.2.length) := by
  obtain ⟨k, s⟩ := t
  rcases h with ⟨e, hne, hh, hall⟩ | ⟨e, hne, hall⟩ | ⟨e, w, hw, hn⟩ | ⟨e, hm⟩
  · dsimp only at e hne hh hall
    subst e
    have hl : letC ((s ++ r).headD 0) = true := by
      cases s with
      | nil => exact absurd rfl hne
      | cons c s => exact hh
    unfold nextL
    rw [if_pos hl, runN_app ldC s r hall (ha.1 rfl)]
  · dsimp only at e hne hall
    subst e
    cases s with
    | nil => exact absurd rfl hne
    | cons c s =>
      have hd := hall c (by simp)
      have hl : letC c = false := by
        unfold digC at hd
        unfold letC
        simp at hd ⊢
        omega
      have h2 := runN_app digC (c :: s) r hall (ha.2.1 rfl)
      rw [List.cons_append] at h2
      show nextL (c :: (s ++ r)) = _
      rw [nextL_cons, hl, hd, h2]
      rfl
  · dsimp only at e hw
    subst e hw
    show nextL (39 :: ((w ++ [39]) ++ r)) = _
    rw [nextL_cons, show letC 39 = false from rfl, show digC 39 = false from rfl, if_neg (by decide), if_neg (by decide), if_pos rfl, List.append_assoc, List.singleton_append, indexByte_app w r hn, if_neg (by omega)]
    congr 1
    simp
  · dsimp only at e hm ha
    subst e
    have h3 := ha.2.2 rfl
    have mk0 : ∀ (a : Bs) (m : Bs), Lib.hasPrefix a m = m.isPrefixOf a := fun _ _ => rfl
    unfold marksL at hm
    simp only [List.mem_cons, List.not_mem_nil, or_false] at hm
    cases r with
    | nil =>
      rcases hm with rfl | rfl | rfl | rfl | rfl | rfl | rfl | rfl | rfl | rfl | rfl | rfl | rfl <;> decide
    | cons c r =>
      have hc : ∀ d : UInt8, c ≠ d → (d == c) = false := fun d h => by rw [beq_eq_false_iff_ne]; exact fun e => h e.symm
      rcases hm with rfl | rfl | rfl | rfl | rfl | rfl | rfl | rfl | rfl | rfl | rfl | rfl | rfl
      case' inr.inr.inr.inl => have h61 := hc 61 (h3 (.inl rfl)).1; have h62 := hc 62 (h3 (.inl rfl)).2
      case' inr.inr.inr.inr.inl => have h61 := hc 61 (h3 (.inr rfl)).1; have h62 := hc 62 (h3 (.inr rfl)).2
      all_goals simp_all [nextL, markN, marksL, mk0, List.isPrefixOf, letC, digC]
theorem tok_ne {t : Kt} (h : TokOk t) : ∃ c s, t.2 = c :: s ∧ c ≠ 32 ∧ c ≠ 10 := by
  obtain ⟨k, s⟩ := t
  rcases h with ⟨e, hne, hh, hall⟩ | ⟨e, hne, hall⟩ | ⟨e, w, hw, hn⟩ | ⟨e, hm⟩
  · cases s with
    | nil => exact absurd rfl hne
    | cons c s => exact ⟨c, s, rfl, (fun e => by subst e; exact absurd (show letC 32 = true from hh) (by decide)), (fun e => by subst e; exact absurd (show letC 10 = true from hh) (by decide))⟩
  · cases s with
    | nil => exact absurd rfl hne
    | cons c s =>
      have := hall c (by simp)
      exact ⟨c, s, rfl, (fun e => by subst e; exact absurd this (by decide)), (fun e => by subst e; exact absurd this (by decide))⟩
  · exact ⟨39, _, hw, by decide, by decide⟩
  · unfold marksL at hm
    simp only [List.mem_cons, List.not_mem_nil, or_false] at hm
    rcases hm with e | e | e | e | e | e | e | e | e | e | e | e | e
    all_goals
      refine ⟨_, _, e, by decide, by decide⟩
theorem lexGo_cons (f : Nat) (c : UInt8) (t : Bs) (i : Nat) (acc : List Tk) : lexGo (f + 1) (c :: t) i acc = if c = 32 ∨ c = 10 then lexGo f t (i + 1) acc
    else if (nextL (c :: t)).2 = 0 then .error (3, (i : Int))
    else if acc.length = 400 then .error (4, (i : Int))
    else lexGo f ((c :: t).drop (nextL (c :: t)).2) (i + (nextL (c :: t)).2) (acc ++ [⟨(nextL (c :: t)).1, (c :: t).take (nextL (c :: t)).2, (i : Int)⟩]) := rfl
theorem lex_blank : ∀ (b : Bs) (f i : Nat) (r : Bs) (acc : List Tk), (∀ c ∈ b, blankC c = true) → b.length ≤ f → lexGo f (b ++ r) i acc = lexGo (f - b.length) r (i + b.length) acc
  | [], f, i, r, acc, _, _ => rfl
  | c :: b, f, i, r, acc, h, hf => by
    obtain ⟨f, rfl⟩ : ∃ m, f = m + 1 := ⟨f - 1, by simp at hf; omega⟩
    show lexGo (f + 1) (c :: (b ++ r)) i acc = _
    have hc := h c (by simp)
    unfold blankC at hc
    rw [lexGo_cons, if_pos (by simpa using hc), lex_blank b f (i + 1) r acc (fun d hd => h d (List.mem_cons_of_mem _ hd)) (by simpa using hf)]
    rw [show i + 1 + b.length = i + (c :: b).length by simp; omega, show f + 1 - (c :: b).length = f - b.length by simp]
theorem lex_pieces : ∀ (l : List Pc) (f i : Nat) (acc : List Tk), GoodP l → (txtP l).length ≤ f → acc.length + l.length ≤ 400 → ∃ ts p, lexGo f (txtP l) i acc = .ok (acc ++ ts ++ [⟨5, [], p⟩]) ∧ ts.map kt = l.map Prod.fst
  | [], f, i, acc, _, _, _ => ⟨[], i, by cases f <;> simp [txtP, lexGo], rfl⟩
  | p :: l, f, i, acc, hg, hf, hn => by
    obtain ⟨h1, h2, h3, h4⟩ := hg
    obtain ⟨c, s, hs, c1, c2⟩ := tok_ne h1
    have e : txtP (p :: l) = p.1.2 ++ (p.2 ++ txtP l) := by simp [txtP]
    have hnx := nextL_tok h1 (p.2 ++ txtP l) h3
    rw [e] at hf ⊢
    have hlen : (p.1.2 ++ (p.2 ++ txtP l)).length = p.1.2.length + (p.2.length + (txtP l).length) := by simp
    have hpos : 0 < p.1.2.length := by rw [hs]; simp
    rw [hlen] at hf
    obtain ⟨f, rfl⟩ : ∃ m, f = m + 1 := ⟨f - 1, by omega⟩
    have hstep : lexGo (f + 1) (p.1.2 ++ (p.2 ++ txtP l)) i acc = lexGo f (p.2 ++ txtP l) (i + p.1.2.length) (acc ++ [⟨p.1.1, p.1.2, i⟩]) := by
      rw [hs] at hnx ⊢
      show lexGo (f + 1) (c :: (s ++ (p.2 ++ txtP l))) i acc = _
      have hnx' : nextL (c :: (s ++ (p.2 ++ txtP l))) = (p.1.1, (c :: s).length) := hnx
      rw [lexGo_cons, if_neg (fun h => h.elim c1 c2), hnx', if_neg (by simp), if_neg (by simp at hn; omega)]
      have ed : (c :: (s ++ (p.2 ++ txtP l))).drop (c :: s).length = p.2 ++ txtP l := by
        rw [← List.cons_append, List.drop_left]
      have et : (c :: (s ++ (p.2 ++ txtP l))).take (c :: s).length = c :: s := by
        rw [← List.cons_append, List.take_left]
      simp only [ed, et]
    rw [hstep, lex_blank p.2 f _ (txtP l) _ h2 (by omega)]
    obtain ⟨ts, q, ht, hm⟩ := lex_pieces l (f - p.2.length) (i + p.1.2.length + p.2.length) (acc ++ [⟨p.1.1, p.1.2, i⟩]) h4 (by omega) (by simp at hn ⊢; omega)
    exact ⟨⟨p.1.1, p.1.2, i⟩ :: ts, q, by rw [ht]; simp, by simp [kt, hm]⟩
end Go.Proofs.YtbhejdljekmohaaGreatDoor
namespace Go.Proofs.YtbhejdljekmohaaGreatDoor
def valPc (v : Vl) (e : Bs) : List Pc :=
  if v.kind = 1 then (if v.num < 0 then [((4, [45]), []), ((2, Lib.itoa (-v.num)), e)] else [((2, Lib.itoa v.num), e)])
  else [((3, 39 :: (v.word ++ [39])), e)]
def argPc (a : Ar) (e : Bs) : List Pc := if a.col = [] then valPc a.val e else [((1, a.col), e)]
def namesPc : List Bs → Bs → List Pc
  | [], _ => []
  | [a], e => [((1, a), e)]
  | a :: b :: l, e => ((1, a), []) :: ((4, [44]), [32]) :: namesPc (b :: l) e
def colsPc : List Cl → List Pc
  | [] => []
  | [c] => [((1, c.name), [32]), ((1, kindW c.kind.toNat), [])]
  | c :: d :: l => ((1, c.name), [32]) :: ((1, kindW c.kind.toNat), []) :: ((4, [44]), [32]) :: colsPc (d :: l)
def inPc (x : In) : List Pc := ((1, [105, 110]), [32]) :: ((1, x.name), []) :: ((4, [58]), [32]) :: (colsPc x.cols ++ [((4, [59]), [10])])
def outPc (x : Pb) : List Pc := [((1, [111, 117, 116]), [32]), ((1, x.name), [32]), ((4, [61]), [32]), ((1, x.src), []), ((4, [59]), [10])]
def bodyPc (j : Jb) : List Pc :=
  if j.code = 7 then [((1, wordW 7), [32]), ((1, j.ins.getD 0 []), []), ((4, [46]), []), ((1, j.cols.getD 0 []), []), ((4, [44]), [32]), ((1, j.ins.getD 1 []), []), ((4, [46]), []), ((1, j.cols.getD 1 []), [])]
  else if j.code = 5 then [((1, wordW 5), [32]), ((1, j.ins.getD 0 []), []), ((4, [44]), [32]), ((1, j.ins.getD 1 []), [])]
  else if j.code = 6 then [((1, wordW 6), [32]), ((1, j.ins.getD 0 []), [])]
  else if j.code = 2 then ((1, wordW 2), [32]) :: ((1, j.ins.getD 0 []), []) :: ((4, [58]), [32]) :: ((1, j.cols.getD 0 []), [32]) :: ((4, [61]), [32]) :: (argPc j.left [32] ++ ((4, j.op), [32]) :: argPc j.right [])
  else ((1, wordW j.code.toNat), [32]) :: ((1, j.ins.getD 0 []), [32]) ::
    (if j.code = 1 ∨ j.code = 9 then ((1, [119, 104, 101, 114, 101]), [32]) :: ((1, j.left.col), [32]) :: ((4, j.op), [32]) :: argPc j.right []
    else if j.code = 8 then [((1, [98, 121]), [32]), ((1, j.cols.getD 0 []), [32]), ((1, j.op), [32]), ((1, j.cols.getD 1 []), [])]
    else ((1, [98, 121]), [32]) :: namesPc j.cols [])
def retryPc (n : Int) : List Pc := if 0 < n then [((1, [114, 101, 116, 114, 121]), [32]), ((2, Lib.itoa n), [32])] else []
def jobPc (j : Jb) : List Pc := ((1, [106, 111, 98]), [32]) :: (namesPc j.outs [32] ++ (retryPc j.retry ++ ((4, [61]), [32]) :: (bodyPc j ++ [((4, [59]), [10])])))
def flPc (f : Fl) : List Pc := f.ins.flatMap inPc ++ f.jobs.flatMap jobPc ++ f.outs.flatMap outPc
/-! ### Their text -/
theorem txtP_cons (p : Pc) (l : List Pc) : txtP (p :: l) = p.1.2 ++ (p.2 ++ txtP l) := by simp [txtP]
theorem txtP_app (a b : List Pc) : txtP (a ++ b) = txtP a ++ txtP b := by simp [txtP]
theorem txtP_nil : txtP [] = [] := rfl
theorem joinCm_cons (a b : Bs) (l : List Bs) : joinCm (a :: b :: l) = a ++ [44, 32] ++ joinCm (b :: l) := by simp [joinCm, Lib.join]
theorem joinCm_one (a : Bs) : joinCm [a] = a := by simp [joinCm, Lib.join]
theorem itoa_neg {n : Int} (h : n < 0) : Lib.itoa n = 45 :: Lib.itoa (-n) := by
  unfold Lib.itoa
  rw [if_pos h, if_neg (by omega), show (-n).toNat = n.natAbs by omega]
theorem val_txt {v : Vl} (e : Bs) : txtP (valPc v e) = valueL v ++ e := by
  unfold valPc valueL
  split
  · split
    · rename_i h
      rw [itoa_neg h]
      simp [txtP]
    · simp [txtP]
  · simp [txtP]
theorem arg_txt (a : Ar) (e : Bs) : txtP (argPc a e) = argT a ++ e := by
  unfold argPc argT
  split
  · exact val_txt e
  · simp [txtP]
theorem names_txt (e : Bs) : ∀ (l : List Bs), l ≠ [] → txtP (namesPc l e) = joinCm l ++ e
  | [], h => absurd rfl h
  | [a], _ => by rw [joinCm_one]; simp [namesPc, txtP]
  | a :: b :: l, _ => by
    rw [joinCm_cons]
    show txtP (((1, a), []) :: ((4, [44]), [32]) :: namesPc (b :: l) e) = _
    rw [txtP_cons, txtP_cons, names_txt e (b :: l) (by simp)]
    simp
theorem cols_txt : ∀ (l : List Cl), l ≠ [] → txtP (colsPc l) = joinCm (l.map colT)
  | [], h => absurd rfl h
  | [c], _ => by
    rw [List.map_cons, List.map_nil, joinCm_one]
    simp [colsPc, txtP, colT]
  | c :: d :: l, _ => by
    rw [List.map_cons, List.map_cons, joinCm_cons]
    show txtP (((1, c.name), [32]) :: ((1, kindW c.kind.toNat), []) :: ((4, [44]), [32]) :: colsPc (d :: l)) = _
    rw [txtP_cons, txtP_cons, txtP_cons, cols_txt (d :: l) (by simp), List.map_cons]
    simp [colT]
theorem in_txt {x : In} (h : InW x) : txtP (inPc x) = inT x := by
  unfold inPc inT
  rw [txtP_cons, txtP_cons, txtP_cons, txtP_app, cols_txt _ h.ne]
  simp [txtP]
theorem out_txt (x : Pb) : txtP (outPc x) = outT x := by simp [outPc, outT, txtP]
theorem body_txt {j : Jb} (h : BodyW j) : txtP (bodyPc j) = textJ j := by
  rcases h with ⟨e, _⟩ | ⟨e, _⟩ | ⟨e, _⟩ | ⟨e, _⟩ | ⟨e, _⟩ | ⟨e, a, ha, e1, e2⟩ | ⟨e, _⟩
  · simp [bodyPc, textJ, e, txtP]
  · simp [bodyPc, textJ, e, txtP]
  · simp [bodyPc, textJ, e, txtP]
  · rcases e with e | e
    all_goals
      simp only [bodyPc, textJ, e]
      simp [txtP_cons, arg_txt, e]
  · simp only [bodyPc, textJ, e]
    simp [txtP_cons, txtP_app, arg_txt, e]
  · rcases e with e | e
    all_goals
      simp only [bodyPc, textJ, e]
      simp [txtP_cons, names_txt [] _ e2.1, e]
  · simp [bodyPc, textJ, e, txtP]
theorem job_txt {j : Jb} (h : JobW j) : txtP (jobPc j) = jobT j := by
  unfold jobPc jobT retryPc
  rw [txtP_cons, txtP_app, names_txt _ _ h.outs.1, txtP_app, txtP_cons, txtP_app, body_txt h.body]
  split
  · simp [txtP]
  · simp [txtP]
theorem flat_txt {α : Type} (pc : α → List Pc) (t : α → Bs) : ∀ (l : List α), (∀ x ∈ l, txtP (pc x) = t x) → txtP (l.flatMap pc) = l.flatMap t
  | [], _ => rfl
  | x :: l, h => by
    rw [List.flatMap_cons, List.flatMap_cons, txtP_app, h x (by simp), flat_txt pc t l (fun y hy => h y (List.mem_cons_of_mem _ hy))]
theorem fl_txt {f : Fl} (h : FlW f) : txtP (flPc f) = printF f := by
  unfold flPc printF
  rw [txtP_app, txtP_app, flat_txt inPc inT _ (fun x hx => in_txt (h.ins x hx)), flat_txt jobPc jobT _ (fun x hx => job_txt (h.jobs x hx)), flat_txt outPc outT _ (fun x _ => out_txt x)]
/-! ### They stand by themselves -/
def GoodQ : List Pc → Bs → Prop
  | [], _ => True
  | p :: l, r => TokOk p.1 ∧ (∀ c ∈ p.2, blankC c = true) ∧ Adj p.1 ((p.2 ++ (txtP l ++ r)).headD 0) ∧ GoodQ l r
theorem goodQ_app : ∀ {a b : List Pc} {r : Bs}, GoodQ a (txtP b ++ r) → GoodQ b r → GoodQ (a ++ b) r
  | [], _, _, _, h => h
  | p :: a, b, r, ⟨h1, h2, h3, h4⟩, h => ⟨h1, h2, by rw [show txtP (a.append b) = txtP a ++ txtP b from txtP_app a b, List.append_assoc]; exact h3, goodQ_app h4 h⟩
theorem goodQ_P : ∀ {l : List Pc}, GoodQ l [] → GoodP l
  | [], _ => trivial
  | p :: l, ⟨h1, h2, h3, h4⟩ => ⟨h1, h2, by simpa using h3, goodQ_P h4⟩
theorem k14 : (1 : Int) ≠ 4 := by decide
theorem k24 : (2 : Int) ≠ 4 := by decide
theorem k34 : (3 : Int) ≠ 4 := by decide
theorem adj_blank (t : Kt) {c : UInt8} (h : blankC c = true) : Adj t c := by
  have h' : c = 32 ∨ c = 10 := by unfold blankC at h; simpa using h
  rcases h' with rfl | rfl
  · exact ⟨fun _ => by decide, fun _ => by decide, fun _ _ => by decide⟩
  · exact ⟨fun _ => by decide, fun _ => by decide, fun _ _ => by decide⟩
theorem adj_mark (t : Kt) {c : UInt8} (h : c ∈ [44, 59, 58, 46]) (hk : t.1 ≠ 4) : Adj t c := by
  simp only [List.mem_cons, List.not_mem_nil, or_false] at h
  refine ⟨fun _ => ?_, fun _ => ?_, fun e => absurd e hk⟩
  all_goals rcases h with rfl | rfl | rfl | rfl <;> decide
theorem adj_plain (m : Bs) (c : UInt8) (h1 : m ≠ [60]) (h2 : m ≠ [62]) : Adj (4, m) c :=
  ⟨fun e => absurd (show (4 : Int) = 1 from e) (by decide), fun e => absurd (show (4 : Int) = 2 from e) (by decide), fun _ e => e.elim (fun h => absurd h h1) (fun h => absurd h h2)⟩
theorem tok_name {s : Bs} (h : NameW s) : TokOk (1, s) := .inl ⟨rfl, h.ne, h.head, h.all⟩
theorem tok_mark {s : Bs} (h : s ∈ marksL) : TokOk (4, s) := .inr (.inr (.inr ⟨rfl, h⟩))
theorem itoa_digits {n : Int} (h : 0 ≤ n) : ∀ c ∈ Lib.itoa n, digC c = true := fun c hc => by
  unfold Lib.itoa at hc
  rw [if_neg (by omega)] at hc
  have := dec_digit _ c hc
  unfold digC
  simp
  omega
theorem tok_num {n : Int} (h : 0 ≤ n) : TokOk (2, Lib.itoa n) := .inr (.inl ⟨rfl, itoa_ne n, itoa_digits h⟩)
theorem tok_quoted {v : Vl} (h : rvB v = true) (hk : v.kind ≠ 1) : TokOk (3, 39 :: (v.word ++ [39])) := by
  refine .inr (.inr (.inl ⟨rfl, v.word, rfl, fun hm => ?_⟩))
  unfold rvB at h
  rw [if_neg hk] at h
  split at h
  · simp at h
    have := h.2 39 hm
    unfold badB at this
    exact absurd this (by decide)
  · cases h
/-- Good pieces whose last one has anything behind it. -/
theorem val_good {v : Vl} (h : rvB v = true) {e r : Bs} (he : ∀ c ∈ e, blankC c = true) (ha : ∀ t : Kt, t.1 ≠ 4 → Adj t ((e ++ r).headD 0)) : GoodQ (valPc v e) r := by
  unfold valPc
  split
  · split
    · rename_i hn
      refine ⟨tok_mark (by decide), (fun c hc => by cases hc), adj_plain _ _ (by decide) (by decide), tok_num (by omega), he, ?_, trivial⟩
      simpa [txtP] using ha (2, Lib.itoa (-v.num)) k24
    · refine ⟨tok_num (by omega), he, ?_, trivial⟩
      simpa [txtP] using ha (2, Lib.itoa v.num) k24
  · rename_i hk
    refine ⟨tok_quoted h hk, he, ?_, trivial⟩
    simpa [txtP] using ha (3, 39 :: (v.word ++ [39])) k34
theorem arg_good {a : Ar} (h : ArgW a) {e r : Bs} (he : ∀ c ∈ e, blankC c = true) (ha : ∀ t : Kt, t.1 ≠ 4 → Adj t ((e ++ r).headD 0)) : GoodQ (argPc a e) r := by
  unfold argPc
  rcases h with ⟨h, _⟩ | ⟨h1, h2⟩
  · rw [if_neg h.ne]
    refine ⟨tok_name h, he, ?_, trivial⟩
    simpa [txtP] using ha (1, a.col) k14
  · rw [if_pos h1]
    exact val_good h2 he ha
theorem sp_blank : ∀ c ∈ ([32] : Bs), blankC c = true := by decide
theorem nl_blank : ∀ c ∈ ([10] : Bs), blankC c = true := by decide
theorem no_blank : ∀ c ∈ ([] : Bs), blankC c = true := fun c hc => by cases hc
theorem names_good {e r : Bs} (he : ∀ c ∈ e, blankC c = true) (ha : ∀ t : Kt, t.1 ≠ 4 → Adj t ((e ++ r).headD 0)) : ∀ (l : List Bs), (∀ s ∈ l, NameW s) → GoodQ (namesPc l e) r
  | [], _ => trivial
  | [a], h => ⟨tok_name (h a (by simp)), he, by simpa [txtP] using ha (1, a) k14, trivial⟩
  | a :: b :: l, h => ⟨tok_name (h a (by simp)), no_blank, adj_mark _ (show (44 : UInt8) ∈ [44, 59, 58, 46] by decide) k14, tok_mark (by decide), sp_blank, adj_blank _ (show blankC 32 = true from rfl), names_good he ha (b :: l) (fun s hs => h s (List.mem_cons_of_mem _ hs))⟩
theorem kindW_name {c : Cl} (h : c.kind = 1 ∨ c.kind = 2) : NameW (kindW c.kind.toNat) := by
  rcases h with h | h
  all_goals
    rw [h]
    exact ⟨by decide, by decide, by decide, by decide⟩
theorem cols_good {r : Bs} (ha : ∀ t : Kt, t.1 ≠ 4 → Adj t (r.headD 0)) : ∀ (l : List Cl), (∀ c ∈ l, NameW c.name ∧ (c.kind = 1 ∨ c.kind = 2)) → GoodQ (colsPc l) r
  | [], _ => trivial
  | [c], h => ⟨tok_name (h c (by simp)).1, sp_blank, adj_blank _ (show blankC 32 = true from rfl), tok_name (kindW_name (h c (by simp)).2), no_blank, by simpa [txtP] using ha (1, kindW c.kind.toNat) k14, trivial⟩
  | c :: d :: l, h => ⟨tok_name (h c (by simp)).1, sp_blank, adj_blank _ (show blankC 32 = true from rfl), tok_name (kindW_name (h c (by simp)).2), no_blank, adj_mark _ (show (44 : UInt8) ∈ [44, 59, 58, 46] by decide) k14, tok_mark (by decide), sp_blank, adj_blank _ (show blankC 32 = true from rfl), cols_good ha (d :: l) (fun s hs => h s (List.mem_cons_of_mem _ hs))⟩
theorem word_name : ∀ s ∈ [[105, 110], [106, 111, 98], [111, 117, 116], [114, 101, 116, 114, 121], [119, 104, 101, 114, 101], [98, 121], [115, 117, 109], [109, 97, 120], wordW 1, wordW 2, wordW 3, wordW 4, wordW 5, wordW 6, wordW 7, wordW 8, wordW 9], NameW s := by
  have h : ∀ s ∈ [[105, 110], [106, 111, 98], [111, 117, 116], [114, 101, 116, 114, 121], [119, 104, 101, 114, 101], [98, 121], [115, 117, 109], [109, 97, 120], wordW 1, wordW 2, wordW 3, wordW 4, wordW 5, wordW 6, wordW 7, wordW 8, wordW 9], s ≠ [] ∧ s.length ≤ 10 ∧ letC (s.headD 0) = true ∧ ∀ c ∈ s, ldC c = true := by decide
  exact fun s hs => ⟨(h s hs).1, (h s hs).2.1, (h s hs).2.2.1, (h s hs).2.2.2⟩
theorem end_adj (r : Bs) : ∀ t : Kt, t.1 ≠ 4 → Adj t (([] ++ (txtP [((4, [59]), [10])] ++ r)).headD 0) := fun t ht => adj_mark t (show (59 : UInt8) ∈ [44, 59, 58, 46] by decide) ht
theorem end_good (r : Bs) : GoodQ [((4, [59]), [10])] r := ⟨tok_mark (by decide), nl_blank, adj_blank _ (show blankC 10 = true from rfl), trivial⟩
theorem sp_adj (r : Bs) (t : Kt) : Adj t (([32] ++ r).headD 0) := adj_blank _ (show blankC 32 = true from rfl)
theorem in_good {x : In} (h : InW x) (r : Bs) : GoodQ (inPc x) r :=
  ⟨tok_name (word_name _ (by decide)), sp_blank, sp_adj _ _, tok_name h.name, no_blank, adj_mark _ (show (58 : UInt8) ∈ [44, 59, 58, 46] by decide) k14, tok_mark (by decide), sp_blank, sp_adj _ _,
    goodQ_app (cols_good (end_adj r) _ h.cols) (end_good r)⟩
theorem out_good {x : Pb} (h : OutW x) (r : Bs) : GoodQ (outPc x) r :=
  ⟨tok_name (word_name _ (by decide)), sp_blank, sp_adj _ _, tok_name h.name, sp_blank, sp_adj _ _, tok_mark (by decide), sp_blank, sp_adj _ _, tok_name h.src, no_blank, adj_mark _ (show (59 : UInt8) ∈ [44, 59, 58, 46] by decide) k14, end_good r⟩
theorem body_good {j : Jb} (h : BodyW j) (r : Bs) (hr : ∀ t : Kt, t.1 ≠ 4 → Adj t (r.headD 0)) : GoodQ (bodyPc j) r := by
  have hr' : ∀ t : Kt, t.1 ≠ 4 → Adj t (([] ++ r).headD 0) := hr
  rcases h with ⟨e, a, b, c, d, ha, hb, hc, hd, e1, e2⟩ | ⟨e, a, b, ha, hb, e1, e2⟩ | ⟨e, a, ha, e1, e2⟩ | ⟨e, a, s, ha, hs, e1, e2, e3, e4, e5⟩ | ⟨e, a, c, ha, hc, e1, e2, e3, e4, e5⟩ | ⟨e, a, ha, e1, e2⟩ | ⟨e, a, c, d, ha, hc, hd, e1, e2, e3⟩
  · unfold bodyPc
    rw [if_pos e, e1, e2]
    exact ⟨tok_name (word_name _ (by decide)), sp_blank, sp_adj _ _, tok_name ha, no_blank, adj_mark _ (show (46 : UInt8) ∈ [44, 59, 58, 46] by decide) k14, tok_mark (by decide), no_blank, adj_plain _ _ (by decide) (by decide), tok_name hc, no_blank, adj_mark _ (show (44 : UInt8) ∈ [44, 59, 58, 46] by decide) k14, tok_mark (by decide), sp_blank, sp_adj _ _, tok_name hb, no_blank, adj_mark _ (show (46 : UInt8) ∈ [44, 59, 58, 46] by decide) k14, tok_mark (by decide), no_blank, adj_plain _ _ (by decide) (by decide), tok_name hd, no_blank, hr' _ k14, trivial⟩
  · unfold bodyPc
    rw [e, if_neg (by decide), if_pos rfl, e1]
    exact ⟨tok_name (word_name _ (by decide)), sp_blank, sp_adj _ _, tok_name ha, no_blank, adj_mark _ (show (44 : UInt8) ∈ [44, 59, 58, 46] by decide) k14, tok_mark (by decide), sp_blank, sp_adj _ _, tok_name hb, no_blank, hr' _ k14, trivial⟩
  · unfold bodyPc
    rw [e, if_neg (by decide), if_neg (by decide), if_pos rfl, e1]
    exact ⟨tok_name (word_name _ (by decide)), sp_blank, sp_adj _ _, tok_name ha, no_blank, hr' _ k14, trivial⟩
  · have hop : j.op ∈ marksL := by
      unfold cmpL at e4
      unfold marksL
      simp only [List.mem_cons, List.not_mem_nil, or_false] at e4 ⊢
      rcases e4 with e | e | e | e | e | e <;> simp [e]
    rcases e with e | e
    all_goals
      unfold bodyPc
      rw [e, if_neg (by decide), if_neg (by decide), if_neg (by decide), if_neg (by decide), if_pos (by decide), e1, e3]
      exact ⟨tok_name (word_name _ (by decide)), sp_blank, sp_adj _ _, tok_name ha, sp_blank, sp_adj _ _, tok_name (word_name _ (by decide)), sp_blank, sp_adj _ _, tok_name hs, sp_blank, sp_adj _ _, tok_mark hop, sp_blank, sp_adj _ _, arg_good e5 no_blank hr'⟩
  · have hop : j.op ∈ marksL := by
      unfold marksL
      simp only [List.mem_cons, List.not_mem_nil, or_false] at e4 ⊢
      rcases e4 with e | e | e <;> simp [e]
    unfold bodyPc
    rw [e, if_neg (by decide), if_neg (by decide), if_neg (by decide), if_pos rfl, e1, e2]
    exact ⟨tok_name (word_name _ (by decide)), sp_blank, sp_adj _ _, tok_name ha, no_blank, adj_mark _ (show (58 : UInt8) ∈ [44, 59, 58, 46] by decide) k14, tok_mark (by decide), sp_blank, sp_adj _ _, tok_name hc, sp_blank, sp_adj _ _, tok_mark (by decide), sp_blank, sp_adj _ _,
      goodQ_app (arg_good e3 sp_blank (fun t _ => sp_adj _ t)) ⟨tok_mark hop, sp_blank, sp_adj _ _, arg_good e5 no_blank hr'⟩⟩
  · rcases e with e | e
    all_goals
      unfold bodyPc
      rw [e, if_neg (by decide), if_neg (by decide), if_neg (by decide), if_neg (by decide), if_neg (by decide), if_neg (by decide), e1]
      exact ⟨tok_name (word_name _ (by decide)), sp_blank, sp_adj _ _, tok_name ha, sp_blank, sp_adj _ _, tok_name (word_name _ (by decide)), sp_blank, sp_adj _ _, names_good no_blank hr' _ e2.2.2⟩
  · have hop : NameW j.op := word_name _ (by
      simp only [List.mem_cons, List.not_mem_nil, or_false] at e3
      rcases e3 with e | e <;> rw [e] <;> decide)
    unfold bodyPc
    rw [e, if_neg (by decide), if_neg (by decide), if_neg (by decide), if_neg (by decide), if_neg (by decide), if_pos rfl, e1, e2]
    exact ⟨tok_name (word_name _ (by decide)), sp_blank, sp_adj _ _, tok_name ha, sp_blank, sp_adj _ _, tok_name (word_name _ (by decide)), sp_blank, sp_adj _ _, tok_name hc, sp_blank, sp_adj _ _, tok_name hop, sp_blank, sp_adj _ _, tok_name hd, no_blank, hr' _ k14, trivial⟩
theorem job_good {j : Jb} (h : JobW j) (r : Bs) : GoodQ (jobPc j) r := by
  refine ⟨tok_name (word_name _ (by decide)), sp_blank, sp_adj _ _, goodQ_app (names_good sp_blank (fun t _ => sp_adj _ t) _ h.outs.2.2) (goodQ_app ?_ ⟨tok_mark (by decide), sp_blank, sp_adj _ _, goodQ_app (body_good h.body _ (end_adj r)) (end_good r)⟩)⟩
  unfold retryPc
  split
  · exact ⟨tok_name (word_name _ (by decide)), sp_blank, sp_adj _ _, tok_num h.lo, sp_blank, sp_adj _ _, trivial⟩
  · exact trivial
theorem flat_good {α : Type} (pc : α → List Pc) : ∀ (l : List α) (r : Bs), (∀ x ∈ l, ∀ r, GoodQ (pc x) r) → GoodQ (l.flatMap pc) r
  | [], _, _ => trivial
  | x :: l, r, h => by
    rw [List.flatMap_cons]
    exact goodQ_app (h x (by simp) _) (flat_good pc l r (fun y hy => h y (List.mem_cons_of_mem _ hy)))
theorem fl_good {f : Fl} (h : FlW f) : GoodP (flPc f) :=
  goodQ_P (goodQ_app (goodQ_app (flat_good inPc _ _ (fun x hx r => in_good (h.ins x hx) r)) (flat_good jobPc _ _ (fun x hx r => job_good (h.jobs x hx) r))) (flat_good outPc _ _ (fun x hx r => out_good (h.outs x hx) r)))
end Go.Proofs.YtbhejdljekmohaaGreatDoor
namespace Go.Proofs.YtbhejdljekmohaaGreatDoor
open Go.RowKit Go.BigFrame
attribute [local go_sem] bs_size bs_extract bs_append bs_toList
theorem mustP_ok {s : Bs} {l r : List Tk} (h : mustP s l = .ok r) : seeP s l = true ∧ r = l.tail := by
  unfold mustP at h
  split at h
  · rename_i h1
    exact ⟨h1, (Except.ok.inj h).symm⟩
  · cases h
theorem mustP_err {s : Bs} {l : List Tk} {x : Int × Int} (h : mustP s l = .error x) : seeP s l = false ∧ x = (3, (hdT l).at_) := by
  unfold mustP at h
  split at h
  · cases h
  · rename_i h1
    exact ⟨by simpa using h1, (Except.error.inj h).symm⟩
set_option maxHeartbeats 1000000 in
theorem must_yes {s : Bs} {l r : List Tk} {b : Nat} (hm : mustP s l = .ok r) (w : World) (h : Ps w b l) :
    Calls Tryz.prog 50 #[.pointer (some ⟨b, 0, none⟩), .string (bs s)] w fun e w' => e = .returned (.tuple #[]) ∧ Ps w' b r ∧ Keeps [b] w w' := by
  obtain ⟨h1, rfl⟩ := mustP_ok hm
  have HS := take_any s w h
  rw [h1, if_pos rfl] at HS
  have HT := Lib.hid HS
  clear h hm h1 HS
  go_enter Tryz.func50, Tryz.ntmps50
  go_wp2_with fail
  refine HT.out.mono ?_
  rintro ev w1 ⟨rfl, hp, hk⟩
  go_wp2
  go_end0
  exact ⟨rfl, hp, hk⟩
set_option maxHeartbeats 1000000 in
theorem must_no {s : Bs} {l : List Tk} {b : Nat} {x : Int × Int} (hm : mustP s l = .error x) (w : World) (h : Ps w b l) :
    Calls Tryz.prog 50 #[.pointer (some ⟨b, 0, none⟩), .string (bs s)] w fun e w' => Thrown x e w' ∧ Keeps [b] w w' := by
  obtain ⟨h1, rfl⟩ := mustP_err hm
  have HS := take_any s w h
  rw [h1, if_neg (by simp)] at HS
  have HT := Lib.hid HS
  clear h hm h1 HS
  go_enter Tryz.func50, Tryz.ntmps50
  go_wp2_with fail
  refine HT.out.mono ?_
  rintro ev w1 ⟨rfl, hp, hk⟩
  have HP := Lib.hid hp
  clear hp
  go_wp2_with fail
  refine (fail_any' 3 w1 HP.out).mono ?_
  rintro ev w2 ⟨⟨gi, rfl, hb⟩, hk2⟩
  exact ⟨rfl, ⟨gi, rfl, hb⟩, hk.trans hk2.of_nil⟩
theorem nameP_ok {l r : List Tk} {s : Bs} (h : nameP l = .ok (s, r)) : (hdT l).kind = 1 ∧ (hdT l).text.length ≤ 10 ∧ s = (hdT l).text ∧ r = l.tail := by
  unfold nameP at h
  split at h
  · cases h
  · rename_i h1
    split at h
    · cases h
    · rename_i h2
      injection h with h
      injection h with h3 h4
      exact ⟨by simpa using h1, by omega, h3.symm, h4.symm⟩
theorem nameP_err {l : List Tk} {x : Int × Int} (h : nameP l = .error x) : ((hdT l).kind ≠ 1 ∧ x = (3, (hdT l).at_)) ∨ ((hdT l).kind = 1 ∧ 10 < (hdT l).text.length ∧ x = (4, (hdT l).at_)) := by
  unfold nameP at h
  split at h
  · rename_i h1
    exact .inl ⟨h1, (Except.error.inj h).symm⟩
  · rename_i h1
    split at h
    · rename_i h2
      exact .inr ⟨by simpa using h1, h2, (Except.error.inj h).symm⟩
    · cases h
theorem Ps.more {W : World} {b : Nat} {l : List Tk} (h : Ps W b l) (hk : (hdT l).kind ≠ 5) : 1 < l.length := by
  have := (h.endT.tail hk).pos
  rw [List.length_tail] at this
  omega
set_option maxHeartbeats 1000000 in
theorem name_yes {s : Bs} {l r : List Tk} {b : Nat} (hm : nameP l = .ok (s, r)) (w : World) (h : Ps w b l) :
    Calls Tryz.prog 51 #[.pointer (some ⟨b, 0, none⟩)] w fun e w' => e = .returned (.string (bs s)) ∧ Ps w' b r ∧ Keeps [b] w w' := by
  obtain ⟨h1, h2, rfl, rfl⟩ := nameP_ok hm
  have hk5 : (hdT l).kind ≠ 5 := by rw [h1]; decide
  have h3 := h.more hk5
  have HP := Lib.hid h
  obtain ⟨g, o, c, c0, z0, lb, lg, -, hn, hc, hc2, k0, k1, k2, -⟩ := h.open'
  rw [h1] at k0
  have hn2 : (0 : Int) < (l.length : Int) := by omega
  have hn3 : (1 : Int) ≤ (l.length : Int) := by omega
  have h4 : (1 : Int) < (c : Int) := by omega
  have h5 : ¬ (10 : Int) < ((hdT l).text.length : Int) := by omega
  have HT := Lib.hid (fun n a d => @Ps.step w b g o c l h c0 hk5 n a d)
  clear h hm h1 hk5
  go_enter Tryz.func51, Tryz.ntmps51
  go_wp2
  go_ret
  have hst := HT.out (l.length - 1) ⟨g, o + 3, none⟩ (c - 1) rfl rfl rfl
  exact ⟨rfl, hst.1.keep ((Keeps.refl _ _).alloc _), hst.2.alloc _⟩
set_option maxHeartbeats 1000000 in
theorem name_no {l : List Tk} {b : Nat} {x : Int × Int} (hm : nameP l = .error x) (w : World) (h : Ps w b l) :
    Calls Tryz.prog 51 #[.pointer (some ⟨b, 0, none⟩)] w fun e w' => Thrown x e w' ∧ Keeps [b] w w' := by
  have HP := Lib.hid h
  obtain ⟨g, o, c, c0, z0, lb, lg, -, hn, hc, hc2, k0, k1, k2, hl⟩ := h.open'
  have hn2 : (0 : Int) < (l.length : Int) := by omega
  rcases nameP_err hm with ⟨h1, rfl⟩ | ⟨h1, h2, rfl⟩
  · have h1' : ((hdT l).kind != 1) = true := by rw [bne_iff_ne]; exact h1
    clear h hm h1
    go_enter Tryz.func51, Tryz.ntmps51
    go_wp2_with fail
    refine (fail_any' 3 _ (HP.out.keep ((Keeps.refl _ _).alloc _))).mono ?_
    rintro ev w2 ⟨⟨gi, rfl, hb⟩, hk2⟩
    exact ⟨rfl, ⟨gi, rfl, hb⟩, (((Keeps.refl _ _).alloc _).trans hk2).of_nil⟩
  · rw [h1] at k0
    have h2' : (10 : Int) < ((hdT l).text.length : Int) := by omega
    clear h hm h1 h2
    go_enter Tryz.func51, Tryz.ntmps51
    go_wp2_with fail
    refine (fail_any' 4 _ (HP.out.keep ((Keeps.refl _ _).alloc _))).mono ?_
    rintro ev w2 ⟨⟨gi, rfl, hb⟩, hk2⟩
    exact ⟨rfl, ⟨gi, rfl, hb⟩, (((Keeps.refl _ _).alloc _).trans hk2).of_nil⟩
end Go.Proofs.YtbhejdljekmohaaGreatDoor
