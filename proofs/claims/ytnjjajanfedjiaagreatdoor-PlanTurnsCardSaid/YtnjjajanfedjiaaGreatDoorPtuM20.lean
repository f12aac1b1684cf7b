/- Plans: the columns of a flow's tables are one answer, whatever order the jobs stand in, and whatever jobs there are besides. No program in sight. Maps of integers to values of whatever kind, by run equations. No program in sight. Maps of texts to values of whatever kind, as lists of what was put (the last first): by run equations; how many there are; a range over one. No program in sight. -/
import Derived.Test.YtnjjajanfedjiaaGreatDoorPtuM19
import Derived.Test.YtnjjajanfedjiaaGreatDoorPtuM1
import Derived.Maps.Own
import Derived.Maps.OwnSet
import Derived.Maps.RangeWalk
import Derived.Maps.Keyed
import Derived.Maps.Views
import Derived.Maps.Range
set_option linter.unusedSimpArgs false
set_option linter.unusedVariables false
namespace Go.Proofs.YtnjjajanfedjiaaGreatDoor
structure Sol (f : Fl) (F : Bs → Option (List Cl)) : Prop where
 ins : ∀ x ∈ f.ins, F x.name = some x.cols
 jobs : ∀ j ∈ f.jobs, ∃ cs, colsJ j (j.ins.map fun n => (F n).getD []) = .ok cs ∧ ∀ i (h : i < j.outs.length) (h' : i < cs.length), F j.outs[i] = some cs[i]
 none : ∀ n, n ∉ allN f → F n = none
def domB (f : Fl) (done : List Nat) (n : Bs) : Prop := n ∈ f.ins.map (·.name) ∨ ∃ k ∈ done, n ∈ (jb f k).outs
theorem domB_all {f : Fl} {done : List Nat} {n : Bs} (hd : ∀ k ∈ done, k < f.jobs.length) (h : domB f done n) : n ∈ allN f := by
 unfold allN
 rw [List.mem_append]
 rcases h with h | ⟨k, hk, hn⟩
 ·exact .inl h
 ·refine .inr (List.mem_flatMap.2 ⟨jb f k, ?_, hn⟩)
  rw [jb_lt (hd k hk)]
  exact List.getElem_mem _
theorem lookup_putM : ∀ {ns : List Bs} {cs : List (List Cl)} {m : Cm}, ns.length = cs.length → ns.Nodup → (∀ i (h : i < ns.length) (h' : i < cs.length), (putM ns cs m).lookup ns[i] = some cs[i]) ∧ (∀ n, n ∉ ns → (putM ns cs m).lookup n = m.lookup n) ∧ (putM ns cs m).map (·.1) = ns.reverse ++ m.map (·.1)
 | [], [], m, _, _ => ⟨fun i h => absurd h (by simp), fun _ _ => rfl, rfl⟩
 | n :: ns, c :: cs, m, hl, hn => by
  rw [List.nodup_cons] at hn
  obtain ⟨a, b, e⟩ := lookup_putM (ns := ns) (cs := cs) (m := (n, c) :: m) (by simpa using hl) hn.2
  refine ⟨fun i h h' => ?_, fun x hx => ?_, ?_⟩
  ·cases i with
   | zero =>
    show (putM ns cs ((n, c) :: m)).lookup n = some c
    rw [b n hn.1, List.lookup_cons]
    simp
   | succ i => exact a i (by simpa using h) (by simpa using h')
  ·rw [List.mem_cons] at hx
   show (putM ns cs ((n, c) :: m)).lookup x = m.lookup x
   rw [b x (fun hh => hx (.inr hh)), List.lookup_cons]
   have : (x == n) = false := by simpa using fun e => hx (.inl e)
   rw [this]
  ·show (putM ns cs ((n, c) :: m)).map (·.1) = (n :: ns).reverse ++ m.map (·.1)
   rw [e, List.reverse_cons, List.append_assoc]
   rfl
theorem insM_ok : ∀ {l : List In} {m m' : Cm}, insM l m = .ok m' → (l.map (·.name)).Nodup → (∀ x ∈ l, m'.lookup x.name = some x.cols) ∧ (∀ n, n ∉ l.map (·.name) → m'.lookup n = m.lookup n) ∧ m'.map (·.1) = (l.map (·.name)).reverse ++ m.map (·.1) ∧ ∀ x ∈ l, colsB x.cols = true
 | [], m, m', h, _ => by cases h; exact ⟨fun x h => (by cases h), fun _ _ => rfl, rfl, fun x h => (by cases h)⟩
 | x :: l, m, m', h, hn => by
  unfold insM at h
  by_cases hc : colsB x.cols = true
  ·rw [if_pos hc] at h
   rw [List.map_cons, List.nodup_cons] at hn
   obtain ⟨a, b, e, d⟩ := insM_ok h hn.2
   refine ⟨fun y hy => ?_, fun n hh => ?_, ?_, fun y hy => ?_⟩
   ·rcases List.mem_cons.1 hy with rfl | hy
    ·rw [b _ hn.1, List.lookup_cons]; simp
    ·exact a y hy
   ·rw [List.map_cons, List.mem_cons] at hh
    rw [b n (fun hx => hh (.inr hx)), List.lookup_cons]
    have : (n == x.name) = false := by simpa using fun e => hh (.inl e)
    rw [this]
   ·rw [e, List.map_cons, List.map_cons, List.reverse_cons, List.append_assoc]; rfl
   ·rcases List.mem_cons.1 hy with rfl | hy
    ·exact hc
    ·exact d y hy
  ·rw [if_neg hc] at h; cases h
theorem insM_some : ∀ (l : List In) (m : Cm), (∀ x ∈ l, colsB x.cols = true) → ∃ m', insM l m = .ok m'
 | [], m, _ => ⟨m, rfl⟩
 | x :: l, m, h => by
  unfold insM
  rw [if_pos (h x (List.mem_cons_self ..))]
  exact insM_some l _ fun y hy => h y (List.mem_cons_of_mem _ hy)
def Agr (f : Fl) (F : Bs → Option (List Cl)) (done : List Nat) (m : Cm) : Prop := (∀ n, domB f done n → m.lookup n = F n) ∧ (∀ n, ¬ domB f done n → m.lookup n = none) ∧ (m.map (·.1)).Nodup
theorem not_dom {f : Fl} (hN : NmOk f) {done : List Nat} {k : Nat} (hk : k < f.jobs.length) (hd : ∀ x ∈ done, x < f.jobs.length) (hn : k ∉ done) {n : Bs} (hm : n ∈ (jb f k).outs) : ¬ domB f done n := by
 rw [jb_lt hk] at hm
 rintro (h | ⟨k', hk', h⟩)
 ·exact hN.apart h (List.mem_flatMap.2 ⟨_, List.getElem_mem hk, hm⟩)
 ·have h2 := hd k' hk'
  rw [jb_lt h2] at h
  have := mk_uniq hN.outs hk h2 hm h
  exact hn (this ▸ hk')
theorem outs_nodup {f : Fl} (hN : NmOk f) {k : Nat} (hk : k < f.jobs.length) : (jb f k).outs.Nodup := by
 rw [jb_lt hk]
 have h := hN.outs
 have : ∀ (js : List Jb), (js.flatMap (·.outs)).Nodup → ∀ j ∈ js, j.outs.Nodup := fun js => by
  induction js with
  | nil => intro _ j hj; cases hj
  | cons j js ih =>
   intro h j' hj'
   rw [List.flatMap_cons, List.nodup_append] at h
   rcases List.mem_cons.1 hj' with rfl | hj'
   ·exact h.1
   ·exact ih h.2.1 j' hj'
 exact this _ h _ (List.getElem_mem hk)
theorem ready_dom {f : Fl} {done : List Nat} {k : Nat} (h : readyB f done k = true) : ∀ n ∈ (jb f k).ins, domB f done n := fun n hn => by
 unfold readyB at h
 rw [List.all_eq_true] at h
 rcases thereB_iff.1 (h n hn) with h | ⟨k', h1, h2⟩
 ·exact .inl (insB_iff.1 h)
 ·exact .inr ⟨k', h2, (mkIx_some h1).2⟩
theorem agr_put {f : Fl} (hN : NmOk f) {F : Bs → Option (List Cl)} {done : List Nat} {m : Cm} {k : Nat} {cs : List (List Cl)} (hA : Agr f F done m) (hk : k < f.jobs.length) (hd : ∀ x ∈ done, x < f.jobs.length) (hn : k ∉ done)
  (hl : cs.length = (jb f k).outs.length) (hF : ∀ i (h : i < (jb f k).outs.length) (h' : i < cs.length), F (jb f k).outs[i] = some cs[i]) : Agr f F (done ++ [k]) (putM (jb f k).outs cs m) := by
 obtain ⟨a, b, c⟩ := hA
 obtain ⟨p1, p2, p3⟩ := lookup_putM (ns := (jb f k).outs) (cs := cs) (m := m) hl.symm (outs_nodup hN hk)
 have hdom : ∀ n, domB f (done ++ [k]) n ↔ domB f done n ∨ n ∈ (jb f k).outs := fun n => by
  unfold domB
  constructor
  ·rintro (h | ⟨x, hx, h⟩)
   ·exact .inl (.inl h)
   ·rcases List.mem_append.1 hx with hx | hx
    ·exact .inl (.inr ⟨x, hx, h⟩)
    ·rw [List.mem_singleton.1 hx] at h; exact .inr h
  ·rintro ((h | ⟨x, hx, h⟩) | h)
   ·exact .inl h
   ·exact .inr ⟨x, List.mem_append_left _ hx, h⟩
   ·exact .inr ⟨k, List.mem_append_right _ (List.mem_singleton.2 rfl), h⟩
 refine ⟨fun n h => ?_, fun n h => ?_, ?_⟩
 ·by_cases ho : n ∈ (jb f k).outs
  ·obtain ⟨i, hi, rfl⟩ := List.getElem_of_mem ho
   rw [p1 i hi (by omega), hF i hi (by omega)]
  ·rw [p2 n ho]
   exact a n (((hdom n).1 h).resolve_right ho)
 ·rw [p2 n fun ho => h ((hdom n).2 (.inr ho))]
  exact b n fun hh => h ((hdom n).2 (.inl hh))
 ·rw [p3, List.nodup_append]
  refine ⟨(List.reverse_perm _).nodup_iff.2 (outs_nodup hN hk), c, fun x hx y hy e => ?_⟩
  subst e
  have h0 := b x (not_dom hN hk hd hn (List.mem_reverse.1 hx))
  have : (m.lookup x).isSome = true := by
   clear h0 p1 p2 p3 a b c
   induction m with
   | nil => cases hy
   | cons q m ih =>
    obtain ⟨q1, q2⟩ := q
    rw [List.lookup_cons]
    by_cases hq : x = q1
    ·subst hq; simp
    ·have hq' : (x == q1) = false := by simpa using hq
     rw [hq']
     exact ih ((List.mem_cons.1 hy).resolve_left hq)
  rw [h0] at this
  cases this
theorem Valid.at {f : Fl} {done l : List Nat} {k : Nat} (h : Valid f (done ++ k :: l)) : readyB f done k = true ∧ k < f.jobs.length ∧ k ∉ done ∧ ∀ x ∈ done, x < f.jobs.length := by
 have h1 := h.ready done.length (by simp)
 rw [List.take_left' rfl, List.getElem_append_right (Nat.le_refl _)] at h1
 refine ⟨by simpa using h1, h.lt k (by simp), fun hh => ?_, fun x hx => h.lt x (List.mem_append_left _ hx)⟩
 have := h.nodup
 rw [List.nodup_append] at this
 exact this.2.2 k hh k (List.mem_cons_self ..) rfl
theorem jobsM_sol {f : Fl} (hN : NmOk f) {F : Bs → Option (List Cl)} (hF : Sol f F) : ∀ (l done : List Nat) (m : Cm), Valid f (done ++ l) → Agr f F done m → ∃ m', jobsM f l m = .ok m' ∧ Agr f F (done ++ l) m'
 | [], done, m, _, hA => ⟨m, rfl, by rw [List.append_nil]; exact hA⟩
 | k :: l, done, m, hv, hA => by
  obtain ⟨hr, hk, hn, hd⟩ := hv.at
  obtain ⟨cs, h1, h2⟩ := hF.jobs (jb f k) (by rw [jb_lt hk]; exact List.getElem_mem _)
  have e : (jb f k).ins.map (getM m) = (jb f k).ins.map fun n => (F n).getD [] := List.map_congr_left fun n hn => by
   unfold getM
   rw [hA.1 n (ready_dom hr n hn)]
  have hA' := agr_put hN hA hk hd hn (colsJ_len h1) h2
  obtain ⟨m', h3, h4⟩ := jobsM_sol hN hF l (done ++ [k]) _ (by rw [List.append_assoc]; exact hv) hA'
  refine ⟨m', ?_, by rw [List.append_assoc] at h4; exact h4⟩
  unfold jobsM
  rw [e, h1]
  exact h3
theorem jobsM_mono {f : Fl} (hN : NmOk f) : ∀ (l done : List Nat) (m m' : Cm), Valid f (done ++ l) → (∀ n, ¬ domB f done n → m.lookup n = none) → (m.map (·.1)).Nodup → jobsM f l m = .ok m' →
  (∀ n, domB f done n → m'.lookup n = m.lookup n) ∧ ∀ k ∈ l, ∃ cs, colsJ (jb f k) ((jb f k).ins.map (getM m')) = .ok cs ∧ ∀ i (h : i < (jb f k).outs.length) (h' : i < cs.length), m'.lookup (jb f k).outs[i] = some cs[i]
 | [], done, m, m', _, _, _, h => by cases h; exact ⟨fun _ _ => rfl, fun k hk => (by cases hk)⟩
 | k :: l, done, m, m', hv, hb, hc, h => by
  obtain ⟨hr, hk, hn, hd⟩ := hv.at
  unfold jobsM at h
  cases h1 : colsJ (jb f k) ((jb f k).ins.map (getM m)) with
  | error e => rw [h1] at h; cases h
  | ok cs =>
   rw [h1] at h
   have hl := colsJ_len h1
   obtain ⟨p1, p2, p3⟩ := lookup_putM (ns := (jb f k).outs) (cs := cs) (m := m) hl.symm (outs_nodup hN hk)
   have hA : Agr f (fun n => (putM (jb f k).outs cs m).lookup n) (done ++ [k]) (putM (jb f k).outs cs m) := by
    have hA0 : Agr f (fun n => (putM (jb f k).outs cs m).lookup n) done m := ⟨fun n hn' => (p2 n fun ho => not_dom hN hk hd hn ho hn').symm, hb, hc⟩
    exact agr_put hN hA0 hk hd hn hl p1
   obtain ⟨q1, q2⟩ := jobsM_mono hN l (done ++ [k]) _ m' (by rw [List.append_assoc]; exact hv) hA.2.1 hA.2.2 h
   have hstep : ∀ n, domB f done n → m'.lookup n = m.lookup n := fun n hd' => by
    rw [q1 n (by
     rcases hd' with h | ⟨x, hx, h⟩
     ·exact .inl h
     ·exact .inr ⟨x, List.mem_append_left _ hx, h⟩)]
    exact p2 n fun ho => not_dom hN hk hd hn ho hd'
   refine ⟨hstep, fun x hx => ?_⟩
   rcases List.mem_cons.1 hx with rfl | hx
   ·refine ⟨cs, ?_, fun i hi hi' => ?_⟩
    ·rw [← h1]
     congr 1
     exact List.map_congr_left fun n hn' => by unfold getM; rw [hstep n (ready_dom hr n hn')]
    ·rw [q1 _ (.inr ⟨x, List.mem_append_right _ (List.mem_singleton.2 rfl), List.getElem_mem hi⟩), p1 i hi hi']
   ·exact q2 x hx
theorem check_parts {f : Fl} {m : Cm} (h : checkP f = .ok m) : ∃ m0 l, insM f.ins [] = .ok m0 ∧ NmOk f ∧ orderP f = .ok l ∧ jobsM f l m0 = .ok m := by
 unfold checkP at h
 cases h1 : insM f.ins [] with
 | error e => rw [h1] at h; cases h
 | ok m0 =>
  rw [h1] at h
  simp only [bind, Except.bind] at h
  cases h2 : namesC f with
  | error e => rw [h2] at h; cases h
  | ok u =>
   rw [h2] at h
   simp only at h
   cases h3 : orderP f with
   | error e => rw [h3] at h; cases h
   | ok l =>
    rw [h3] at h
    exact ⟨m0, l, rfl, namesC_iff.1 h2, rfl, h⟩
theorem agr0 {f : Fl} (hN : NmOk f) {F : Bs → Option (List Cl)} (hF : ∀ x ∈ f.ins, F x.name = some x.cols) {m0 : Cm} (h : insM f.ins [] = .ok m0) : Agr f F [] m0 := by
 have hn : (f.ins.map (·.name)).Nodup := by
  have := hN.nodup
  unfold allN at this
  rw [List.nodup_append] at this
  exact this.1
 obtain ⟨a, b, c, d⟩ := insM_ok h hn
 refine ⟨fun n hd => ?_, fun n hd => ?_, ?_⟩
 ·rcases hd with hd | ⟨k, hk, _⟩
  ·obtain ⟨x, hx, rfl⟩ := List.mem_map.1 hd
   rw [a x hx, hF x hx]
  ·cases hk
 ·exact b n fun hh => hd (.inl hh)
 ·rw [c, List.map_nil, List.append_nil]
  exact (List.reverse_perm _).nodup_iff.2 hn
structure ChkOk (f : Fl) (m : Cm) : Prop where
 cols : ∀ x ∈ f.ins, colsB x.cols = true
 names : NmOk f
 ranked : Ranked f
 sol : Sol f fun n => m.lookup n
 keys : (m.map (·.1)).Nodup
theorem dom_full {f : Fl} {l : List Nat} (hv : Valid f l) (hl : l.length = f.jobs.length) {n : Bs} (h : n ∈ allN f) : domB f l n := by
 unfold allN at h
 rcases List.mem_append.1 h with h | h
 ·exact .inl h
 ·obtain ⟨j, hj, hn⟩ := List.mem_flatMap.1 h
  obtain ⟨k, hk, rfl⟩ := List.getElem_of_mem hj
  exact .inr ⟨k, full_mem hv.nodup hv.lt hl k hk, by rw [jb_lt hk]; exact hn⟩
theorem check_ok {f : Fl} {m : Cm} (h : checkP f = .ok m) : ChkOk f m := by
 obtain ⟨m0, l, h1, hN, h3, h4⟩ := check_parts h
 obtain ⟨hv, hl⟩ := orderP_ok h3
 have hn : (f.ins.map (·.name)).Nodup := by
  have := hN.nodup
  unfold allN at this
  rw [List.nodup_append] at this
  exact this.1
 obtain ⟨a, b, c, d⟩ := insM_ok h1 hn
 have hA := agr0 hN (F := fun n => m0.lookup n) a h1
 obtain ⟨q1, q2⟩ := jobsM_mono hN l [] m0 m hv hA.2.1 hA.2.2 h4
 have hins : ∀ x ∈ f.ins, m.lookup x.name = some x.cols := fun x hx => by rw [q1 _ (.inl (List.mem_map.2 ⟨x, hx, rfl⟩)), a x hx]
 have hjobs : ∀ j ∈ f.jobs, ∃ cs, colsJ j (j.ins.map fun n => (m.lookup n).getD []) = .ok cs ∧ ∀ i (h : i < j.outs.length) (h' : i < cs.length), m.lookup j.outs[i] = some cs[i] := fun j hj => by
  obtain ⟨k, hk, rfl⟩ := List.getElem_of_mem hj
  obtain ⟨cs, e1, e2⟩ := q2 k (full_mem hv.nodup hv.lt hl k hk)
  rw [jb_lt hk] at e1
  have e2' : ∀ i (h : i < f.jobs[k].outs.length) (h' : i < cs.length), m.lookup f.jobs[k].outs[i] = some cs[i] := by
   have e3 := jb_lt hk
   intro i h h'
   have := e2 i (by rw [e3]; exact h) h'
   simpa only [e3] using this
  exact ⟨cs, e1, e2'⟩
 obtain ⟨m', h5, h6⟩ := jobsM_sol (F := fun n => if n ∈ allN f then m.lookup n else none) hN ⟨fun x hx => by
   show (if x.name ∈ allN f then m.lookup x.name else none) = some x.cols
   rw [if_pos (by unfold allN; exact List.mem_append_left _ (List.mem_map.2 ⟨x, hx, rfl⟩)), hins x hx], fun j hj => by
   obtain ⟨cs, e1, e2⟩ := hjobs j hj
   refine ⟨cs, ?_, fun i hi hi' => ?_⟩
   ·rw [← e1]
    congr 1
    exact List.map_congr_left fun n hn' => by rw [if_pos (hN.ins j hj n hn')]
   ·show (if j.outs[i] ∈ allN f then m.lookup j.outs[i] else none) = some cs[i]
    rw [if_pos (by unfold allN; exact List.mem_append_right _ (List.mem_flatMap.2 ⟨j, hj, List.getElem_mem hi⟩)), e2 i hi hi'], fun n hn' => by
   show (if n ∈ allN f then m.lookup n else none) = none
   rw [if_neg hn']⟩ l [] m0 hv (agr0 hN (fun x hx => by
   show (if x.name ∈ allN f then m.lookup x.name else none) = some x.cols
   rw [if_pos (by unfold allN; exact List.mem_append_left _ (List.mem_map.2 ⟨x, hx, rfl⟩)), hins x hx]) h1)
 rw [h4] at h5
 cases h5
 exact ⟨d, hN, ranked_of hv hl, ⟨hins, hjobs, fun n hn' => h6.2.1 n fun hd => hn' (domB_all (fun k hk => hv.lt k hk) hd)⟩, h6.2.2⟩
theorem check_of {f : Fl} (hc : ∀ x ∈ f.ins, colsB x.cols = true) (hN : NmOk f) (hr : Ranked f) {F : Bs → Option (List Cl)} (hF : Sol f F) : ∃ m l, checkP f = .ok m ∧ orderP f = .ok l ∧ Valid f l ∧ l.length = f.jobs.length ∧ (∀ n, m.lookup n = F n) ∧ (m.map (·.1)).Nodup := by
 obtain ⟨m0, h1⟩ := insM_some f.ins [] hc
 obtain ⟨l, h3⟩ := orderP_some hN.outs hr
 obtain ⟨hv, hl⟩ := orderP_ok h3
 obtain ⟨m, h4, h5⟩ := jobsM_sol hN hF l [] m0 hv (agr0 hN hF.ins h1)
 refine ⟨m, l, ?_, h3, hv, hl, fun n => ?_, h5.2.2⟩
 ·unfold checkP
  rw [h1]
  simp only [bind, Except.bind]
  rw [namesC_iff.2 hN]
  simp only
  rw [h3]
  exact h4
 ·by_cases hn : n ∈ allN f
  ·exact h5.1 n (dom_full hv hl hn)
  ·rw [h5.2.1 n (fun hd => hn (domB_all (fun k hk => hv.lt k hk) hd)), hF.none n hn]
end Go.Proofs.YtnjjajanfedjiaaGreatDoor
namespace Go.Proofs.YtnjjajanfedjiaaGreatDoor
open Go.RowKit Go.Maps
def asIs (v : Value) : Option (DataW Value × List MemPlace) := some (.held v, [])
def MapV (P : Program) (K : TypeId) (w : World) (b n : Nat) (m : Int → Option Value) : Prop :=
 ∃ D : DataW Value, w.ownsMap P K asIs b n D ∧ ∀ k : Int, (Lit.int .i64 k).wf = true → Maps.has D (.int .i64 k) = (m k).isSome ∧ ∀ v, m k = some v → ∀ z, D.atKey (.int .i64 k) z = .held v
section
variable {P : Program} {T K E : TypeId} {w w' : World} {b n : Nat} {m : Int → Option Value}
theorem MapV.lt (h : MapV P K w b n m) : b < w.heap.size := by obtain ⟨D, h, _⟩ := h; exact h.lt
theorem MapV.made (w : World) : MapV P K (w.alloc (.map #[] 0)) w.heap.size 0 fun _ => none :=
 ⟨_, World.ownsMap_made w _ _ _, fun k _ => ⟨rfl, fun _ h => by cases h⟩⟩
theorem MapV.of_block (h : MapV P K w b n m) (hb : w'.heap[b]? = w.heap[b]?) : MapV P K w' b n m := by
 obtain ⟨D, ⟨es, clock, h1, h2⟩, h3⟩ := h
 exact ⟨D, ⟨es, clock, hb.trans h1, h2⟩, h3⟩
theorem MapV.keep {L : List Nat} (h : MapV P K w b n m) (hk : Keeps L w w') (hb : b ∉ L) : MapV P K w' b n m := h.of_block (hk.block b h.lt hb)
theorem MapV.mono (h : MapV P K w b n m) {n' : Nat} (hn : n ≤ n') : MapV P K w b n' m := by
 obtain ⟨D, h1, h2⟩ := h
 exact ⟨D, h1.mono hn, h2⟩
theorem MapV.congr {m' : Int → Option Value} (h : MapV P K w b n m) (e : m = m') : MapV P K w b n m' := e ▸ h
theorem MapV.look (h : MapV P K w b n m) (hT : P.underlying T = some (.map K E)) (hK : P.underlying K = some (.int .i64)) {z : Value} (hz : (zeroValue E).run P w = .ok z w) (k : Int) (hk : (Lit.int .i64 k).wf = true) :
  (Instr.lookup T (.map (some b)) (.int .i64 k) false).run P w = .ok ((m k).getD z) w := by
 obtain ⟨D, h1, h2⟩ := h
 have hkey : keyOf P K (.int .i64 k) = some (.int .i64 k) := keyOf_int_mk hK hk
 obtain ⟨v, ps, hrun, hv⟩ := h1.lookup (int_keyed hK) hT hz (zd := .held z) (zp := []) rfl hkey
 rw [hrun]
 have hv' : DataW.held v = D.atKey (.int .i64 k) (.held z) := by
  injection hv with hv
  exact congrArg Prod.fst hv
 cases hm : m k with
 | some u =>
  rw [(h2 k hk).2 u hm] at hv'
  injection hv' with e
  rw [e]; rfl
 | none =>
  have h0 : Maps.has D (.int .i64 k) = false := by rw [(h2 k hk).1, hm]; rfl
  rw [atKey_of_not_has h0] at hv'
  injection hv' with e
  rw [e]; rfl
theorem MapV.store (h : MapV P K w b n m) (hT : P.underlying T = some (.map K E)) (hK : P.underlying K = some (.int .i64)) (k : Int) (v : Value) (hk : (Lit.int .i64 k).wf = true) (hn : n < maxLen) :
  ∃ w', (Instr.mapUpdate T (.map (some b)) (.int .i64 k) v).run P w = .ok () w' ∧ MapV P K w' b (n + 1) (fun x => if x = k then some v else m x) ∧ w.grownBy w' (some b) := by
 obtain ⟨D, h1, h2⟩ := h
 have hkey : keyOf P K (.int .i64 k) = some (.int .i64 k) := keyOf_int_mk hK hk
 obtain ⟨w', hrun, h3, h4⟩ := h1.update (int_keyed hK) hT hn hkey (d := .held v) (ps := []) rfl
 have hm := h1.isMap
 refine ⟨w', hrun, ⟨_, h3, fun x hx0 => ?_⟩, h4⟩
 by_cases hx : x = k
 ·subst hx
  simp only [if_pos]
  exact ⟨by rw [has_put_same hm (by trivial)]; rfl, fun u hu z => by
   cases hu
   rw [atKey_put_same hm (by trivial)]⟩
 ·have hne : (Lit.int IntKind.i64 x) ≠ Lit.int .i64 k := fun e => hx (by injection e)
  simp only [if_neg hx]
  refine ⟨?_, fun u hu z => ?_⟩
  ·rw [has_put_other hne]; exact (h2 x hx0).1
  ·rw [atKey_put_other hne]; exact (h2 x hx0).2 u hu z
end
end Go.Proofs.YtnjjajanfedjiaaGreatDoor
namespace Go.Proofs.YtnjjajanfedjiaaGreatDoor
open Go.RowKit Go.Maps
def cntH {β : Type} : List (Bs × β) → Nat
 | [] => 0
 | x :: m => if (m.lookup x.1).isSome then cntH m else cntH m + 1
theorem lookup_isSome {β : Type} {m : List (Bs × β)} {k : Bs} : (m.lookup k).isSome = true ↔ k ∈ m.map (·.1) := by
 induction m with
 | nil => simp
 | cons x m ih =>
  obtain ⟨a, b⟩ := x
  rw [List.lookup_cons]
  by_cases h : k = a
  ·subst h; simp
  ·have : (k == a) = false := by simpa using h
   rw [this]
   simp [ih, h]
theorem cntH_nodup {β : Type} : ∀ {m : List (Bs × β)}, (m.map (·.1)).Nodup → cntH m = m.length
 | [], _ => rfl
 | x :: m, h => by
  rw [List.map_cons, List.nodup_cons] at h
  have : ¬ (m.lookup x.1).isSome = true := fun hh => h.1 (lookup_isSome.1 hh)
  rw [cntH, if_neg this, cntH_nodup h.2, List.length_cons]
def MapH (P : Program) (S : TypeId) (w : World) (b : Nat) (m : List (Bs × Value)) : Prop :=
 ∃ D : DataW Value, w.ownsMap P S asIs b m.length D ∧ Maps.Tidy D ∧ Maps.size D = cntH m ∧ ∀ k : Bs, Maps.has D (.string k) = (m.lookup k).isSome ∧ ∀ v, m.lookup k = some v → ∀ z, D.atKey (.string k) z = .held v
section
variable {P : Program} {T S E : TypeId} {w w' : World} {b : Nat} {m : List (Bs × Value)}
theorem MapH.lt (h : MapH P S w b m) : b < w.heap.size := by obtain ⟨D, h, _⟩ := h; exact h.lt
theorem MapH.made (w : World) : MapH P S (w.alloc (.map #[] 0)) w.heap.size [] :=
 ⟨_, World.ownsMap_made w _ _ _, Maps.tidy_empty, rfl, fun k => ⟨rfl, fun _ h => by cases h⟩⟩
theorem MapH.of_block (h : MapH P S w b m) (hb : w'.heap[b]? = w.heap[b]?) : MapH P S w' b m := by
 obtain ⟨D, ⟨es, clock, h1, h2⟩, h3⟩ := h
 exact ⟨D, ⟨es, clock, hb.trans h1, h2⟩, h3⟩
theorem MapH.keep {L : List Nat} (h : MapH P S w b m) (hk : Keeps L w w') (hb : b ∉ L) : MapH P S w' b m := h.of_block (hk.block b h.lt hb)
theorem MapH.drew (h : MapH P S w b m) : MapH P S w.drew b m := h
theorem MapH.look0 (h : MapH P S w b m) (hT : P.underlying T = some (.map S E)) (hS : P.underlying S = some .string) {z : Value} (hz : (zeroValue E).run P w = .ok z w) (k : Bs) (hk : k.length ≤ maxLen) :
  (Instr.lookup T (.map (some b)) (.string (bs k)) false).run P w = .ok ((m.lookup k).getD z) w := by
 obtain ⟨D, h1, _, _, h2⟩ := h
 have hkey : keyOf P S (.string (bs k)) = some (.string k) := WideMaps.keyOf_string_mk hS (by rw [bs_size]; exact hk)
 obtain ⟨v, ps, hrun, hv⟩ := h1.lookup (string_keyed hS) hT hz (zd := .held z) (zp := []) rfl hkey
 rw [hrun]
 have hv' : DataW.held v = D.atKey (.string k) (.held z) := by
  injection hv with hv
  exact congrArg Prod.fst hv
 cases hm : m.lookup k with
 | some u =>
  rw [(h2 k).2 u hm] at hv'
  injection hv' with e
  rw [e]; rfl
 | none =>
  have h0 : Maps.has D (.string k) = false := by rw [(h2 k).1, hm]; rfl
  rw [atKey_of_not_has h0] at hv'
  injection hv' with e
  rw [e]; rfl
theorem MapH.look (h : MapH P S w b m) (hT : P.underlying T = some (.map S E)) (hS : P.underlying S = some .string) {z : Value} (hz : (zeroValue E).run P w = .ok z w) (k : Bs) (hk : k.length ≤ maxLen) :
  (Instr.lookup T (.map (some b)) (.string (bs k)) true).run P w = .ok (.tuple #[(m.lookup k).getD z, .bool (m.lookup k).isSome]) w := by
 obtain ⟨D, h1, _, _, h2⟩ := h
 have hkey : keyOf P S (.string (bs k)) = some (.string k) := WideMaps.keyOf_string_mk hS (by rw [bs_size]; exact hk)
 obtain ⟨v, ps, hrun, hv⟩ := h1.look_ok (string_keyed hS) hT hz (zd := .held z) (zp := []) rfl hkey
 rw [hrun, (h2 k).1]
 have hv' : DataW.held v = D.atKey (.string k) (.held z) := by
  injection hv with hv
  exact congrArg Prod.fst hv
 cases hm : m.lookup k with
 | some u =>
  rw [(h2 k).2 u hm] at hv'
  injection hv' with e
  rw [e]; rfl
 | none =>
  have h0 : Maps.has D (.string k) = false := by rw [(h2 k).1, hm]; rfl
  rw [atKey_of_not_has h0] at hv'
  injection hv' with e
  rw [e]; rfl
theorem lookup_put {β : Type} (m : List (Bs × β)) (k : Bs) (v : β) (x : Bs) : ((k, v) :: m).lookup x = if x = k then some v else m.lookup x := by
 rw [List.lookup_cons]
 by_cases h : x = k
 ·subst h; simp
 ·have : (x == k) = false := by simpa using h
  rw [this, if_neg h]
theorem MapH.store (h : MapH P S w b m) (hT : P.underlying T = some (.map S E)) (hS : P.underlying S = some .string) (k : Bs) (v : Value) (hk : k.length ≤ maxLen) (hn : m.length < maxLen) :
  ∃ w', (Instr.mapUpdate T (.map (some b)) (.string (bs k)) v).run P w = .ok () w' ∧ MapH P S w' b ((k, v) :: m) ∧ w.grownBy w' (some b) := by
 obtain ⟨D, h1, ht, hs, h2⟩ := h
 have hkey : keyOf P S (.string (bs k)) = some (.string k) := WideMaps.keyOf_string_mk hS (by rw [bs_size]; exact hk)
 obtain ⟨w', hrun, h3, h4⟩ := h1.update (string_keyed hS) hT hn hkey (d := .held v) (ps := []) rfl
 refine ⟨w', hrun, ⟨_, h3, ht.put (by trivial) _, ?_, fun x => ?_⟩, h4⟩
 ·rw [size_put ht, hs, (h2 k).1]
  rfl
 ·rw [lookup_put]
  by_cases hx : x = k
  ·subst hx
   simp only [if_pos]
   exact ⟨by rw [has_put_same ht.isMap (by trivial)]; rfl, fun u hu z => by
    cases hu
    rw [atKey_put_same ht.isMap (by trivial)]⟩
  ·have hne : (Lit.string x) ≠ Lit.string k := fun e => hx (by injection e)
   simp only [if_neg hx]
   refine ⟨?_, fun u hu z => ?_⟩
   ·rw [has_put_other hne]; exact (h2 x).1
   ·rw [atKey_put_other hne]; exact (h2 x).2 u hu z
theorem MapH.len (h : MapH P S w b m) (hT : P.underlying T = some (.map S E)) (ty : TypeId) : (Builtin.len_ #[T] ty #[.map (some b)]).run P w = .ok (.int .i64 (cntH m)) w := by
 obtain ⟨D, h1, _, hs, _⟩ := h
 rw [h1.len hT ty, hs]
def RangeH (P : Program) (S : TypeId) (w : World) (b r : Nat) (m : List (Bs × Value)) (L : Bs → Bool) (cnt : Nat) : Prop :=
 ∃ D : DataW Value, ∃ left, w.ranges P S asIs b r m.length D left cnt ∧ (∀ k, left (.string k) = L k) ∧ ∀ k : Bs, Maps.has D (.string k) = (m.lookup k).isSome ∧ ∀ v, m.lookup k = some v → ∀ z, D.atKey (.string k) z = .held v
theorem RangeH.left_eq {r cnt : Nat} {L : Bs → Bool} (h : RangeH P S w b r m L cnt) : w.rangeLeft b r = cnt := by
 obtain ⟨D, left, h1, _⟩ := h
 exact h1.left_eq
theorem RangeH.lt {r cnt : Nat} {L : Bs → Bool} (h : RangeH P S w b r m L cnt) : r < w.heap.size := by
 obtain ⟨D, left, h1, _⟩ := h
 exact h1.lt
theorem RangeH.kept {r cnt : Nat} {L : Bs → Bool} {Ls : List Nat} (h : RangeH P S w b r m L cnt) (hk : Keeps Ls w w') (h1 : b ∉ Ls) (h2 : r ∉ Ls) : RangeH P S w' b r m L cnt := by
 obtain ⟨D, left, hr, h3⟩ := h
 refine ⟨D, left, ?_, h3⟩
 have hl := hr.lt
 have hb := hr.owns.lt
 obtain ⟨es, clock, since, seen, c0, g1, g2, g3, g4, g5, g6⟩ := hr
 exact ⟨es, clock, since, seen, c0, (hk.block b hb h1).trans g1, g2, g3, g4, (hk.block r hl h2).trans g5, g6⟩
theorem keyOf_string_inv (hS : P.underlying S = some .string) {key : Value} {kl : Lit} (h : keyOf P S key = some kl) : ∃ k : Bs, key = .string (bs k) ∧ kl = .string k := by
 cases key <;> simp [keyOf, hS, mapKey] at h
 case string s =>
  obtain ⟨_, rfl⟩ := h
  exact ⟨s.data.toList, congrArg Value.string (bs_data s).symm, rfl⟩
theorem wpList_range_h {ops : Array Oper} {rest : List Oper} {o : Oper} {a : Act} {Q : Exit → Act → World → Prop} (hg : o.guard = none) (x : Operand) (hop : o.op = Op.range T x) (hT : P.underlying T = some (.map S E)) (hS : P.underlying S = some .string)
  (hm : a.eval x = .map (some b)) (h : MapH P S w b m)
  (hK : ∀ w', RangeH P S w' b w.heap.size m (fun k => (m.lookup k).isSome) (cntH m) → Keeps [] w w' → w'.heap.size = w.heap.size + 1 → wpList P ops Q rest (a.put o.dst (.pointer (some ⟨w.heap.size, 0, none⟩))) w') :
  wpList P ops Q (o :: rest) a w := by
 obtain ⟨D, h1, ht, hs, h2⟩ := h
 refine wpList_plain hg fun K' hK' => ?_
 obtain ⟨w', hrun, r1, r2, r3⟩ := h1.range (string_keyed hS) hT
 unfold Oper.wp
 simp [execOp, hop, hm, hrun, Result.andThen]
 refine hK' _ _ (hK w' ⟨D, _, by rw [← hs]; exact r1, fun k => (h2 k).1, h2⟩ (Keeps.grown (Keeps.refl _ _) r2 (fun g hg => by cases hg)) r3)
theorem wpList_next_h {ops : Array Oper} {rest : List Oper} {o : Oper} {a : Act} {Q : Exit → Act → World → Prop} (hg : o.guard = none) (it : Operand) (hop : o.op = Op.next it false) (hS : P.underlying S = some .string) {r cnt : Nat} {L : Bs → Bool}
  (hit : a.eval it = .pointer (some ⟨r, 0, none⟩)) (h : RangeH P S w b r m L cnt)
  (hDone : cnt = 0 → (∀ k, L k = false) → wpList P ops Q rest (a.put o.dst (.tuple #[.bool false])) w)
  (hMore : ∀ (k : Bs) (v : Value) (w' : World) (cnt' : Nat), L k = true → m.lookup k = some v → RangeH P S w' b r m (fun x => L x && !(x == k)) cnt' → cnt' < cnt → Keeps [r] w w' → w'.heap.size = w.heap.size →
   (Instr.entry (.pointer (some ⟨r, 0, none⟩))).run P w' = .ok (.tuple #[.string (bs k), v]) w' → wpList P ops Q rest (a.put o.dst (.tuple #[.bool true, .string (bs k), v])) w') :
  wpList P ops Q (o :: rest) a w := by
 obtain ⟨D, left, hr, hL, h2⟩ := h
 refine wpList_plain hg fun K' hK' => ?_
 unfold Oper.wp
 rcases hr.next (string_keyed hS) o.type with ⟨h0, hl, hrun⟩ | ⟨key, v, kl, y, w', cnt', hkey, hlk, hv, hat, hrun, hrg, hlt, hgr, hsz, hen⟩
 ·simp [execOp, hop, hit, hrun, Result.andThen]
  exact hK' _ _ (hDone h0 fun k => (hL k).symm.trans (hl _))
 ·obtain ⟨k, rfl, rfl⟩ := keyOf_string_inv hS hkey
  simp [execOp, hop, hit, hrun, Result.andThen]
  have hy : y = (.held v, []) := by injection hv with hv; exact hv.symm
  subst hy
  have hhas : Maps.has D (.string k) = true := has_true_of_atKey hat
  have hsome := (h2 k).1
  rw [hhas] at hsome
  obtain ⟨u, hu⟩ := Option.isSome_iff_exists.1 hsome.symm
  have huv := (h2 k).2 u hu (.held v)
  rw [hat] at huv
  injection huv with huv
  subst huv
  refine hK' _ _ (hMore k v w' cnt' ((hL k).symm.trans hlk) hu ⟨D, _, hrg, fun x => ?_, h2⟩ hlt (Keeps.grown (Keeps.refl _ _) hgr (fun g hg => .inl (by injection hg with hg; simp [hg]))) hsz hen)
  show (left (.string x) && !(Lit.string x).sameKey (.string k)) = _
  rw [hL x]
  rfl
end
end Go.Proofs.YtnjjajanfedjiaaGreatDoor
