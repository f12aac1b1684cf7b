/- Plans: with its jobs in another order, and with one job more: plain. No program in sight. plan.maker and plan.Ready. Structs of many cells that are boxed inside a region: loads and stores of all cells at once, by short words. No program in sight. -/
import Derived.Test.YtnjjajanfedjiaaGreatDoorPmoM20
import Derived.Test.YtnjjajanfedjiaaGreatDoorPmoM18
import Derived.Test.YtnjjajanfedjiaaGreatDoorPmoM19
import Derived.Test.YtnjjajanfedjiaaGreatDoorPmoM1
import Derived.Laws.IdiomCopy
import Derived.Deep.MidRow
set_option linter.unusedSimpArgs false
set_option linter.unusedVariables false
namespace Go.Proofs.YtnjjajanfedjiaaGreatDoor
def newJ (name inp : Bs) : Jb := ⟨0, 6, [name], [inp], [], [], ⟨[], zV⟩, ⟨[], zV⟩, 0⟩
def moreF (f : Fl) (name : Bs) : Fl := ⟨f.ins, newJ name ((f.ins.headD ⟨0, [], []⟩).name) :: f.jobs, f.outs⟩
theorem jb_more (f : Fl) (name : Bs) (k : Nat) : jb (moreF f name) (k + 1) = jb f k := rfl
theorem mkIx_more {f : Fl} {name n : Bs} (hn : n ≠ name) : mkIx (moreF f name) n = (mkIx f n).map (· + 1) := by
 unfold mkIx moreF
 rw [List.findIdx?_cons]
 have : (newJ name ((f.ins.headD ⟨0, [], []⟩).name)).outs.contains n = false := by
  show [name].contains n = false
  simp [hn]
 rw [this]
 rfl
theorem there_more {f : Fl} {name n : Bs} (hn : n ≠ name) (out : List Nat) : thereB (moreF f name) (0 :: out.map (· + 1)) n = thereB f out n := by
 unfold thereB
 rw [mkIx_more hn]
 congr 1
 cases mkIx f n with
 | none => rfl
 | some k =>
  show (0 :: out.map (· + 1)).contains (k + 1) = out.contains k
  rw [Bool.eq_iff_iff]
  simp
theorem ready_more {f : Fl} {name : Bs} (h : ∀ j ∈ f.jobs, ∀ n ∈ j.ins, n ≠ name) (out : List Nat) {k : Nat} (hk : k < f.jobs.length) : readyB (moreF f name) (0 :: out.map (· + 1)) (k + 1) = readyB f out k := by
 unfold readyB
 rw [jb_more, jb_lt hk, Bool.eq_iff_iff, List.all_eq_true, List.all_eq_true]
 exact ⟨fun hh n hn => by rw [← there_more (h _ (List.getElem_mem hk) n hn)]; exact hh n hn, fun hh n hn => by rw [there_more (h _ (List.getElem_mem hk) n hn)]; exact hh n hn⟩
theorem find_map_succ (p : Nat → Bool) (q : Nat → Bool) : ∀ (l : List Nat), (∀ k ∈ l, p (k + 1) = q k) → (l.map (· + 1)).find? p = (l.find? q).map (· + 1)
 | [], _ => rfl
 | x :: l, h => by
  rw [List.map_cons, List.find?_cons, List.find?_cons, h x (List.mem_cons_self ..)]
  cases q x with
  | true => rfl
  | false => exact find_map_succ p q l fun k hk => h k (List.mem_cons_of_mem _ hk)
theorem next_more {f : Fl} {name : Bs} (h : ∀ j ∈ f.jobs, ∀ n ∈ j.ins, n ≠ name) (out : List Nat) : nextI (moreF f name) (0 :: out.map (· + 1)) = (nextI f out).map (· + 1) := by
 unfold nextI
 rw [show (moreF f name).jobs.length = f.jobs.length + 1 by simp [moreF], List.range_succ_eq_map, List.find?_cons]
 have e0 : (!(0 :: out.map (· + 1)).contains 0 && readyB (moreF f name) (0 :: out.map (· + 1)) 0) = false := by simp
 rw [e0]
 exact find_map_succ _ _ _ fun k hk => by
  rw [ready_more h out (List.mem_range.1 hk)]
  congr 1
  rw [Bool.eq_iff_iff]
  simp
theorem order_more {f : Fl} {name : Bs} (h : ∀ j ∈ f.jobs, ∀ n ∈ j.ins, n ≠ name) : ∀ (n : Nat) (out l : List Nat), orderGo f n out = .ok l → orderGo (moreF f name) n (0 :: out.map (· + 1)) = .ok (0 :: l.map (· + 1))
 | 0, out, l, hh => by cases hh; rfl
 | n + 1, out, l, hh => by
  unfold orderGo at hh ⊢
  rw [next_more h]
  cases hk : nextI f out with
  | none => rw [hk] at hh; cases hh
  | some k =>
   rw [hk] at hh
   have := order_more h n (out ++ [k]) l hh
   rw [List.map_append] at this
   exact this
theorem next_first {f : Fl} {name : Bs} (hi : f.ins ≠ []) : nextI (moreF f name) [] = some 0 := by
 unfold nextI
 rw [show (moreF f name).jobs.length = f.jobs.length + 1 by simp [moreF], List.range_succ_eq_map, List.find?_cons]
 have : readyB (moreF f name) [] 0 = true := by
  unfold readyB
  rw [List.all_eq_true]
  intro n hn
  have hn' : n = (f.ins.headD ⟨0, [], []⟩).name := List.mem_singleton.1 hn
  refine thereB_iff.2 (.inl (insB_iff.2 ?_))
  cases hf : f.ins with
  | nil => exact absurd hf hi
  | cons x l =>
   rw [hn', hf]
   show x.name ∈ (moreF f name).ins.map (·.name)
   show x.name ∈ f.ins.map (·.name)
   rw [hf]
   simp
 rw [this]
 rfl
theorem more_check {f : Fl} {m : Cm} {name : Bs} (h : checkP f = .ok m) (hi : f.ins ≠ []) (hn : name ∉ allN f) :
  ∃ m' l, checkP (moreF f name) = .ok m' ∧ orderP f = .ok l ∧ orderP (moreF f name) = .ok (0 :: l.map (· + 1)) ∧ (∀ n, m'.lookup n = if n = name then some (f.ins.headD ⟨0, [], []⟩).cols else m.lookup n) ∧ (m'.map (·.1)).Nodup ∧ m'.length = m.length + 1 := by
 obtain ⟨h1, h2, h3, h4, h5⟩ := check_ok h
 obtain ⟨x0, hx0, hx⟩ : ∃ x0, x0 ∈ f.ins ∧ f.ins.headD ⟨0, [], []⟩ = x0 := by
  cases hf : f.ins with
  | nil => exact absurd hf hi
  | cons x l => exact ⟨x, List.mem_cons_self .., rfl⟩
 have hall : allN (moreF f name) = f.ins.map (·.name) ++ (name :: f.jobs.flatMap (·.outs)) := rfl
 have hmem : ∀ n, n ∈ allN (moreF f name) ↔ n = name ∨ n ∈ allN f := fun n => by
  rw [hall]
  unfold allN
  simp only [List.mem_append, List.mem_cons]
  constructor
  ·rintro (h | h | h)
   ·exact .inr (.inl h)
   ·exact .inl h
   ·exact .inr (.inr h)
  ·rintro (h | h | h)
   ·exact .inr (.inl h)
   ·exact .inl h
   ·exact .inr (.inr h)
 have hne : ∀ n ∈ allN f, n ≠ name := fun n hh e => hn (e ▸ hh)
 have hin : ∀ x ∈ f.ins, x.name ∈ allN f := fun x hx => by unfold allN; exact List.mem_append_left _ (List.mem_map.2 ⟨x, hx, rfl⟩)
 have hN : NmOk (moreF f name) := by
  refine ⟨?_, fun j hj n hh => ?_, fun x hx => (hmem _).2 (.inr (h2.src x hx)), h2.told⟩
  ·have hp : (allN (moreF f name)).Perm (name :: allN f) := by
    rw [hall]
    unfold allN
    exact List.perm_middle
   exact hp.nodup_iff.2 (List.nodup_cons.2 ⟨hn, h2.nodup⟩)
  ·rcases List.mem_cons.1 hj with rfl | hj
   ·obtain rfl : n = (f.ins.headD ⟨0, [], []⟩).name := List.mem_singleton.1 hh
    rw [hx]
    exact (hmem _).2 (.inr (hin _ hx0))
   ·exact (hmem _).2 (.inr (h2.ins j hj n hh))
 obtain ⟨r, hr⟩ := h3
 have hne2 : ∀ j ∈ f.jobs, ∀ n ∈ j.ins, n ≠ name := fun j hj n hh => hne n (h2.ins j hj n hh)
 have hoj : ∀ j ∈ f.jobs, ∀ n ∈ j.outs, n ∈ allN f := fun j hj n hh => by unfold allN; exact List.mem_append_right _ (List.mem_flatMap.2 ⟨j, hj, hh⟩)
 have hR : Ranked (moreF f name) := ⟨r, fun j hj n hh => by
  rcases List.mem_cons.1 hj with rfl | hj
  ·obtain rfl : n = (f.ins.headD ⟨0, [], []⟩).name := List.mem_singleton.1 hh
   rw [hx]
   exact .inl (List.mem_map.2 ⟨x0, hx0, rfl⟩)
  ·rcases hr j hj n hh with h | ⟨d, hd, h⟩
   ·exact .inl h
   ·exact .inr ⟨d, List.mem_cons_of_mem _ hd, h⟩⟩
 have hS : Sol (moreF f name) fun n => if n = name then some (f.ins.headD ⟨0, [], []⟩).cols else m.lookup n := by
  refine ⟨fun x hx' => ?_, fun j hj => ?_, fun n hh => ?_⟩
  ·show (if x.name = name then _ else _) = _
   rw [if_neg (hne _ (hin x hx'))]
   exact h4.ins x hx'
  ·rcases List.mem_cons.1 hj with rfl | hj
   ·refine ⟨[x0.cols], ?_, fun i hi' hi'' => ?_⟩
    ·have e : ((newJ name ((f.ins.headD ⟨0, [], []⟩).name)).ins.map fun n => ((if n = name then some (f.ins.headD ⟨0, [], []⟩).cols else m.lookup n) : Option (List Cl)).getD []) = [x0.cols] := by
      show [((if (f.ins.headD ⟨0, [], []⟩).name = name then some (f.ins.headD ⟨0, [], []⟩).cols else m.lookup (f.ins.headD ⟨0, [], []⟩).name) : Option (List Cl)).getD []] = _
      rw [hx, if_neg (hne _ (hin x0 hx0)), h4.ins x0 hx0]
      rfl
     rw [e]
     rfl
    ·obtain rfl : i = 0 := by simp [newJ] at hi'; omega
     show (if name = name then some (f.ins.headD ⟨0, [], []⟩).cols else m.lookup name) = some x0.cols
     rw [if_pos rfl, hx]
   ·obtain ⟨cs, a, b⟩ := h4.jobs j hj
    refine ⟨cs, ?_, fun i hi' hi'' => ?_⟩
    ·rw [← a]
     congr 1
     exact List.map_congr_left fun n hh => by rw [if_neg (hne2 j hj n hh)]
    ·show (if j.outs[i] = name then _ else m.lookup j.outs[i]) = _
     rw [if_neg (hne _ (hoj j hj _ (List.getElem_mem hi')))]
     exact b i hi' hi''
  ·show (if n = name then _ else m.lookup n) = none
   rw [if_neg fun e => hh ((hmem n).2 (.inl e))]
   exact h4.none n fun hh' => hh ((hmem n).2 (.inr hh'))
 obtain ⟨m', l', a, b, c, d, e, k⟩ := check_of (f := moreF f name) h1 hN hR hS
 obtain ⟨_, l, _, _, g3, _⟩ := check_parts h
 refine ⟨m', l, a, g3, ?_, e, k, ?_⟩
 ·unfold orderP at g3 ⊢
  have := order_more hne2 _ _ _ g3
  rw [show (moreF f name).jobs.length = f.jobs.length + 1 by simp [moreF]]
  unfold orderGo
  rw [next_first hi]
  exact this
 ·have hk1 : ∀ x, x ∈ m'.map (·.1) ↔ x ∈ name :: m.map (·.1) := fun x => by
   rw [← lookup_isSome, e x, List.mem_cons, ← lookup_isSome]
   by_cases hx' : x = name
   ·simp [hx']
   ·simp [hx']
  have hnm : name ∉ m.map (·.1) := fun hh => by
   have := lookup_isSome.2 hh
   rw [h4.none name hn] at this
   cases this
  have l1 := nodup_len k (fun x hx' => (hk1 x).1 hx')
  have l2 := nodup_len (List.nodup_cons.2 ⟨hnm, h5⟩) (fun x hx' => (hk1 x).2 hx')
  simp only [List.length_map, List.length_cons] at l1 l2
  omega
end Go.Proofs.YtnjjajanfedjiaaGreatDoor
namespace Go.Proofs.YtnjjajanfedjiaaGreatDoor
open Go.RowKit Go.BigFrame
attribute [local go_sem] bs_size bs_extract bs_append bs_toList
def makerI (f : Fl) (n : Bs) : Int := if insB f n then -1 else findIx (fun j : Jb => j.outs.contains n) f.jobs
def makerB (f : Fl) (n : Bs) : Bool := insB f n || decide (0 ≤ findIx (fun j : Jb => j.outs.contains n) f.jobs)
theorem maker1_any (x : In) (vc : Value) (n : Bs) (X : Nat) (W : World) (h : W.cell? ⟨X, 0, none⟩ = some (.string (bs n))) :
  Calls Tryz.prog 102 #[.agg #[.int .i64 x.at_, .string (bs x.name), vc], .pointer (some ⟨X, 0, none⟩)] W fun e W' => e = .returned (.bool (x.name == n)) ∧ Keeps [] W W' := by
 have hl := World.block_lt_of_cell? _ _ h
 go_enter Tryz.func102, Tryz.ntmps102
 go_wp2
 go_ret
 exact ⟨rfl, (Keeps.refl _ _).alloc _⟩
theorem maker2_any (x : Jb) (v2 v3 v4 : Value) (n : Bs) (X : Nat) (W : World) (h : W.cell? ⟨X, 0, none⟩ = some (.string (bs n))) (h2 : TxIn W v2 x.outs) :
  Calls Tryz.prog 103 #[.agg (jbCells x v2 v3 v4), .pointer (some ⟨X, 0, none⟩)] W fun e W' => e = .returned (.bool (x.outs.contains n)) ∧ Keeps [] W W' := by
 have hl := World.block_lt_of_cell? _ _ h
 obtain ⟨hlen, A, c, rfl, hc, hR⟩ := h2
 have HC : Hid (∀ W', Keeps [] W W' → Calls Tryz.prog 55 #[.slice A x.outs.length c, .string (bs n)] W' fun e w' => e = .returned (.bool (x.outs.contains n)) ∧ W' = w') := Lib.hid fun W' z => by
  have := contains_str n x.outs A c W' (hR.keep z) hlen
  rw [← List.contains_eq_any_beq] at this
  exact this
 clear hR hc
 generalize x.outs.contains n = R at *
 unfold jbCells
 go_enter Tryz.func103, Tryz.ntmps103
 go_wp2_with ((with_reducible refine (HC.out _ ((Keeps.refl _ _).alloc _)).mono ?_); rintro e w5 ⟨rfl, rfl⟩)
 go_ret
 exact ⟨rfl, (Keeps.refl _ _).alloc _⟩
set_option maxRecDepth 100000 in
set_option maxHeartbeats 2000000 in
theorem maker_any (f : Fl) (v0 v1 v2 : Value) (n : Bs) (w : World) (hF : FlIn w v0 v1 v2 f) :
  Calls Tryz.prog 62 #[.agg #[v0, v1, v2], .string (bs n)] w fun e w' => e = .returned (.tuple #[.int .i64 (makerI f n), .bool (makerB f n)]) ∧ Keeps [] w w' := by
 have hk0 : Keeps [] w ((w.alloc (.cells #[v0, v1, v2] 26)).alloc (.cells #[.string (bs n)] 9)) := ((Keeps.refl _ _).alloc _).alloc _
 have hb1 := Blk.new (w.alloc (.cells #[v0, v1, v2] 26)) 9 #[.string (bs n)]
 have hb0 := (Blk.new w 26 #[v0, v1, v2]).alloc (.cells #[.string (bs n)] 9)
 rw [fsz] at hb1
 have HI : Hid (∀ W, Keeps [] ((w.alloc (.cells #[v0, v1, v2] 26)).alloc (.cells #[.string (bs n)] 9)) W → Calls Tryz.prog 51 #[v0, .func (.func 102) #[] #[.pointer (some ⟨w.heap.size + 1, 0, none⟩)]] W fun e w' => e = .returned (.bool (insB f n)) ∧ Keeps [] W w') := Lib.hid fun W z =>
  containsFuncI_any 102 _ (fun _ _ => by rfl) (fun x => x.name == n) f.ins v0 W (hF.i0.keep (hk0.trans z) fun _ _ h => h.keep (hk0.trans z)) (fun x hx W' cs z' hcs => by
   obtain ⟨vc, rfl, _⟩ := hcs
   exact maker1_any x vc n _ W' ((hb1.keep (z.trans z') (by simp)).cell 0))
 have HJ : Hid (∀ W, Keeps [] ((w.alloc (.cells #[v0, v1, v2] 26)).alloc (.cells #[.string (bs n)] 9)) W → Calls Tryz.prog 89 #[v1, .func (.func 103) #[] #[.pointer (some ⟨w.heap.size + 1, 0, none⟩)]] W fun e w' => e = .returned (.int .i64 (findIx (fun j : Jb => j.outs.contains n) f.jobs)) ∧ Keeps [] W w') := Lib.hid fun W z =>
  indexFuncJ_any 103 _ (fun _ _ => by rfl) (fun j => j.outs.contains n) f.jobs v1 W (hF.i1.keep (hk0.trans z) fun _ _ h => h.keep (hk0.trans z)) (fun x hx W' cs z' hcs => by
   obtain ⟨v2, v3, v4, rfl, h2, _, _⟩ := hcs
   exact maker2_any x v2 v3 v4 n _ W' ((hb1.keep (z.trans z') (by simp)).cell 0) h2)
 have hm : Hid (insB f n = true → makerI f n = -1 ∧ makerB f n = true) := Lib.hid fun h => by unfold makerI makerB; rw [h]; exact ⟨rfl, rfl⟩
 have hm2 : Hid (insB f n = false → makerI f n = findIx (fun j : Jb => j.outs.contains n) f.jobs ∧ makerB f n = decide (0 ≤ findIx (fun j : Jb => j.outs.contains n) f.jobs)) := Lib.hid fun h => by unfold makerI makerB; rw [h]; exact ⟨rfl, rfl⟩
 have HB0 : Hid (∀ W, Keeps [] ((w.alloc (.cells #[v0, v1, v2] 26)).alloc (.cells #[.string (bs n)] 9)) W → W.cell? ⟨w.heap.size, 1, none⟩ = some v1) := Lib.hid fun W z => (hb0.keep z (by simp)).cell 1
 have HK0 := Lib.hid hk0
 clear hF hb0 hb1 hk0
 generalize findIx (fun j : Jb => j.outs.contains n) f.jobs = K at *
 cases hins : insB f n with
 | true =>
  rw [hins] at HI
  obtain ⟨m1, m2⟩ := hm.out hins
  rw [m1, m2]
  clear m1 m2 hm hm2 HJ hins
  go_enter Tryz.func62, Tryz.ntmps62
  go_wp2_with ((with_reducible refine (HI.out _ (Keeps.refl _ _)).mono ?_); rintro e w5 ⟨rfl, k5⟩)
  go_ret2
  exact ⟨rfl, HK0.out.trans k5⟩
 | false =>
  rw [hins] at HI
  obtain ⟨m1, m2⟩ := hm2.out hins
  rw [m1, m2]
  clear m1 m2 hm hm2 hins
  go_enter Tryz.func62, Tryz.ntmps62
  go_wp2_with (first | ((with_reducible refine (HI.out _ (Keeps.refl _ _)).mono ?_); rintro e w5 ⟨rfl, k5⟩; have b1 := HB0.out _ k5) | ((with_reducible refine (HJ.out _ k5).mono ?_); rintro e w6 ⟨rfl, k6⟩))
  go_ret2
  exact ⟨rfl, HK0.out.trans (k5.trans k6)⟩
def intsN (l : List Nat) : List Int := l.map fun k : Nat => (k : Int)
theorem maker_there (f : Fl) (n : Bs) (done : List Nat) : (!makerB f n || (decide (0 ≤ makerI f n) && !((intsN done).any fun t => makerI f n == t))) = !thereB f done n := by
 have hx : findIx (fun j : Jb => j.outs.contains n) f.jobs = match mkIx f n with | some i => (i : Int) | none => -1 := rfl
 unfold makerB makerI thereB
 rw [hx]
 cases hi : insB f n with
 | true => simp
 | false =>
  cases hm : mkIx f n with
  | none => simp
  | some k =>
   have e : ((intsN done).any fun t => (k : Int) == t) = done.contains k := by
    rw [List.contains_eq_any_beq]
    unfold intsN
    rw [List.any_map]
    congr 1
    funext t
    rw [Bool.eq_iff_iff]
    simp
    omega
   simp [e]
set_option maxRecDepth 100000 in
set_option maxHeartbeats 2000000 in
theorem ready1_any (f : Fl) (v0 v1 v2 : Value) (n : Bs) (done : List Nat) (A : Option Addr) (c X Y : Nat) (w : World) (hF : FlIn w v0 v1 v2 f) (hX0 : w.cell? ⟨X, 0, none⟩ = some v0) (hX1 : w.cell? ⟨X, 1, none⟩ = some v1) (hX2 : w.cell? ⟨X, 2, none⟩ = some v2)
  (hY : w.cell? ⟨Y, 0, none⟩ = some (.slice A (intsN done).length c)) (hR : Rd w [] 1 A (intsN done).length ((intsN done).map (Value.int .i64))) (hl : (intsN done).length ≤ 4294967296) :
  Calls Tryz.prog 61 #[.string (bs n), .pointer (some ⟨X, 0, none⟩), .pointer (some ⟨Y, 0, none⟩)] w fun e w' => e = .returned (.bool (!thereB f done n)) ∧ Keeps [] w w' := by
 rw [← maker_there]
 have HM := Lib.hid (maker_any f v0 v1 v2 n w hF)
 have HC : Hid (∀ W, Keeps [] w W → Calls Tryz.prog 24 #[.slice A (intsN done).length c, .int .i64 (makerI f n)] W fun e w' => e = .returned (.bool ((intsN done).any fun t => makerI f n == t)) ∧ W = w') := Lib.hid fun W z => contains_int _ _ A c W (hR.keep z) hl
 have HY : Hid (∀ W, Keeps [] w W → W.cell? ⟨Y, 0, none⟩ = some (.slice A (intsN done).length c)) := Lib.hid fun W z => z.cell_of hY (by simp)
 clear hF hR hY
 generalize ((intsN done).any fun t => makerI f n == t) = Q at *
 generalize makerI f n = K at *
 have l0 := World.block_lt_of_cell? _ _ hX0
 cases hB : makerB f n with
 | false =>
  rw [hB] at HM
  go_enter Tryz.func61, Tryz.ntmps61
  go_wp2_with ((with_reducible refine HM.out.mono ?_); rintro e w5 ⟨rfl, k5⟩)
  go_ret
  exact ⟨rfl, k5⟩
 | true =>
  rw [hB] at HM
  by_cases h0 : 0 ≤ K
  ·rw [decide_eq_true h0]
   go_enter Tryz.func61, Tryz.ntmps61
   go_wp2_with (first | ((with_reducible refine HM.out.mono ?_); rintro e w5 ⟨rfl, k5⟩; have b1 := HY.out _ k5) | ((with_reducible refine (HC.out _ k5).mono ?_); rintro e w6 ⟨rfl, rfl⟩))
   go_ret
   exact ⟨by cases Q <;> rfl, k5⟩
  ·rw [decide_eq_false h0]
   go_enter Tryz.func61, Tryz.ntmps61
   go_wp2_with ((with_reducible refine HM.out.mono ?_); rintro e w5 ⟨rfl, k5⟩)
   go_ret
   exact ⟨rfl, k5⟩
theorem job_at {W : World} {v1 : Value} {l : List Jb} (h : LsIn JbIn 15 W v1 l) (k : Nat) (hk : k < l.length) : ∃ g c v2 v3 v4, v1 = .slice (some ⟨g, 0, none⟩) l.length c ∧ l.length ≤ 4294967296 ∧ TxIn W v2 l[k].outs ∧ TxIn W v3 l[k].ins ∧ TxIn W v4 l[k].cols ∧ ∀ i u, (jbCells l[k] v2 v3 v4).toList[i]? = some u → W.cell? ⟨g, k * 15 + i, none⟩ = some u := by
 obtain ⟨hl, A, c, rfl, _, h⟩ := h
 obtain ⟨g, cs, rfl, hg, _, ⟨v2, v3, v4, rfl, h2, h3, h4⟩, hc⟩ := h k hk
 exact ⟨g, c, v2, v3, v4, rfl, hl, h2, h3, h4, hc⟩
set_option maxRecDepth 100000 in
set_option maxHeartbeats 2000000 in
theorem ready_any (f : Fl) (v0 v1 v2 : Value) (k : Nat) (hk : k < f.jobs.length) (done : List Nat) (A : Option Addr) (c : Nat) (w : World) (hF : FlIn w v0 v1 v2 f) (hR : Rd w [] 1 A (intsN done).length ((intsN done).map (Value.int .i64))) (hl : (intsN done).length ≤ 4294967296) :
  Calls Tryz.prog 25 #[.agg #[v0, v1, v2], .int .i64 k, .slice A (intsN done).length c] w fun e w' => e = .returned (.bool (readyB f done k)) ∧ Keeps [] w w' := by
 obtain ⟨g, cj, u2, u3, u4, rfl, hjl, h2, h3, h4, hcj⟩ := job_at hF.i1 k hk
 have hk0 : Keeps [] w ((w.alloc (.cells #[v0, .slice (some ⟨g, 0, none⟩) f.jobs.length cj, v2] 26)).alloc (.cells #[.slice A (intsN done).length c] 55)) := ((Keeps.refl _ _).alloc _).alloc _
 have hb1 := Blk.new (w.alloc (.cells #[v0, .slice (some ⟨g, 0, none⟩) f.jobs.length cj, v2] 26)) 55 #[.slice A (intsN done).length c]
 have hb0 := (Blk.new w 26 #[v0, .slice (some ⟨g, 0, none⟩) f.jobs.length cj, v2]).alloc (.cells #[.slice A (intsN done).length c] 55)
 rw [fsz] at hb1
 have hj3 : w.cell? ⟨g, k * 15 + 3, none⟩ = some u3 := hcj 3 _ rfl
 have hgl := World.block_lt_of_cell? _ _ hj3
 obtain ⟨h3l, A3, c3, rfl, hc3, hR3⟩ := h3
 have hi : (k : Int) < (f.jobs.length : Int) := by omega
 have e1 : readyB f done k = !(f.jobs[k].ins.any fun n => !thereB f done n) := by
  unfold readyB
  rw [jb_lt hk, List.all_eq_not_any_not]
 rw [e1]
 have HC : Hid (∀ W, Keeps [] ((w.alloc (.cells #[v0, .slice (some ⟨g, 0, none⟩) f.jobs.length cj, v2] 26)).alloc (.cells #[.slice A (intsN done).length c] 55)) W → Calls Tryz.prog 60 #[.slice A3 f.jobs[k].ins.length c3, .func (.func 61) #[] #[.pointer (some ⟨w.heap.size, 0, none⟩), .pointer (some ⟨w.heap.size + 1, 0, none⟩)]] W fun e w' => e = .returned (.bool (f.jobs[k].ins.any fun n => !thereB f done n)) ∧ Keeps [] W w') := Lib.hid fun W z =>
  containsFuncS_any 61 _ (fun _ _ => by rfl) (fun n => !thereB f done n) f.jobs[k].ins A3 c3 W (hR3.keep (hk0.trans z)) h3l (fun n hn W' z' => ready1_any f v0 _ v2 n done A c _ _ W' (hF.keep (hk0.trans (z.trans z'))) ((hb0.keep (z.trans z') (by simp)).cell 0) ((hb0.keep (z.trans z') (by simp)).cell 1) ((hb0.keep (z.trans z') (by simp)).cell 2) ((hb1.keep (z.trans z') (by simp)).cell 0) (hR.keep (hk0.trans (z.trans z'))) hl)
 have HK0 := Lib.hid hk0
 generalize (f.jobs[k].ins.any fun n => !thereB f done n) = Q at *
 generalize f.jobs[k].ins.length = m3 at *
 clear hF hb0 hb1 hk0 hcj hR hl hR3 h2 h4 e1 hc3
 go_enter Tryz.func25, Tryz.ntmps25
 go_wp2_with ((with_reducible refine (HC.out _ (Keeps.refl _ _)).mono ?_); rintro e w5 ⟨rfl, k5⟩)
 go_ret
 exact ⟨rfl, HK0.out.trans k5⟩
end Go.Proofs.YtnjjajanfedjiaaGreatDoor
namespace Go.Proofs.YtnjjajanfedjiaaGreatDoor
open Go.RowKit
theorem Blk.new' (W : World) (k : Nat) (t : TypeId) (c : Array Value) (hk : k = W.heap.size) : Blk (W.alloc (.cells c t)) k t c := hk ▸ Blk.new W t c
end Go.Proofs.YtnjjajanfedjiaaGreatDoor
