/- slices.Contains at numbers. Plans: the plain laws. With its jobs in another order a flow has the same columns, and an order; with one job more, too. No program in sight. Plans: names, and the columns that a flow's tables have: they are one, whatever order the jobs stand in. No program in sight. -/
import Derived.Test.YtnjjajanfedjiaaGreatDoorPtuM18
import Derived.Test.YtnjjajanfedjiaaGreatDoorPtuM16
set_option linter.unusedSimpArgs false
set_option linter.unusedVariables false
namespace Go.Proofs.YtnjjajanfedjiaaGreatDoor
open Go.RowKit
attribute [local go_sem] bs_size bs_extract bs_append bs_toList
theorem ints_at (l : List Int) (k : Nat) (h : k < l.length) : (l.map (Value.int .i64))[k]? = some (.int .i64 l[k]) := by simp [h]
set_option maxHeartbeats 1000000 in
theorem index_int (v : Int) (l : List Int) (A : Option Addr) (c : Nat) (w : World) (hR : Rd w [] 1 A l.length (l.map (Value.int .i64))) (hl : l.length ≤ 4294967296) :
  Calls Tryz.prog 59 #[.slice A l.length c, .int .i64 v] w fun e w' => e = .returned (.int .i64 (findIx (fun t => v == t) l)) ∧ w = w' := by
 have HR := Lib.hid hR
 clear hR
 go_enter Tryz.func59, Tryz.ntmps59
 go_wp2
 go_loop [8] (fun i => ∃ n : Nat, n ≤ l.length ∧ i = .int .i64 n ∧ Hid (∀ j (hj : j < n) (hl : j < l.length), (v == l[j]) = false)) (fun i => l.length - (intOf i).toNat)
 case atStart => exact ⟨0, Nat.zero_le _, rfl, fun j hj => absurd hj (by omega)⟩
 case round =>
  obtain ⟨n, hn, rfl, hno⟩ := hrel
  by_cases hlt : n < l.length
  ·obtain ⟨b, o, rfl, _, hb, hc⟩ := HR.out.open' (by omega) (by omega)
   have d1 := hc n _ (ints_at l n hlt)
   clear hc
   cases hp : (v == l[n]) with
   | true =>
    have hfin : findIx (fun t => v == t) l = (n : Int) := findIx_hit hlt (fun j hj => hno j hj (by omega)) hp
    have HP := Lib.hid hfin
    clear hfin
    go_wp2
    go_ret
    exact ⟨by rw [HP.out]; rfl, rfl⟩
   | false =>
    have hno' : Hid (∀ j (hj : j < n + 1) (hl : j < l.length), (v == l[j]) = false) := fun j hj hl => by
     by_cases h : j < n
     ·exact hno j h hl
     ·obtain rfl : j = n := by omega
      exact hp
    go_wp2
    go_round
    case rel => exact ⟨n + 1, by omega, by go_num, hno'⟩
    case measure => simp [intOf]; omega
  ·have hfin : Hid (findIx (fun t => v == t) l = -1) := findIx_none fun j hj => hno j (by omega) hj
   go_wp2
   go_ret
   exact ⟨by rw [hfin.out]; rfl, rfl⟩
theorem contains_int (v : Int) (l : List Int) (A : Option Addr) (c : Nat) (w : World) (hR : Rd w [] 1 A l.length (l.map (Value.int .i64))) (hl : l.length ≤ 4294967296) :
  Calls Tryz.prog 24 #[.slice A l.length c, .int .i64 v] w fun e w' => e = .returned (.bool (l.any fun t => v == t)) ∧ w = w' := by
 have HC := Lib.hid (index_int v l A c w hR hl)
 clear hR
 rw [← findIx_any]
 go_enter Tryz.func24, Tryz.ntmps24
 go_wp2_with (go_at_call 59; refine HC.out.mono ?_; rintro e W2 ⟨rfl, rfl⟩)
 go_ret
 exact ⟨rfl, rfl⟩
end Go.Proofs.YtnjjajanfedjiaaGreatDoor
namespace Go.Proofs.YtnjjajanfedjiaaGreatDoor
def allN (f : Fl) : List Bs := f.ins.map (·.name) ++ f.jobs.flatMap (·.outs)
theorem insB_iff {f : Fl} {n : Bs} : insB f n = true ↔ n ∈ f.ins.map (·.name) := by
 unfold insB
 simp only [List.any_eq_true, beq_iff_eq, List.mem_map]
theorem jb_lt {f : Fl} {k : Nat} (h : k < f.jobs.length) : jb f k = f.jobs[k] := by
 unfold jb
 rw [List.getD_eq_getElem?_getD, List.getElem?_eq_getElem h]
 rfl
theorem mkIx_some {f : Fl} {n : Bs} {k : Nat} (h : mkIx f n = some k) : k < f.jobs.length ∧ n ∈ (jb f k).outs := by
 unfold mkIx at h
 obtain ⟨hk, h1, _⟩ := List.findIdx?_eq_some_iff_getElem.1 h
 refine ⟨hk, ?_⟩
 rw [jb_lt hk]
 simpa using h1
theorem mkIx_none {f : Fl} {n : Bs} (h : mkIx f n = none) : ∀ j ∈ f.jobs, n ∉ j.outs := by
 unfold mkIx at h
 rw [List.findIdx?_eq_none_iff] at h
 intro j hj hn
 have := h j hj
 rw [List.contains_iff_mem.2 hn] at this
 cases this
theorem mk_uniq {js : List Jb} (h : (js.flatMap (·.outs)).Nodup) {a b : Nat} (ha : a < js.length) (hb : b < js.length) {n : Bs} (h1 : n ∈ js[a].outs) (h2 : n ∈ js[b].outs) : a = b := by
 induction js generalizing a b with
 | nil => simp at ha
 | cons j js ih =>
  rw [List.flatMap_cons, List.nodup_append] at h
  obtain ⟨_, h4, h5⟩ := h
  match a, b with
  | 0, 0 => rfl
  | 0, b + 1 => exact absurd rfl (h5 n h1 n (List.mem_flatMap.2 ⟨js[b]'(by simpa using hb), List.getElem_mem _, by simpa using h2⟩))
  | a + 1, 0 => exact absurd rfl (h5 n h2 n (List.mem_flatMap.2 ⟨js[a]'(by simpa using ha), List.getElem_mem _, by simpa using h1⟩))
  | a + 1, b + 1 => exact congrArg (· + 1) (ih h4 (a := a) (b := b) (by simpa using ha) (by simpa using hb) (by simpa using h1) (by simpa using h2))
theorem mkIx_of {f : Fl} (h : (f.jobs.flatMap (·.outs)).Nodup) {k : Nat} (hk : k < f.jobs.length) {n : Bs} (hn : n ∈ f.jobs[k].outs) : mkIx f n = some k := by
 cases hm : mkIx f n with
 | none => exact absurd hn (mkIx_none hm _ (List.getElem_mem hk))
 | some k' =>
  obtain ⟨h1, h2⟩ := mkIx_some hm
  rw [jb_lt h1] at h2
  rw [mk_uniq h h1 hk h2 hn]
theorem thereB_iff {f : Fl} {done : List Nat} {n : Bs} : thereB f done n = true ↔ insB f n = true ∨ ∃ k, mkIx f n = some k ∧ k ∈ done := by
 unfold thereB
 rw [Bool.or_eq_true]
 cases hm : mkIx f n with
 | none => simp
 | some k => simp
structure Valid (f : Fl) (l : List Nat) : Prop where
 nodup : l.Nodup
 lt : ∀ k ∈ l, k < f.jobs.length
 ready : ∀ i (h : i < l.length), readyB f (l.take i) l[i] = true
theorem nextI_some {f : Fl} {out : List Nat} {k : Nat} (h : nextI f out = some k) : k < f.jobs.length ∧ k ∉ out ∧ readyB f out k = true ∧ ∀ j, j < k → j ∉ out → readyB f out j = false := by
 unfold nextI at h
 rw [List.find?_eq_some_iff_getElem] at h
 obtain ⟨h1, i, hi, he, hb⟩ := h
 rw [Bool.and_eq_true] at h1
 simp only [List.getElem_range] at he
 subst he
 refine ⟨by simpa using hi, by simpa using h1.1, h1.2, fun j hj hn => ?_⟩
 have := hb j hj
 simp only [List.getElem_range, Bool.not_and, Bool.not_not, Bool.or_eq_true] at this
 rcases this with h | h
 ·exact absurd (List.contains_iff_mem.1 h) hn
 ·simpa using h
theorem nextI_none {f : Fl} {out : List Nat} (h : nextI f out = none) : ∀ k, k < f.jobs.length → k ∉ out → readyB f out k = false := by
 unfold nextI at h
 rw [List.find?_eq_none] at h
 intro k hk hn
 have := h k (List.mem_range.2 hk)
 cases hr : readyB f out k with
 | false => rfl
 | true => exact absurd (by rw [hr]; simpa using hn) this
theorem Valid.snoc {f : Fl} {out : List Nat} (h : Valid f out) {k : Nat} (hk : nextI f out = some k) : Valid f (out ++ [k]) := by
 obtain ⟨h1, h2, h3, _⟩ := nextI_some hk
 refine ⟨?_, ?_, ?_⟩
 ·rw [List.nodup_append]
  exact ⟨h.nodup, by simp, fun a ha b hb e => h2 (by rw [List.mem_singleton.1 hb] at e; rw [← e]; exact ha)⟩
 ·intro x hx
  rcases List.mem_append.1 hx with hx | hx
  ·exact h.lt x hx
  ·rw [List.mem_singleton.1 hx]; exact h1
 ·intro i hi
  rw [List.length_append, List.length_singleton] at hi
  by_cases hi' : i < out.length
  ·rw [List.getElem_append_left hi', List.take_append_of_le_length (Nat.le_of_lt hi')]
   exact h.ready i hi'
  ·obtain rfl : i = out.length := by omega
   rw [List.getElem_append_right (Nat.le_refl _), List.take_left']
   ·simpa using h3
   ·rfl
theorem orderGo_ok {f : Fl} : ∀ (n : Nat) (out l : List Nat), Valid f out → orderGo f n out = .ok l → Valid f l ∧ l.length = out.length + n
 | 0, out, l, hv, h => by cases h; exact ⟨hv, rfl⟩
 | n + 1, out, l, hv, h => by
  unfold orderGo at h
  cases hk : nextI f out with
  | none => rw [hk] at h; cases h
  | some k =>
   rw [hk] at h
   obtain ⟨h1, h2⟩ := orderGo_ok n _ _ (hv.snoc hk) h
   exact ⟨h1, by rw [h2, List.length_append, List.length_singleton]; omega⟩
theorem Valid.nil (f : Fl) : Valid f [] := ⟨by simp, fun _ h => (by cases h), fun i h => absurd h (by simp)⟩
theorem orderP_ok {f : Fl} {l : List Nat} (h : orderP f = .ok l) : Valid f l ∧ l.length = f.jobs.length := by
 obtain ⟨h1, h2⟩ := orderGo_ok _ _ _ (Valid.nil f) h
 exact ⟨h1, by simpa using h2⟩
def Ranked (f : Fl) : Prop := ∃ r : Jb → Nat, ∀ j ∈ f.jobs, ∀ n ∈ j.ins, n ∈ f.ins.map (·.name) ∨ ∃ d ∈ f.jobs, n ∈ d.outs ∧ r d < r j
theorem nodup_len {α : Type} [DecidableEq α] : ∀ {l m : List α}, l.Nodup → (∀ x ∈ l, x ∈ m) → l.length ≤ m.length
 | [], _, _, _ => Nat.zero_le _
 | x :: l, m, hn, hs => by
  rw [List.nodup_cons] at hn
  have h1 := nodup_len (m := m.erase x) hn.2 (fun y hy => by
   have hne : y ≠ x := fun e => hn.1 (by rw [← e]; exact hy)
   exact (List.mem_erase_of_ne hne).2 (hs y (List.mem_cons_of_mem _ hy)))
  have hm := hs x (List.mem_cons_self ..)
  rw [List.length_erase_of_mem hm] at h1
  have := List.length_pos_of_mem hm
  rw [List.length_cons]
  omega
theorem full_mem {n : Nat} {l : List Nat} (hn : l.Nodup) (hlt : ∀ k ∈ l, k < n) (hl : l.length = n) : ∀ k, k < n → k ∈ l := by
 intro k hk
 refine Decidable.byContradiction fun hc => ?_
 have := nodup_len (l := k :: l) (m := List.range n) (List.nodup_cons.2 ⟨hc, hn⟩) (fun x hx => by
  rcases List.mem_cons.1 hx with rfl | hx
  ·exact List.mem_range.2 hk
  ·exact List.mem_range.2 (hlt x hx))
 rw [List.length_cons, List.length_range] at this
 omega
theorem idxOf_le {α : Type} [DecidableEq α] : ∀ {l : List α} {i : Nat} (h : i < l.length), l.idxOf l[i] ≤ i
 | x :: l, 0, _ => by simp [List.idxOf_cons]
 | x :: l, i + 1, h => by
  have ih := idxOf_le (l := l) (i := i) (by simpa using h)
  rw [List.getElem_cons_succ, List.idxOf_cons]
  cases hx : (x == l[i]'(by simpa using h)) with
  | true => exact Nat.zero_le _
  | false => exact Nat.succ_le_succ ih
theorem ranked_of {f : Fl} {l : List Nat} (hv : Valid f l) (hl : l.length = f.jobs.length) : Ranked f := by
 refine ⟨fun j => (l.map (jb f)).idxOf j, fun j hj n hn => ?_⟩
 obtain ⟨k, hk, rfl⟩ := List.getElem_of_mem hj
 have hkl := full_mem hv.nodup hv.lt hl k hk
 obtain ⟨p0, hp0, hpe⟩ := List.getElem_of_mem hkl
 have hp : (l.map (jb f)).idxOf f.jobs[k] < (l.map (jb f)).length := List.idxOf_lt_length_of_mem (List.mem_map.2 ⟨k, hkl, jb_lt hk⟩)
 obtain ⟨p, hpp⟩ : ∃ p, (l.map (jb f)).idxOf f.jobs[k] = p := ⟨_, rfl⟩
 rw [hpp] at hp
 have hat : (l.map (jb f))[p] = f.jobs[k] := by
  have := List.getElem_idxOf (x := f.jobs[k]) (xs := l.map (jb f)) (by rw [hpp]; exact hp)
  simpa [hpp] using this
 have hp' : p < l.length := by simpa using hp
 rw [List.getElem_map] at hat
 have hr := hv.ready p hp'
 unfold readyB at hr
 rw [hat, List.all_eq_true] at hr
 rcases thereB_iff.1 (hr n hn) with h | ⟨k', h1, h2⟩
 ·exact .inl (insB_iff.1 h)
 ·right
  obtain ⟨h3, h4⟩ := mkIx_some h1
  refine ⟨jb f k', by rw [jb_lt h3]; exact List.getElem_mem h3, h4, ?_⟩
  show (l.map (jb f)).idxOf (jb f k') < (l.map (jb f)).idxOf f.jobs[k]
  rw [hpp]
  obtain ⟨q, hq, rfl⟩ := List.getElem_of_mem h2
  rw [List.length_take] at hq
  have hq' : q < l.length := by omega
  have e : jb f (l.take p)[q] = (l.map (jb f))[q]'(by simpa using hq') := by rw [List.getElem_take, List.getElem_map]
  rw [e]
  have := idxOf_le (l := l.map (jb f)) (i := q) (by simpa using hq')
  omega
theorem min_of {P : Nat → Prop} {r : Nat → Nat} (h : ∃ k, P k) : ∃ k, P k ∧ ∀ j, P j → r k ≤ r j := by
 obtain ⟨k, hk⟩ := h
 induction hn : r k using Nat.strongRecOn generalizing k with
 | ind n ih =>
  by_cases hh : ∃ j, P j ∧ r j < n
  ·obtain ⟨j, hj, hlt⟩ := hh
   exact ih (r j) hlt j hj rfl
  ·exact ⟨k, hk, fun j hj => by
    rw [hn]
    exact Nat.le_of_not_lt fun hlt => hh ⟨j, hj, hlt⟩⟩
theorem exists_out {n : Nat} {l : List Nat} (h : l.length < n) : ∃ k, k < n ∧ k ∉ l := by
 refine Decidable.byContradiction fun hc => ?_
 have hsub : List.range n ⊆ l := fun k hk => Decidable.byContradiction fun hh => hc ⟨k, List.mem_range.1 hk, hh⟩
 have := nodup_len List.nodup_range hsub
 rw [List.length_range] at this
 omega
theorem ranked_next {f : Fl} (hu : (f.jobs.flatMap (·.outs)).Nodup) (hr : Ranked f) {out : List Nat} (hlen : out.length < f.jobs.length) : ∃ k, nextI f out = some k := by
 obtain ⟨r, hr⟩ := hr
 obtain ⟨k, ⟨hk, hko⟩, hmin⟩ := min_of (P := fun k => k < f.jobs.length ∧ k ∉ out) (r := fun k => r (jb f k)) (exists_out hlen)
 cases hn : nextI f out with
 | some k => exact ⟨k, rfl⟩
 | none =>
  have hf := nextI_none hn k hk hko
  exfalso
  have ht : readyB f out k = true := by
   unfold readyB
   rw [List.all_eq_true]
   intro n hn'
   have hj : jb f k ∈ f.jobs := by rw [jb_lt hk]; exact List.getElem_mem hk
   rcases hr _ hj n hn' with h | ⟨d, hd, hdn, hlt⟩
   ·exact thereB_iff.2 (.inl (insB_iff.2 h))
   ·obtain ⟨k', hk', rfl⟩ := List.getElem_of_mem hd
    refine thereB_iff.2 (.inr ⟨k', mkIx_of hu hk' hdn, Decidable.byContradiction fun hno => ?_⟩)
    have := hmin k' ⟨hk', hno⟩
    rw [jb_lt hk'] at this
    omega
  rw [hf] at ht
  cases ht
theorem orderGo_some {f : Fl} (hu : (f.jobs.flatMap (·.outs)).Nodup) (hr : Ranked f) : ∀ (n : Nat) (out : List Nat), out.length + n ≤ f.jobs.length → ∃ l, orderGo f n out = .ok l
 | 0, out, _ => ⟨out, rfl⟩
 | n + 1, out, h => by
  obtain ⟨k, hk⟩ := ranked_next hu hr (out := out) (by omega)
  obtain ⟨l, hl⟩ := orderGo_some hu hr n (out ++ [k]) (by rw [List.length_append, List.length_singleton]; omega)
  exact ⟨l, by unfold orderGo; rw [hk]; exact hl⟩
theorem orderP_some {f : Fl} (hu : (f.jobs.flatMap (·.outs)).Nodup) (hr : Ranked f) : ∃ l, orderP f = .ok l := orderGo_some hu hr _ _ (by simp)
end Go.Proofs.YtnjjajanfedjiaaGreatDoor
namespace Go.Proofs.YtnjjajanfedjiaaGreatDoor
theorem madeGo_iff : ∀ (l : List (Bs × Int)) (seen : List Bs), (∃ s, madeGo l seen = .ok s ∧ ∀ n, n ∈ s ↔ n ∈ l.map (·.1) ∨ n ∈ seen) ↔ (l.map (·.1)).Nodup ∧ ∀ n ∈ l.map (·.1), n ∉ seen
 | [], seen => ⟨fun _ => ⟨by simp, fun n h => (by simp at h)⟩, fun _ => ⟨seen, rfl, fun n => by simp⟩⟩
 | p :: l, seen => by
  have ih := madeGo_iff l (p.1 :: seen)
  unfold madeGo
  by_cases hp : p.1 ∈ seen
  ·rw [if_pos hp]
   constructor
   ·rintro ⟨s, hs, _⟩; cases hs
   ·rintro ⟨_, h⟩; exact absurd hp (h p.1 (by simp))
  ·rw [if_neg hp]
   constructor
   ·rintro ⟨s, hs, hm⟩
    have h2 := ih.1 ⟨s, hs, fun n => by
     rw [hm n]
     simp only [List.map_cons, List.mem_cons]
     constructor
     ·rintro ((h | h) | h)
      ·exact .inr (.inl h)
      ·exact .inl h
      ·exact .inr (.inr h)
     ·rintro (h | h | h)
      ·exact .inl (.inr h)
      ·exact .inl (.inl h)
      ·exact .inr h⟩
    refine ⟨?_, ?_⟩
    ·rw [List.map_cons, List.nodup_cons]
     exact ⟨fun hh => h2.2 _ hh (List.mem_cons_self ..), h2.1⟩
    ·intro n hn
     rw [List.map_cons, List.mem_cons] at hn
     rcases hn with rfl | hn
     ·exact hp
     ·exact fun hh => h2.2 n hn (List.mem_cons_of_mem _ hh)
   ·rintro ⟨h1, h2⟩
    rw [List.map_cons, List.nodup_cons] at h1
    obtain ⟨s, hs, hm⟩ := ih.2 ⟨h1.2, fun n hn => by
     rw [List.mem_cons]
     rintro (rfl | hh)
     ·exact h1.1 hn
     ·exact h2 n (by rw [List.map_cons]; exact List.mem_cons_of_mem _ hn) hh⟩
    refine ⟨s, hs, fun n => ?_⟩
    rw [hm n]
    simp only [List.map_cons, List.mem_cons]
    constructor
    ·rintro (h | h | h)
     ·exact .inl (.inr h)
     ·exact .inl (.inl h)
     ·exact .inr h
    ·rintro ((h | h) | h)
     ·exact .inr (.inl h)
     ·exact .inl h
     ·exact .inr (.inr h)
theorem madeGo_mem : ∀ (l : List (Bs × Int)) (seen s : List Bs), madeGo l seen = .ok s → ∀ n, n ∈ s ↔ n ∈ l.map (·.1) ∨ n ∈ seen
 | [], seen, s, h, n => by cases h; simp
 | p :: l, seen, s, h, n => by
  unfold madeGo at h
  by_cases hp : p.1 ∈ seen
  ·rw [if_pos hp] at h; cases h
  ·rw [if_neg hp] at h
   rw [madeGo_mem l _ s h n]
   simp only [List.map_cons, List.mem_cons]
   constructor
   ·rintro (h | h | h)
    ·exact .inl (.inr h)
    ·exact .inl (.inl h)
    ·exact .inr h
   ·rintro ((h | h) | h)
    ·exact .inr (.inl h)
    ·exact .inl h
    ·exact .inr (.inr h)
theorem madeGo_ok {l : List (Bs × Int)} {seen s : List Bs} (h : madeGo l seen = .ok s) : (l.map (·.1)).Nodup ∧ ∀ n ∈ l.map (·.1), n ∉ seen :=
 (madeGo_iff l seen).1 ⟨s, h, madeGo_mem l seen s h⟩
theorem outsOf_map (js : List Jb) : (outsOf js).map (·.1) = js.flatMap (·.outs) := by
 unfold outsOf
 rw [List.map_flatMap]
 congr 1
 funext j
 rw [List.map_map]
 exact List.map_id _
theorem readsGo_iff {seen : List Bs} : ∀ {js : List Jb}, readsGo seen js = .ok () ↔ ∀ j ∈ js, ∀ n ∈ j.ins, n ∈ seen
 | [] => by simp [readsGo]
 | j :: js => by
  unfold readsGo
  by_cases h : j.ins.any (fun n => !decide (n ∈ seen)) = true
  ·rw [if_pos h]
   constructor
   ·intro hh; cases hh
   ·intro hh
    rw [List.any_eq_true] at h
    obtain ⟨n, hn, h1⟩ := h
    have := hh j (List.mem_cons_self ..) n hn
    simp [this] at h1
  ·rw [if_neg h, readsGo_iff]
   constructor
   ·intro hh j' hj' n hn
    rcases List.mem_cons.1 hj' with rfl | hj'
    ·exact Decidable.byContradiction fun hc => h (List.any_eq_true.2 ⟨n, hn, by simp [hc]⟩)
    ·exact hh j' hj' n hn
   ·exact fun hh j' hj' => hh j' (List.mem_cons_of_mem _ hj')
theorem toldGo_iff {seen : List Bs} : ∀ {l : List Pb} {told : List Bs}, toldGo seen l told = .ok () ↔ (∀ x ∈ l, x.src ∈ seen) ∧ (l.map (·.name)).Nodup ∧ ∀ n ∈ l.map (·.name), n ∉ told
 | [], told => by simp [toldGo]
 | x :: l, told => by
  unfold toldGo
  by_cases h1 : x.src ∈ seen
  ·by_cases h2 : x.name ∈ told
   ·rw [if_neg (fun h => h h1), if_pos h2]
    constructor
    ·intro h; cases h
    ·rintro ⟨_, _, h⟩; exact absurd h2 (h _ (by simp))
   ·rw [if_neg (fun h => h h1), if_neg h2, toldGo_iff]
    simp only [List.map_cons, List.nodup_cons, List.mem_cons, forall_eq_or_imp]
    constructor
    ·rintro ⟨a, b, c⟩
     exact ⟨⟨h1, a⟩, ⟨fun hh => c _ hh (.inl rfl), b⟩, h2, fun n hn hh => c n hn (.inr hh)⟩
    ·rintro ⟨⟨_, a⟩, ⟨b, c⟩, _, d⟩
     exact ⟨a, c, fun n hn => by
      rintro (rfl | hh)
      ·exact b hn
      ·exact d n hn hh⟩
  ·rw [if_pos h1]
   constructor
   ·intro h; cases h
   ·rintro ⟨h, _⟩; exact absurd (h x (List.mem_cons_self ..)) h1
structure NmOk (f : Fl) : Prop where
 nodup : (allN f).Nodup
 ins : ∀ j ∈ f.jobs, ∀ n ∈ j.ins, n ∈ allN f
 src : ∀ x ∈ f.outs, x.src ∈ allN f
 told : (f.outs.map (·.name)).Nodup
theorem namesC_iff {f : Fl} : namesC f = .ok () ↔ NmOk f := by
 have e1 : (f.ins.map fun x => (x.name, x.at_)).map (·.1) = f.ins.map (·.name) := by rw [List.map_map]; rfl
 constructor
 ·intro h
  unfold namesC at h
  cases h1 : madeGo (f.ins.map fun x => (x.name, x.at_)) [] with
  | error e => rw [h1] at h; cases h
  | ok s1 =>
   rw [h1] at h
   cases h2 : madeGo (outsOf f.jobs) s1 with
   | error e => simp only [bind, Except.bind] at h; rw [h2] at h; cases h
   | ok s2 =>
    simp only [bind, Except.bind] at h
    rw [h2] at h
    simp only at h
    cases h3 : readsGo s2 f.jobs with
    | error e => rw [h3] at h; cases h
    | ok u =>
     rw [h3] at h
     simp only at h
     have m1 := madeGo_mem _ _ _ h1
     have m2 := madeGo_mem _ _ _ h2
     obtain ⟨n1, -⟩ := madeGo_ok h1
     obtain ⟨n2, d2⟩ := madeGo_ok h2
     rw [e1] at m1 n1
     rw [outsOf_map] at m2 n2 d2
     have hm : ∀ n, n ∈ s2 ↔ n ∈ allN f := fun n => by
      rw [m2 n, m1 n]
      unfold allN
      rw [List.mem_append]
      simp [or_comm]
     have hr := readsGo_iff.1 h3
     obtain ⟨t1, t2, -⟩ := toldGo_iff.1 h
     refine ⟨?_, fun j hj n hn => (hm n).1 (hr j hj n hn), fun x hx => (hm _).1 (t1 x hx), t2⟩
     unfold allN
     rw [List.nodup_append]
     exact ⟨n1, n2, fun a ha b hb e => d2 b hb ((m1 b).2 (.inl (e ▸ ha)))⟩
 ·rintro ⟨h1, h2, h3, h4⟩
  unfold allN at h1
  rw [List.nodup_append] at h1
  obtain ⟨a1, a2, a3⟩ := h1
  obtain ⟨s1, g1, m1⟩ := (madeGo_iff (f.ins.map fun x => (x.name, x.at_)) []).2 ⟨by rw [e1]; exact a1, fun n _ => by simp⟩
  rw [e1] at m1
  obtain ⟨s2, g2, m2⟩ := (madeGo_iff (outsOf f.jobs) s1).2 ⟨by rw [outsOf_map]; exact a2, fun n hn hh => by
   rw [outsOf_map] at hn
   rcases (m1 n).1 hh with h | h
   ·exact a3 n h n hn rfl
   ·cases h⟩
  rw [outsOf_map] at m2
  have hm : ∀ n, n ∈ allN f → n ∈ s2 := fun n hn => by
   unfold allN at hn
   rw [m2 n, m1 n]
   rcases List.mem_append.1 hn with h | h
   ·exact .inr (.inl h)
   ·exact .inl h
  unfold namesC
  rw [g1]
  simp only [bind, Except.bind]
  rw [g2]
  simp only
  rw [readsGo_iff.2 fun j hj n hn => hm n (h2 j hj n hn)]
  simp only
  exact toldGo_iff.2 ⟨fun x hx => hm _ (h3 x hx), h4, fun n _ => by simp⟩
theorem NmOk.outs {f : Fl} (h : NmOk f) : (f.jobs.flatMap (·.outs)).Nodup := by
 have := h.nodup
 unfold allN at this
 rw [List.nodup_append] at this
 exact this.2.1
theorem NmOk.apart {f : Fl} (h : NmOk f) {n : Bs} (h1 : n ∈ f.ins.map (·.name)) : n ∉ f.jobs.flatMap (·.outs) := by
 have := h.nodup
 unfold allN at this
 rw [List.nodup_append] at this
 exact fun hh => this.2.2 n h1 n hh rfl
theorem colsJ_len {j : Jb} {ins cs : List (List Cl)} (h : colsJ j ins = .ok cs) : cs.length = j.outs.length := by
 unfold colsJ at h
 by_cases h0 : (sizesN j.code).1 = 0 ∨ ins.length ≠ (sizesN j.code).1 ∨ j.outs.length ≠ (sizesN j.code).2
 ·rw [if_pos h0] at h; cases h
 ·rw [if_neg h0] at h
  have ho : j.outs.length = (sizesN j.code).2 := Decidable.byContradiction fun hh => h0 (.inr (.inr hh))
  have hz : (sizesN j.code).1 ≠ 0 := fun hh => h0 (.inl hh)
  by_cases h1 : j.code = 1 ∨ j.code = 9
  ·rw [if_pos h1] at h
   unfold comparedJ at h
   split at h
   ·cases h
   ·split at h
    ·cases h
    ·split at h
     ·cases h
     ·cases h
      rw [ho, List.length_replicate]
      rcases h1 with h1 | h1 <;> rw [h1] <;> rfl
  ·have h19 : j.code ≠ 1 ∧ j.code ≠ 9 := ⟨fun e => h1 (.inl e), fun e => h1 (.inr e)⟩
   have hone : (sizesN j.code).2 = 1 := by
    revert hz
    unfold sizesN
    rw [if_neg h19.2]
    split
    ·intro; rfl
    ·split
     ·intro; rfl
     ·intro hz; exact absurd rfl hz
   have h1' : cs.length = 1 := by
    rw [if_neg h1] at h
    split at h
    ·unfold setJ at h
     split at h
     ·cases h
     ·split at h
      ·cases h
      ·split at h
       ·cases h
       ·cases h; rfl
    ·split at h
     ·unfold pickedJ at h
      split at h
      ·cases h
      ·split at h
       ·cases h
       ·cases h; rfl
     ·split at h
      ·split at h
       ·cases h
       ·cases h; rfl
      ·split at h
       ·unfold joinedJ at h
        split at h
        ·cases h
        ·split at h
         ·split at h
          ·cases h
          ·split at h
           ·cases h
           ·split at h
            ·cases h
            ·cases h; rfl
         ·cases h
       ·split at h
        ·unfold groupedJ at h
         split at h
         ·cases h
         ·split at h
          ·split at h
           ·cases h
           ·split at h
            ·cases h
            ·cases h; rfl
          ·cases h
        ·cases h; rfl
   rw [ho, hone, h1']
end Go.Proofs.YtnjjajanfedjiaaGreatDoor
