/- Plans: with its jobs in another order, and with one job more: plain. No program in sight. plan.maker and plan.Ready. Structs of many cells that are boxed inside a region: loads and stores of all cells at once, by short words. No program in sight. -/
import Derived.Test.YtnjjajanfedjiaaGreatDoorPtuM20
import Derived.Test.YtnjjajanfedjiaaGreatDoorPtuM18
import Derived.Test.YtnjjajanfedjiaaGreatDoorPtuM19
import Derived.Test.YtnjjajanfedjiaaGreatDoorPtuM1
import Derived.Laws.IdiomCopy
import Derived.Deep.MidRow
set_option linter.unusedSimpArgs false
set_option linter.unusedVariables false
namespace Go.Proofs.YtnjjajanfedjiaaGreatDoor
theorem perm_flat {a b : List Jb} (h : a.Perm b) : (a.flatMap (·.outs)).Perm (b.flatMap (·.outs)) := h.flatMap_right _
theorem perm_check {f g : Fl} {m : Cm} (h : checkP f = .ok m) (hi : g.ins = f.ins) (ho : g.outs = f.outs) (hj : g.jobs.Perm f.jobs) :
  ∃ m' l, checkP g = .ok m' ∧ orderP g = .ok l ∧ Valid g l ∧ l.length = g.jobs.length ∧ (∀ n, m'.lookup n = m.lookup n) ∧ (m'.map (·.1)).Nodup := by
 obtain ⟨h1, h2, h3, h4, h5⟩ := check_ok h
 have hp : (allN g).Perm (allN f) := by
  unfold allN
  rw [hi]
  exact (perm_flat hj).append_left _
 have hm : ∀ j, j ∈ g.jobs ↔ j ∈ f.jobs := fun j => hj.mem_iff
 have hN : NmOk g := ⟨hp.nodup_iff.2 h2.nodup, fun j hj n hn => hp.mem_iff.2 (h2.ins j ((hm j).1 hj) n hn), fun x hx => hp.mem_iff.2 (h2.src x (ho ▸ hx)), ho ▸ h2.told⟩
 obtain ⟨r, hr⟩ := h3
 have hR : Ranked g := ⟨r, fun j hj n hn => by
  rcases hr j ((hm j).1 hj) n hn with h | ⟨d, hd, h⟩
  ·exact .inl (hi ▸ h)
  ·exact .inr ⟨d, (hm d).2 hd, h⟩⟩
 have hS : Sol g fun n => m.lookup n := ⟨fun x hx => h4.ins x (hi ▸ hx), fun j hj => h4.jobs j ((hm j).1 hj), fun n hn => h4.none n fun hh => hn (hp.mem_iff.2 hh)⟩
 obtain ⟨m', l, a, b, c, d, e, k⟩ := check_of (fun x hx => h1 x (hi ▸ hx)) hN hR hS
 exact ⟨m', l, a, b, c, d, e, k⟩
def newJ (name inp : Bs) : Jb := ⟨0, 6, [name], [inp], [], [], ⟨[], zV⟩, ⟨[], zV⟩, 0⟩
def moreF (f : Fl) (name : Bs) : Fl := ⟨f.ins, newJ name ((f.ins.headD ⟨0, [], []⟩).name) :: f.jobs, f.outs⟩
end Go.Proofs.YtnjjajanfedjiaaGreatDoor
namespace Go.Proofs.YtnjjajanfedjiaaGreatDoor
open Go.RowKit Go.BigFrame
attribute [local go_sem] bs_size bs_extract bs_append bs_toList
def makerI (f : Fl) (n : Bs) : Int := if insB f n then -1 else findIx (fun j : Jb => j.outs.contains n) f.jobs
def makerB (f : Fl) (n : Bs) : Bool := insB f n || decide (0 ≤ findIx (fun j : Jb => j.outs.contains n) f.jobs)
theorem maker1_any (x : In) (vc : Value) (n : Bs) (X : Nat) (W : World) (h : W.cell? ⟨X, 0, none⟩ = some (.string (bs n))) :
  Calls Tryz.prog 102 #[.agg #[.int .i64 x.at_, .string (bs x.name), vc], .pointer (some ⟨X, 0, none⟩)] W fun e W' => e = .returned (.bool (x.name == n)) ∧ Keeps [] W W' := by
 have hl := World.block_lt_of_cell? _ _ h
 go_enter Tryz.func102, Tryz.ntmps102
 go_wp2
 go_ret
 exact ⟨rfl, (Keeps.refl _ _).alloc _⟩
theorem maker2_any (x : Jb) (v2 v3 v4 : Value) (n : Bs) (X : Nat) (W : World) (h : W.cell? ⟨X, 0, none⟩ = some (.string (bs n))) (h2 : TxIn W v2 x.outs) :
  Calls Tryz.prog 103 #[.agg (jbCells x v2 v3 v4), .pointer (some ⟨X, 0, none⟩)] W fun e W' => e = .returned (.bool (x.outs.contains n)) ∧ Keeps [] W W' := by
 have hl := World.block_lt_of_cell? _ _ h
 obtain ⟨hlen, A, c, rfl, hc, hR⟩ := h2
 have HC : Hid (∀ W', Keeps [] W W' → Calls Tryz.prog 55 #[.slice A x.outs.length c, .string (bs n)] W' fun e w' => e = .returned (.bool (x.outs.contains n)) ∧ W' = w') := Lib.hid fun W' z => by
  have := contains_str n x.outs A c W' (hR.keep z) hlen
  rw [← List.contains_eq_any_beq] at this
  exact this
 clear hR hc
 generalize x.outs.contains n = R at *
 unfold jbCells
 go_enter Tryz.func103, Tryz.ntmps103
 go_wp2_with ((with_reducible refine (HC.out _ ((Keeps.refl _ _).alloc _)).mono ?_); rintro e w5 ⟨rfl, rfl⟩)
 go_ret
 exact ⟨rfl, (Keeps.refl _ _).alloc _⟩
set_option maxRecDepth 100000 in
set_option maxHeartbeats 2000000 in
theorem maker_any (f : Fl) (v0 v1 v2 : Value) (n : Bs) (w : World) (hF : FlIn w v0 v1 v2 f) :
  Calls Tryz.prog 62 #[.agg #[v0, v1, v2], .string (bs n)] w fun e w' => e = .returned (.tuple #[.int .i64 (makerI f n), .bool (makerB f n)]) ∧ Keeps [] w w' := by
 have hk0 : Keeps [] w ((w.alloc (.cells #[v0, v1, v2] 26)).alloc (.cells #[.string (bs n)] 9)) := ((Keeps.refl _ _).alloc _).alloc _
 have hb1 := Blk.new (w.alloc (.cells #[v0, v1, v2] 26)) 9 #[.string (bs n)]
 have hb0 := (Blk.new w 26 #[v0, v1, v2]).alloc (.cells #[.string (bs n)] 9)
 rw [fsz] at hb1
 have HI : Hid (∀ W, Keeps [] ((w.alloc (.cells #[v0, v1, v2] 26)).alloc (.cells #[.string (bs n)] 9)) W → Calls Tryz.prog 51 #[v0, .func (.func 102) #[] #[.pointer (some ⟨w.heap.size + 1, 0, none⟩)]] W fun e w' => e = .returned (.bool (insB f n)) ∧ Keeps [] W w') := Lib.hid fun W z =>
  containsFuncI_any 102 _ (fun _ _ => by rfl) (fun x => x.name == n) f.ins v0 W (hF.i0.keep (hk0.trans z) fun _ _ h => h.keep (hk0.trans z)) (fun x hx W' cs z' hcs => by
   obtain ⟨vc, rfl, _⟩ := hcs
   exact maker1_any x vc n _ W' ((hb1.keep (z.trans z') (by simp)).cell 0))
 have HJ : Hid (∀ W, Keeps [] ((w.alloc (.cells #[v0, v1, v2] 26)).alloc (.cells #[.string (bs n)] 9)) W → Calls Tryz.prog 89 #[v1, .func (.func 103) #[] #[.pointer (some ⟨w.heap.size + 1, 0, none⟩)]] W fun e w' => e = .returned (.int .i64 (findIx (fun j : Jb => j.outs.contains n) f.jobs)) ∧ Keeps [] W w') := Lib.hid fun W z =>
  indexFuncJ_any 103 _ (fun _ _ => by rfl) (fun j => j.outs.contains n) f.jobs v1 W (hF.i1.keep (hk0.trans z) fun _ _ h => h.keep (hk0.trans z)) (fun x hx W' cs z' hcs => by
   obtain ⟨v2, v3, v4, rfl, h2, _, _⟩ := hcs
   exact maker2_any x v2 v3 v4 n _ W' ((hb1.keep (z.trans z') (by simp)).cell 0) h2)
 have hm : Hid (insB f n = true → makerI f n = -1 ∧ makerB f n = true) := Lib.hid fun h => by unfold makerI makerB; rw [h]; exact ⟨rfl, rfl⟩
 have hm2 : Hid (insB f n = false → makerI f n = findIx (fun j : Jb => j.outs.contains n) f.jobs ∧ makerB f n = decide (0 ≤ findIx (fun j : Jb => j.outs.contains n) f.jobs)) := Lib.hid fun h => by unfold makerI makerB; rw [h]; exact ⟨rfl, rfl⟩
 have HB0 : Hid (∀ W, Keeps [] ((w.alloc (.cells #[v0, v1, v2] 26)).alloc (.cells #[.string (bs n)] 9)) W → W.cell? ⟨w.heap.size, 1, none⟩ = some v1) := Lib.hid fun W z => (hb0.keep z (by simp)).cell 1
 have HK0 := Lib.hid hk0
 clear hF hb0 hb1 hk0
 generalize findIx (fun j : Jb => j.outs.contains n) f.jobs = K at *
 cases hins : insB f n with
 | true =>
  rw [hins] at HI
  obtain ⟨m1, m2⟩ := hm.out hins
  rw [m1, m2]
  clear m1 m2 hm hm2 HJ hins
  go_enter Tryz.func62, Tryz.ntmps62
  go_wp2_with ((with_reducible refine (HI.out _ (Keeps.refl _ _)).mono ?_); rintro e w5 ⟨rfl, k5⟩)
  go_ret2
  exact ⟨rfl, HK0.out.trans k5⟩
 | false =>
  rw [hins] at HI
  obtain ⟨m1, m2⟩ := hm2.out hins
  rw [m1, m2]
  clear m1 m2 hm hm2 hins
  go_enter Tryz.func62, Tryz.ntmps62
  go_wp2_with (first | ((with_reducible refine (HI.out _ (Keeps.refl _ _)).mono ?_); rintro e w5 ⟨rfl, k5⟩; have b1 := HB0.out _ k5) | ((with_reducible refine (HJ.out _ k5).mono ?_); rintro e w6 ⟨rfl, k6⟩))
  go_ret2
  exact ⟨rfl, HK0.out.trans (k5.trans k6)⟩
def intsN (l : List Nat) : List Int := l.map fun k : Nat => (k : Int)
theorem maker_there (f : Fl) (n : Bs) (done : List Nat) : (!makerB f n || (decide (0 ≤ makerI f n) && !((intsN done).any fun t => makerI f n == t))) = !thereB f done n := by
 have hx : findIx (fun j : Jb => j.outs.contains n) f.jobs = match mkIx f n with | some i => (i : Int) | none => -1 := rfl
 unfold makerB makerI thereB
 rw [hx]
 cases hi : insB f n with
 | true => simp
 | false =>
  cases hm : mkIx f n with
  | none => simp
  | some k =>
   have e : ((intsN done).any fun t => (k : Int) == t) = done.contains k := by
    rw [List.contains_eq_any_beq]
    unfold intsN
    rw [List.any_map]
    congr 1
    funext t
    rw [Bool.eq_iff_iff]
    simp
    omega
   simp [e]
set_option maxRecDepth 100000 in
set_option maxHeartbeats 2000000 in
theorem ready1_any (f : Fl) (v0 v1 v2 : Value) (n : Bs) (done : List Nat) (A : Option Addr) (c X Y : Nat) (w : World) (hF : FlIn w v0 v1 v2 f) (hX0 : w.cell? ⟨X, 0, none⟩ = some v0) (hX1 : w.cell? ⟨X, 1, none⟩ = some v1) (hX2 : w.cell? ⟨X, 2, none⟩ = some v2)
  (hY : w.cell? ⟨Y, 0, none⟩ = some (.slice A (intsN done).length c)) (hR : Rd w [] 1 A (intsN done).length ((intsN done).map (Value.int .i64))) (hl : (intsN done).length ≤ 4294967296) :
  Calls Tryz.prog 61 #[.string (bs n), .pointer (some ⟨X, 0, none⟩), .pointer (some ⟨Y, 0, none⟩)] w fun e w' => e = .returned (.bool (!thereB f done n)) ∧ Keeps [] w w' := by
 rw [← maker_there]
 have HM := Lib.hid (maker_any f v0 v1 v2 n w hF)
 have HC : Hid (∀ W, Keeps [] w W → Calls Tryz.prog 24 #[.slice A (intsN done).length c, .int .i64 (makerI f n)] W fun e w' => e = .returned (.bool ((intsN done).any fun t => makerI f n == t)) ∧ W = w') := Lib.hid fun W z => contains_int _ _ A c W (hR.keep z) hl
 have HY : Hid (∀ W, Keeps [] w W → W.cell? ⟨Y, 0, none⟩ = some (.slice A (intsN done).length c)) := Lib.hid fun W z => z.cell_of hY (by simp)
 clear hF hR hY
 generalize ((intsN done).any fun t => makerI f n == t) = Q at *
 generalize makerI f n = K at *
 have l0 := World.block_lt_of_cell? _ _ hX0
 cases hB : makerB f n with
 | false =>
  rw [hB] at HM
  go_enter Tryz.func61, Tryz.ntmps61
  go_wp2_with ((with_reducible refine HM.out.mono ?_); rintro e w5 ⟨rfl, k5⟩)
  go_ret
  exact ⟨rfl, k5⟩
 | true =>
  rw [hB] at HM
  by_cases h0 : 0 ≤ K
  ·rw [decide_eq_true h0]
   go_enter Tryz.func61, Tryz.ntmps61
   go_wp2_with (first | ((with_reducible refine HM.out.mono ?_); rintro e w5 ⟨rfl, k5⟩; have b1 := HY.out _ k5) | ((with_reducible refine (HC.out _ k5).mono ?_); rintro e w6 ⟨rfl, rfl⟩))
   go_ret
   exact ⟨by cases Q <;> rfl, k5⟩
  ·rw [decide_eq_false h0]
   go_enter Tryz.func61, Tryz.ntmps61
   go_wp2_with ((with_reducible refine HM.out.mono ?_); rintro e w5 ⟨rfl, k5⟩)
   go_ret
   exact ⟨rfl, k5⟩
theorem job_at {W : World} {v1 : Value} {l : List Jb} (h : LsIn JbIn 15 W v1 l) (k : Nat) (hk : k < l.length) : ∃ g c v2 v3 v4, v1 = .slice (some ⟨g, 0, none⟩) l.length c ∧ l.length ≤ 4294967296 ∧ TxIn W v2 l[k].outs ∧ TxIn W v3 l[k].ins ∧ TxIn W v4 l[k].cols ∧ ∀ i u, (jbCells l[k] v2 v3 v4).toList[i]? = some u → W.cell? ⟨g, k * 15 + i, none⟩ = some u := by
 obtain ⟨hl, A, c, rfl, _, h⟩ := h
 obtain ⟨g, cs, rfl, hg, _, ⟨v2, v3, v4, rfl, h2, h3, h4⟩, hc⟩ := h k hk
 exact ⟨g, c, v2, v3, v4, rfl, hl, h2, h3, h4, hc⟩
set_option maxRecDepth 100000 in
set_option maxHeartbeats 2000000 in
theorem ready_any (f : Fl) (v0 v1 v2 : Value) (k : Nat) (hk : k < f.jobs.length) (done : List Nat) (A : Option Addr) (c : Nat) (w : World) (hF : FlIn w v0 v1 v2 f) (hR : Rd w [] 1 A (intsN done).length ((intsN done).map (Value.int .i64))) (hl : (intsN done).length ≤ 4294967296) :
  Calls Tryz.prog 25 #[.agg #[v0, v1, v2], .int .i64 k, .slice A (intsN done).length c] w fun e w' => e = .returned (.bool (readyB f done k)) ∧ Keeps [] w w' := by
 obtain ⟨g, cj, u2, u3, u4, rfl, hjl, h2, h3, h4, hcj⟩ := job_at hF.i1 k hk
 have hk0 : Keeps [] w ((w.alloc (.cells #[v0, .slice (some ⟨g, 0, none⟩) f.jobs.length cj, v2] 26)).alloc (.cells #[.slice A (intsN done).length c] 55)) := ((Keeps.refl _ _).alloc _).alloc _
 have hb1 := Blk.new (w.alloc (.cells #[v0, .slice (some ⟨g, 0, none⟩) f.jobs.length cj, v2] 26)) 55 #[.slice A (intsN done).length c]
 have hb0 := (Blk.new w 26 #[v0, .slice (some ⟨g, 0, none⟩) f.jobs.length cj, v2]).alloc (.cells #[.slice A (intsN done).length c] 55)
 rw [fsz] at hb1
 have hj3 : w.cell? ⟨g, k * 15 + 3, none⟩ = some u3 := hcj 3 _ rfl
 have hgl := World.block_lt_of_cell? _ _ hj3
 obtain ⟨h3l, A3, c3, rfl, hc3, hR3⟩ := h3
 have hi : (k : Int) < (f.jobs.length : Int) := by omega
 have e1 : readyB f done k = !(f.jobs[k].ins.any fun n => !thereB f done n) := by
  unfold readyB
  rw [jb_lt hk, List.all_eq_not_any_not]
 rw [e1]
 have HC : Hid (∀ W, Keeps [] ((w.alloc (.cells #[v0, .slice (some ⟨g, 0, none⟩) f.jobs.length cj, v2] 26)).alloc (.cells #[.slice A (intsN done).length c] 55)) W → Calls Tryz.prog 60 #[.slice A3 f.jobs[k].ins.length c3, .func (.func 61) #[] #[.pointer (some ⟨w.heap.size, 0, none⟩), .pointer (some ⟨w.heap.size + 1, 0, none⟩)]] W fun e w' => e = .returned (.bool (f.jobs[k].ins.any fun n => !thereB f done n)) ∧ Keeps [] W w') := Lib.hid fun W z =>
  containsFuncS_any 61 _ (fun _ _ => by rfl) (fun n => !thereB f done n) f.jobs[k].ins A3 c3 W (hR3.keep (hk0.trans z)) h3l (fun n hn W' z' => ready1_any f v0 _ v2 n done A c _ _ W' (hF.keep (hk0.trans (z.trans z'))) ((hb0.keep (z.trans z') (by simp)).cell 0) ((hb0.keep (z.trans z') (by simp)).cell 1) ((hb0.keep (z.trans z') (by simp)).cell 2) ((hb1.keep (z.trans z') (by simp)).cell 0) (hR.keep (hk0.trans (z.trans z'))) hl)
 have HK0 := Lib.hid hk0
 generalize (f.jobs[k].ins.any fun n => !thereB f done n) = Q at *
 generalize f.jobs[k].ins.length = m3 at *
 clear hF hb0 hb1 hk0 hcj hR hl hR3 h2 h4 e1 hc3
 go_enter Tryz.func25, Tryz.ntmps25
 go_wp2_with ((with_reducible refine (HC.out _ (Keeps.refl _ _)).mono ?_); rintro e w5 ⟨rfl, k5⟩)
 go_ret
 exact ⟨rfl, HK0.out.trans k5⟩
end Go.Proofs.YtnjjajanfedjiaaGreatDoor
namespace Go.Proofs.YtnjjajanfedjiaaGreatDoor
open Go.RowKit
theorem Blk.new' (W : World) (k : Nat) (t : TypeId) (c : Array Value) (hk : k = W.heap.size) : Blk (W.alloc (.cells c t)) k t c := hk ▸ Blk.new W t c
end Go.Proofs.YtnjjajanfedjiaaGreatDoor
