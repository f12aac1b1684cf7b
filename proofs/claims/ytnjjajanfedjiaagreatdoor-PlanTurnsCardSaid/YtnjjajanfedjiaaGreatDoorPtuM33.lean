/- Jobs as plain data: what one makes of a table, code by code; it may be. No program in sight. plan.Check. The law's right: a flow that was read, and of which nothing is found. -/
import Derived.Test.YtnjjajanfedjiaaGreatDoorPtuM32
import Derived.Test.YtnjjajanfedjiaaGreatDoorPtuM22
import Derived.Test.YtnjjajanfedjiaaGreatDoorPtuM30
import Derived.Test.YtnjjajanfedjiaaGreatDoorPtuM20
import Derived.Test.YtnjjajanfedjiaaGreatDoorPtuM17
import Derived.Test.YtnjjajanfedjiaaGreatDoorPtuM25
import Derived.Laws.ResultCell
import Derived.Deep.DeepCutAuto
import Derived.Test.YtnjjajanfedjiaaGreatDoorPtuM23
set_option linter.unusedSimpArgs false
set_option linter.unusedVariables false
namespace Go.Proofs.YtnjjajanfedjiaaGreatDoor
theorem colsB_iff {l : List Cl} : colsB l = true ↔ 1 ≤ l.length ∧ l.length ≤ 6 ∧ (∀ c ∈ l, nameB c.name = true ∧ (c.kind = 1 ∨ c.kind = 2)) ∧ (l.map (·.name)).Nodup := by
 unfold colsB
 simp only [Bool.and_eq_true, decide_eq_true_eq, List.all_eq_true]
 constructor
 ·rintro ⟨⟨h1, h2⟩, h3⟩
  have key : ∀ i (h : i < l.length), (nameB l[i].name = true ∧ (l[i].kind = 1 ∨ l[i].kind = 2)) ∧ ∀ k (hk : k < i), l[k].name ≠ l[i].name := fun i h => by
   have := h3 i (List.mem_range.2 h)
   unfold okCol at this
   rw [List.getElem?_eq_getElem h] at this
   simp only [Bool.and_eq_true, Bool.or_eq_true, decide_eq_true_eq, Bool.not_eq_true', List.any_eq_false, beq_iff_eq] at this
   refine ⟨this.1, fun k hk => this.2 _ ?_⟩
   rw [List.mem_take_iff_getElem]
   exact ⟨k, by omega, rfl⟩
  refine ⟨h1, h2, fun c hc => ?_, ?_⟩
  ·obtain ⟨i, hi, rfl⟩ := List.getElem_of_mem hc
   exact (key i hi).1
  ·rw [List.nodup_iff_pairwise_ne, List.pairwise_iff_getElem]
   intro i k hi hk hlt
   simp only [List.getElem_map]
   exact (key k (by simpa using hk)).2 i hlt
 ·rintro ⟨h1, h2, h3, h4⟩
  refine ⟨⟨h1, h2⟩, fun i hi => ?_⟩
  have h := List.mem_range.1 hi
  unfold okCol
  rw [List.getElem?_eq_getElem h]
  simp only [Bool.and_eq_true, Bool.or_eq_true, decide_eq_true_eq, Bool.not_eq_true', List.any_eq_false, beq_iff_eq]
  refine ⟨h3 _ (List.getElem_mem h), fun x hx => ?_⟩
  rw [List.mem_take_iff_getElem] at hx
  obtain ⟨k, hk, rfl⟩ := hx
  rw [List.nodup_iff_pairwise_ne, List.pairwise_iff_getElem] at h4
  have := h4 k i (by simp; omega) (by simpa using h) (by omega)
  simpa using this
end Go.Proofs.YtnjjajanfedjiaaGreatDoor
namespace Go.Proofs.YtnjjajanfedjiaaGreatDoor
open Go.RowKit Go.BigFrame
attribute [local go_sem] bs_size bs_extract bs_append bs_toList
def CmV (W : World) : List (Bs × Value) → Cm → Prop
 | [], [] => True
 | p :: mv, q :: m => p.1 = q.1 ∧ ClIn W p.2 q.2 ∧ CmV W mv m
 | _, _ => False
theorem CmV.keep {W W' : World} (hk : Keeps [] W W') : ∀ {mv : List (Bs × Value)} {m : Cm}, CmV W mv m → CmV W' mv m
 | [], [], _ => trivial
 | _ :: _, _ :: _, h => ⟨h.1, h.2.1.keep hk, CmV.keep hk h.2.2⟩
theorem CmV.len {W : World} : ∀ {mv : List (Bs × Value)} {m : Cm}, CmV W mv m → mv.length = m.length
 | [], [], _ => rfl
 | _ :: _, _ :: _, h => congrArg (· + 1) h.2.2.len
theorem CmV.fst {W : World} : ∀ {mv : List (Bs × Value)} {m : Cm}, CmV W mv m → mv.map (·.1) = m.map (·.1)
 | [], [], _ => rfl
 | p :: mv, q :: m, h => by rw [List.map_cons, List.map_cons, h.1, h.2.2.fst]
theorem CmV.look {W : World} (n : Bs) : ∀ {mv : List (Bs × Value)} {m : Cm}, CmV W mv m → (mv.lookup n = none ∧ m.lookup n = none) ∨ ∃ v c, mv.lookup n = some v ∧ m.lookup n = some c ∧ ClIn W v c
 | [], [], _ => .inl ⟨rfl, rfl⟩
 | p :: mv, q :: m, h => by
  obtain ⟨p1, p2⟩ := p
  obtain ⟨q1, q2⟩ := q
  obtain ⟨e, h1, h2⟩ := h
  simp only at e
  subst e
  rw [List.lookup_cons, List.lookup_cons]
  by_cases hx : n = p1
  ·subst hx
   simp only [beq_self_eq_true]
   exact .inr ⟨_, _, rfl, rfl, h1⟩
  ·have : (n == p1) = false := by simpa using hx
   rw [this]
   exact CmV.look n h2
theorem ClIn.nil (W : World) : ClIn W (.slice none 0 0) [] := ⟨by simp, none, 0, rfl, Nat.le_refl _, Rd.nil⟩
theorem CmV.get {W : World} {mv : List (Bs × Value)} {m : Cm} (h : CmV W mv m) (n : Bs) : ClIn W ((mv.lookup n).getD (.slice none 0 0)) (getM m n) := by
 unfold getM
 rcases h.look n with ⟨h1, h2⟩ | ⟨v, c, h1, h2, h3⟩
 ·rw [h1, h2]; exact ClIn.nil W
 ·rw [h1, h2]; exact h3
structure MpSt (w : World) (X b : Nat) (v0 v1 v2 : Value) (mv : List (Bs × Value)) (m : Cm) (W : World) : Prop where
 k : Keeps [] w W
 fb : Blk W X 26 #[v0, v1, v2]
 mp : MapH Tryz.prog 9 W b mv
 cv : CmV W mv m
 hb : w.heap.size ≤ b
 xb : X ≠ b
theorem cell_not_map {W : World} {b o : Nat} {es : Array MapEntry} {cl : Nat} {v : Value} (hb : W.heap[b]? = some (.map es cl)) : W.cell? ⟨b, o, none⟩ ≠ some v := by
 unfold World.cell?
 rw [hb]
 simp
theorem Rd.keepM {W W' : World} {b size n : Nat} {A : Option Addr} {xs : List Value} {es : Array MapEntry} {cl : Nat} (hb : W.heap[b]? = some (.map es cl)) (hk : Keeps [b] W W') (hs : 0 < size) (h : Rd W [] size A n xs) : Rd W' [] size A n xs := by
 refine ⟨h.1, fun hn => ?_⟩
 obtain ⟨ad, e, h1, h2, h3⟩ := h.2 hn
 have h0 : 0 < xs.length := by rw [h.1]; exact Nat.mul_pos hn hs
 obtain ⟨b2, o2, e2, _, _, h4⟩ := Rd.open' h hn hs
 rw [e] at e2
 injection e2 with e2
 subst e2
 have hne : b2 ≠ b := fun hh => by
  subst hh
  exact cell_not_map hb (h4 0 _ (List.getElem?_eq_getElem h0))
 exact ⟨_, e, h1, Nat.lt_of_lt_of_le h2 hk.size, fun j u hu => (hk.cell (by rw [block_add]; exact h2) (by rw [block_add]; simpa using hne)).trans (h3 j u hu)⟩
theorem ClIn.keepM {W W' : World} {b : Nat} {v : Value} {l : List Cl} {es : Array MapEntry} {cl : Nat} (hb : W.heap[b]? = some (.map es cl)) (hk : Keeps [b] W W') (h : ClIn W v l) : ClIn W' v l := by
 obtain ⟨h0, A, c, h1, h2, h3⟩ := h
 exact ⟨h0, A, c, h1, h2, h3.keepM hb hk (by decide)⟩
theorem CmV.keepM {W W' : World} {b : Nat} {es : Array MapEntry} {cl : Nat} (hb : W.heap[b]? = some (.map es cl)) (hk : Keeps [b] W W') : ∀ {mv : List (Bs × Value)} {m : Cm}, CmV W mv m → CmV W' mv m
 | [], [], _ => trivial
 | _ :: _, _ :: _, h => ⟨h.1, h.2.1.keepM hb hk, CmV.keepM hb hk h.2.2⟩
theorem MapH.isM {W : World} {b : Nat} {mv : List (Bs × Value)} (h : MapH Tryz.prog 9 W b mv) : ∃ es cl, W.heap[b]? = some (.map es cl) := by
 obtain ⟨D, ⟨es, cl, h1, _⟩, _⟩ := h
 exact ⟨es, cl, h1⟩
theorem MpSt.keep {w W W' : World} {X b : Nat} {v0 v1 v2 : Value} {mv : List (Bs × Value)} {m : Cm} (h : MpSt w X b v0 v1 v2 mv m W) (hk : Keeps [] W W') : MpSt w X b v0 v1 v2 mv m W' :=
 ⟨h.k.trans hk, h.fb.keep hk (by simp), h.mp.keep hk (by simp), h.cv.keep hk, h.hb, h.xb⟩
theorem MapH.get {w : World} {b : Nat} {mv : List (Bs × Value)} (h : MapH Tryz.prog 9 w b mv) (k : Bs) (hk : k.length ≤ 1000) : (Instr.lookup 52 (.map (some b)) (.string (bs k)) false).run Tryz.prog w = .ok ((mv.lookup k).getD (.slice none 0 0)) w :=
 MapH.look0 h (T := 52) (E := 59) Tryz.underlying52 Tryz.underlying9 (by kernel_rfl) k (by simp only [maxLen]; omega)
theorem MapH.put {w : World} {b : Nat} {mv : List (Bs × Value)} (h : MapH Tryz.prog 9 w b mv) (k : Bs) (v : Value) (hk : k.length ≤ 1000) (hn : mv.length ≤ 1000000000000000) : ∃ w', (Instr.mapUpdate 52 (.map (some b)) (.string (bs k)) v).run Tryz.prog w = .ok () w' ∧ MapH Tryz.prog 9 w' b ((k, v) :: mv) ∧ w.grownBy w' (some b) :=
 MapH.store h (T := 52) (E := 59) Tryz.underlying52 Tryz.underlying9 k v (by simp only [maxLen]; omega) (by simp only [maxLen]; omega)
theorem MpSt.put {w W W' : World} {X b : Nat} {v0 v1 v2 : Value} {mv : List (Bs × Value)} {m : Cm} (h : MpSt w X b v0 v1 v2 mv m W) {n : Bs} {v : Value} {c : List Cl} (hv : ClIn W v c) (hs : MapH Tryz.prog 9 W' b ((n, v) :: mv)) (hk : Keeps [b] W W') : MpSt w X b v0 v1 v2 ((n, v) :: mv) ((n, c) :: m) W' := by
 obtain ⟨es, cl, hb⟩ := h.mp.isM
 exact ⟨h.k.trans' hk (fun x hx hl => by rw [List.mem_singleton.1 hx] at hl; exact absurd h.hb (by omega)), h.fb.keep hk (by simpa using h.xb), hs, ⟨rfl, hv.keepM hb hk, h.cv.keepM hb hk⟩, h.hb, h.xb⟩
def CheckOut (R : Except (Int × Int) Cm) (base : Nat) (e : Ending) (w' : World) : Prop := match R with
 | .ok m => ∃ b mv, e = .returned (.tuple #[.map (some b), .nilIface]) ∧ MapH Tryz.prog 9 w' b mv ∧ CmV w' mv m ∧ base ≤ b
 | .error x => ∃ u, e = .returned (.tuple #[.map none, u]) ∧ AtErr x u w'
theorem checkP_eq (f : Fl) : checkP f = onE (insM f.ins []) fun m => onE (namesC f) fun _ => onE (orderP f) fun l => jobsM f l m := by
 unfold checkP onE
 cases insM f.ins [] with
 | error x => rfl
 | ok m =>
  show (namesC f >>= _) = _
  simp only
  cases namesC f with
  | error x => rfl
  | ok u =>
   show (orderP f >>= _) = _
   simp only
   cases orderP f with
   | error x => rfl
   | ok l => rfl
theorem insM_cons (x : In) (l : List In) (m : Cm) : insM (x :: l) m = if colsB x.cols then insM l ((x.name, x.cols) :: m) else .error (3, x.at_) := rfl
theorem natsV_at (l : List Nat) (t : Nat) (h : t < l.length) : (natsV l)[t]? = some (.int .i64 (l[t] : Nat)) := by simp [natsV, intsN, h]
theorem outs_le {js : List Jb} {j : Jb} (h : j ∈ js) : j.outs.length ≤ (js.flatMap (·.outs)).length := by
 induction js with
 | nil => cases h
 | cons q js ih =>
  rw [List.flatMap_cons, List.length_append]
  rcases List.mem_cons.1 h with rfl | h
  ·omega
  ·have := ih h; omega
def jobsNext (f : Fl) (ks : List Nat) (x : Jb) (m : Cm) (r : Except Int (List (List Cl))) : Except (Int × Int) Cm := match r with
 | .error e => .error (e, x.at_)
 | .ok cs => jobsM f ks (putM x.outs cs m)
theorem jobsM_cons (f : Fl) (k : Nat) (ks : List Nat) (m : Cm) : jobsM f (k :: ks) m = jobsNext f ks (jb f k) m (colsJ (jb f k) ((jb f k).ins.map (getM m))) := by
 unfold jobsNext
 rw [jobsM]
 cases colsJ (jb f k) (List.map (getM m) (jb f k).ins) <;> rfl
theorem putM_drop (ns : List Bs) (cs : List (List Cl)) (q : Nat) (h : q < ns.length) (h' : q < cs.length) (m : Cm) : putM (ns.drop q) (cs.drop q) m = putM (ns.drop (q + 1)) (cs.drop (q + 1)) ((ns[q], cs[q]) :: m) := by
 rw [List.drop_eq_getElem_cons h, List.drop_eq_getElem_cons h']
 rfl
theorem putM_end (ns : List Bs) (cs : List (List Cl)) (q : Nat) (h : ns.length ≤ q) (m : Cm) : putM (ns.drop q) (cs.drop q) m = m := by
 rw [List.drop_of_length_le h]
 unfold putM
 rfl
def HdV (W0 W : World) (base : Nat) (u : Value) (cs : List (List Cl)) : Prop := ∃ us : List Value, us.length = cs.length ∧ W.ownsRow base 59 1 u cs.length us ∧ ∀ i (h : i < us.length) (h' : i < cs.length), ClIn W0 us[i] cs[i]
theorem HdV.nil (W0 W : World) (base : Nat) : HdV W0 W base (.slice none 0 0) [] := ⟨[], rfl, World.ownsRow_nil _ _ _ _, fun i h => absurd h (by simp)⟩
theorem HdV.heads {W0 W : World} {base : Nat} {u : Value} {cs : List (List Cl)} (h : HdV W0 W base u cs) (hk : Keeps [] W0 W) : ∃ A c, u = .slice A cs.length c ∧ RdHeads W A cs := by
 obtain ⟨us, h1, h2, h3⟩ := h
 obtain ⟨A, c, rfl, hc, hr⟩ := own_rdm h2
 exact ⟨A, c, rfl, us, h1, hr, fun i hi hi' => by
  obtain ⟨-, B, d, e, hd, hB⟩ := h3 i hi hi'
  exact ⟨B, d, e, hd, hB.keep hk⟩⟩
theorem llinfo : (Tryz.prog.info? 59).map (fun i => (i.zero, i.size, i.bytes)) = some (some (.slice none 0 0), 1, 24) := by kernel_rfl
theorem RdHeads.keepM {W W' : World} {b : Nat} {A : Option Addr} {ls : List (List Cl)} {es : Array MapEntry} {cl : Nat} (hb : W.heap[b]? = some (.map es cl)) (hk : Keeps [b] W W') (h : RdHeads W A ls) : RdHeads W' A ls := by
 obtain ⟨us, h1, h2, h3⟩ := h
 exact ⟨us, h1, h2.keepM hb hk (by decide), fun i hi hi' => by
  obtain ⟨B, d, e, hd, hB⟩ := h3 i hi hi'
  exact ⟨B, d, e, hd, hB.keepM hb hk (by decide)⟩⟩
set_option maxRecDepth 100000 in
set_option maxHeartbeats 8000000 in
theorem check_any (f : Fl) (v0 v1 v2 : Value) (w : World) (hF : FlIn w v0 v1 v2 f) (hS : ShortF f) (hE : CEnv w) (hT : ErrTy w) (hcl : ∀ x ∈ f.ins, ∀ c ∈ x.cols, c.name.length ≤ 1000000000) :
  Calls Tryz.prog 17 #[.agg #[v0, v1, v2]] w fun e w' => CheckOut (checkP f) w.heap.size e w' ∧ Keeps [] w w' := by
 have hmm := @run_makeMap Tryz.prog
 obtain ⟨i0, hi0, hz0, hz1, hz2⟩ := info_parts llinfo
 obtain ⟨R, hR⟩ : ∃ R, checkP f = R := ⟨_, rfl⟩
 rw [hR]
 rw [checkP_eq] at hR
 have HF := Lib.hid hF
 have hF0 := hF.i0
 have hF1 := hF.i1
 have hF2 := hF.i2
 obtain ⟨hn0, A0, c0, rfl, hc0, hat0⟩ := hF0
 obtain ⟨hn1, A1, c1, rfl, hc1, hat1⟩ := hF1
 obtain ⟨hn2, A2, c2, rfl, hc2, hat2⟩ := hF2
 have H0 := Lib.hid hat0
 have H1 := Lib.hid hat1
 have HR := Lib.hid hR
 have HS := Lib.hid hS
 have HE := Lib.hid hE
 have HT := Lib.hid hT
 have HCL := Lib.hid hcl
 have hst : MpSt w w.heap.size (w.heap.size + 1) (.slice A0 f.ins.length c0) (.slice A1 f.jobs.length c1) (.slice A2 f.outs.length c2) [] [] ((w.alloc (.cells #[.slice A0 f.ins.length c0, .slice A1 f.jobs.length c1, .slice A2 f.outs.length c2] 26)).alloc (.map #[] 0)) := by
  have hm := MapH.made (P := Tryz.prog) (S := 9) (w.alloc (.cells #[.slice A0 f.ins.length c0, .slice A1 f.jobs.length c1, .slice A2 f.outs.length c2] 26))
  rw [fsz] at hm
  exact ⟨((Keeps.refl _ _).alloc _).alloc _, (Blk.new _ _ _).alloc _, hm, trivial, by omega, by omega⟩
 have HST := Lib.hid hst
 clear hF hR hS hat0 hat1 hat2 hst hE hT hcl
 obtain ⟨X, hX⟩ : ∃ X, w.heap.size = X := ⟨_, rfl⟩
 go_enter Tryz.func17, Tryz.ntmps17
 go_upto_block 0 with (fail)
 rw [hX] at HST
 generalize ((w.alloc (.cells #[.slice A0 f.ins.length c0, .slice A1 f.jobs.length c1, .slice A2 f.outs.length c2] 26)).alloc (.map #[] 0)) = y0 at HST ⊢
 generalize hXb : X + 1 = b at HST ⊢
 have hbX : X ≤ b := by omega
 clear hmm
 go_cut [] (fun wx => ∃ mv m, Hid (MpSt w X b (.slice A0 f.ins.length c0) (.slice A1 f.jobs.length c1) (.slice A2 f.outs.length c2) mv m wx) ∧ m.length ≤ f.ins.length ∧ Hid (Six m) ∧ Hid (onE (namesC f) (fun _ => onE (orderP f) fun l => jobsM f l m) = R))
 case first =>
  have hil : f.ins.length ≤ 100000 := by
   have := HS.out.all
   unfold allN at this
   rw [List.length_append, List.length_map] at this
   omega
  go_wp2_with fail
  go_loopw [24] (fun i wr => ∃ (j : Nat) (mv : List (Bs × Value)) (m : Cm), j ≤ f.ins.length ∧ i = .int .i64 j ∧ m.length ≤ j ∧ Hid (Six m) ∧ Hid (MpSt w X b (.slice A0 f.ins.length c0) (.slice A1 f.jobs.length c1) (.slice A2 f.outs.length c2) mv m wr) ∧ Hid (onE (insM (f.ins.drop j) m) (fun m => onE (namesC f) fun _ => onE (orderP f) fun l => jobsM f l m) = R)) (fun i _ => f.ins.length - (intOf i).toNat)
  case atStart => exact ⟨0, [], [], Nat.zero_le _, rfl, Nat.le_refl _, Lib.hid (fun q hq => by cases hq), HST, HR⟩
  case round =>
   obtain ⟨j, mv, m, hj, rfl, hml, HSX, HN, HG⟩ := hrel
   obtain ⟨wj, rfl⟩ : ∃ z : World, z = wr := ⟨_, rfl⟩
   by_cases hjn : j < f.ins.length
   ·have hji : (j : Int) < (f.ins.length : Int) := by omega
    obtain ⟨g, cs, rfl, hg, -, ⟨vc, rfl, hci⟩, hc⟩ := H0.out j hjn
    have hci2 := hci
    obtain ⟨hcl, Ac, cc, rfl, hcc, hcr⟩ := hci
    have d0 := HN.out.k.cell_of (hc 0 _ rfl) (by simp)
    have d1 := HN.out.k.cell_of (hc 1 _ rfl) (by simp)
    have d2 := HN.out.k.cell_of (hc 2 _ rfl) (by simp)
    rw [Nat.add_zero] at d0
    have hl : (f.ins[j]).name.length ≤ 1000 := HS.out.names _ (by unfold allN; exact List.mem_append_left _ (List.mem_map.2 ⟨_, List.getElem_mem hjn, rfl⟩))
    have hcn := HCL.out _ (List.getElem_mem hjn)
    have hg2 := HG.out
    rw [List.drop_eq_getElem_cons hjn, insM_cons] at hg2
    obtain ⟨x, hx⟩ : ∃ x, f.ins[j] = x := ⟨_, rfl⟩
    rw [hx] at d0 d1 d2 hl hg2 hcl hcc hcr hcn hci2
    have HG2 := Lib.hid hg2
    have HCI := Lib.hid hci2
    have HC : Hid (∀ W, Keeps [] wj W → Calls Tryz.prog 56 #[.slice Ac x.cols.length cc] W fun e w' => e = .returned (.bool (colsB x.cols)) ∧ Keeps [] W w') := Lib.hid fun W z => rightCols_any x.cols Ac cc W (hcr.keep (HN.out.k.trans z)) hcc hcn hcl
    have hmvl := HN.out.cv.len
    clear hg2 hx hc hcr hcn hci2
    cases hcb : colsB x.cols with
    | true =>
     have HG3 : Hid (onE (insM (f.ins.drop (j + 1)) ((x.name, x.cols) :: m)) (fun m => onE (namesC f) fun _ => onE (orderP f) fun l => jobsM f l m) = R) := Lib.hid (by
      have := HG2.out
      rw [if_pos hcb] at this
      exact this)
     have HSX2 : Hid (Six ((x.name, x.cols) :: m)) := Lib.hid (HSX.out.put (colsB_iff.1 hcb).2.1)
     rw [hcb] at HC
     clear hcb
     go_wp2_with fail
     refine (HC.out _ ((Keeps.refl _ _).alloc _)).mono ?_
     rintro e w5 ⟨rfl, k5⟩
     have b5 := (Blk.new wj 63 #[.int .i64 x.at_, .string (bs x.name), .slice Ac x.cols.length cc]).keep k5 (by simp)
     have e1 : w5.cell? ⟨wj.heap.size, 1, none⟩ = some (.string (bs x.name)) := b5.cell 1
     have e2 : w5.cell? ⟨wj.heap.size, 2, none⟩ = some (.slice Ac x.cols.length cc) := b5.cell 2
     have el := b5.lt
     have HN5 := Lib.hid (HN.out.keep (((Keeps.refl _ _).alloc (.cells #[.int .i64 x.at_, .string (bs x.name), .slice Ac x.cols.length cc] 63)).trans k5))
     obtain ⟨w6, hrun, hs6, hg6⟩ := HN5.out.mp.put x.name (.slice Ac x.cols.length cc) hl (by rw [hmvl]; omega)
     have HN6 := Lib.hid (HN5.out.put (HCI.out.keep HN5.out.k) hs6 ((Keeps.refl [b] _).grown hg6 (fun g hg => .inl (by injection hg with hg; simp [hg]))))
     clear b5 k5 hs6 hg6
     go_wp2
     go_roundw
     case rel => exact ⟨j + 1, _, _, by omega, by go_num, by simp only [List.length_cons]; omega, HSX2, HN6, HG3⟩
     case measure => simp [intOf]; omega
    | false =>
     have HEE : Hid (R = .error (3, x.at_)) := Lib.hid (by
      have := HG2.out
      rw [hcb] at this
      exact this.symm)
     rw [hcb] at HC
     clear hcb
     go_wp2_with fail
     refine (HC.out _ ((Keeps.refl _ _).alloc _)).mono ?_
     rintro e w5 ⟨rfl, k5⟩
     have b5 := (Blk.new wj 63 #[.int .i64 x.at_, .string (bs x.name), .slice Ac x.cols.length cc]).keep k5 (by simp)
     have e0 : w5.cell? ⟨wj.heap.size, 0, none⟩ = some (.int .i64 x.at_) := b5.cell 0
     have el := b5.lt
     have HK5 := Lib.hid ((HN.out.k.alloc _).trans k5)
     clear b5 k5
     go_wp2
     go_region
     all_goals
      go_wp2
      go_ret2
      exact ⟨by rw [HEE.out]; exact ⟨_, rfl, _, rfl, (Blk.new _ _ _).drew⟩, (HK5.out.alloc _).drew⟩
   ·have hji : ¬ (j : Int) < (f.ins.length : Int) := by omega
    have HG3 : Hid (onE (namesC f) (fun _ => onE (orderP f) fun l => jobsM f l m) = R) := Lib.hid (by
     have := HG.out
     rw [List.drop_of_length_le (by omega)] at this
     exact this)
    go_wp2
    go_meet
    case rel => exact ⟨mv, m, HN, by omega, HSX, HG3⟩
 case rest =>
  obtain ⟨mv, m, HN, hml, HSX, HG⟩ := hcut
  clear HST HR
  have p0 : wc.cell? ⟨X, 0, none⟩ = some (.slice A0 f.ins.length c0) := HN.out.fb.cell 0
  have p1 : wc.cell? ⟨X, 1, none⟩ = some (.slice A1 f.jobs.length c1) := HN.out.fb.cell 1
  have p2 : wc.cell? ⟨X, 2, none⟩ = some (.slice A2 f.outs.length c2) := HN.out.fb.cell 2
  have pl := HN.out.fb.lt
  have HNC := Lib.hid (planNames_any f _ _ _ wc (HF.out.keep HN.out.k) HS.out)
  cases hnc : namesC f with
  | error x =>
   rw [hnc] at HNC
   have HEE : Hid (R = .error x) := Lib.hid (by
    have := HG.out
    rw [hnc] at this
    exact this.symm)
   clear hnc HG
   go_wp2_with fail
   refine HNC.out.mono ?_
   rintro e w5 ⟨⟨u, rfl, gi, rfl, hb5⟩, k5⟩
   have HB5 := Lib.hid hb5
   have HK5 := Lib.hid (HN.out.k.trans k5)
   clear hb5 k5
   go_wp2
   go_ret2
   exact ⟨by rw [HEE.out]; exact ⟨_, rfl, _, rfl, HB5.out⟩, HK5.out⟩
  | ok uu =>
   rw [hnc] at HNC
   have HG1 : Hid (onE (orderP f) (fun l => jobsM f l m) = R) := Lib.hid (by
    have := HG.out
    rw [hnc] at this
    exact this)
   clear hnc HG
   go_wp2_with fail
   refine HNC.out.mono ?_
   rintro e w5 ⟨he, k5⟩
   obtain rfl : e = .returned .nilIface := he
   have HN5 := Lib.hid (HN.out.keep k5)
   clear HN k5 p0 p1 p2 pl HNC
   have p0 : w5.cell? ⟨X, 0, none⟩ = some (.slice A0 f.ins.length c0) := HN5.out.fb.cell 0
   have p1 : w5.cell? ⟨X, 1, none⟩ = some (.slice A1 f.jobs.length c1) := HN5.out.fb.cell 1
   have p2 : w5.cell? ⟨X, 2, none⟩ = some (.slice A2 f.outs.length c2) := HN5.out.fb.cell 2
   have pl := HN5.out.fb.lt
   have HOC := Lib.hid (order_any f _ _ _ w5 (HF.out.keep HN5.out.k))
   cases hoc : orderP f with
   | error x =>
    rw [hoc] at HOC
    have HEE : Hid (R = .error x) := Lib.hid (by
     have := HG1.out
     rw [hoc] at this
     exact this.symm)
    clear hoc HG1
    go_wp2_with fail
    refine HOC.out.mono ?_
    rintro e w6 ⟨⟨gi, rfl, hb5⟩, k6⟩
    have HB5 := Lib.hid hb5
    have HK5 := Lib.hid (HN5.out.k.trans k6)
    clear hb5 k6
    go_wp2
    go_ret2
    exact ⟨by rw [HEE.out]; exact ⟨_, rfl, _, rfl, HB5.out⟩, HK5.out⟩
   | ok l =>
    rw [hoc] at HOC
    have HG2 : Hid (jobsM f l m = R) := Lib.hid (by
     have := HG1.out
     rw [hoc] at this
     exact this)
    obtain ⟨hvl, hll⟩ := orderP_ok hoc
    have HLT := Lib.hid hvl.lt
    clear hoc HG1 hvl
    go_wp2_with fail
    refine HOC.out.mono ?_
    rintro e w6 ⟨⟨Al, cl, rfl, hlc, hlr⟩, k6⟩
    have HN6 := Lib.hid (HN5.out.keep k6)
    have HLR := Lib.hid hlr
    have HK6 := Lib.hid k6
    have HSZ : Hid (w.heap.size ≤ w6.heap.size) := Lib.hid HN6.out.k.size
    clear k6 hlr p0 p1 p2 pl HOC HN5
    have p0 : w6.cell? ⟨X, 0, none⟩ = some (.slice A0 f.ins.length c0) := HN6.out.fb.cell 0
    have p1 : w6.cell? ⟨X, 1, none⟩ = some (.slice A1 f.jobs.length c1) := HN6.out.fb.cell 1
    have pl := HN6.out.fb.lt
    have hil : f.ins.length ≤ 100000 := by
     have := HS.out.all
     unfold allN at this
     rw [List.length_append, List.length_map] at this
     omega
    go_wp2_with fail
    go_loopw [58] (fun i wr => ∃ (t : Nat) (mv : List (Bs × Value)) (m : Cm), t ≤ l.length ∧ i = .int .i64 t ∧ m.length ≤ 100000 + t * 100000 ∧ Hid (Six m) ∧ Hid (MpSt w X b (.slice A0 f.ins.length c0) (.slice A1 f.jobs.length c1) (.slice A2 f.outs.length c2) mv m wr) ∧ Hid (Rd wr [] 1 Al l.length (natsV l)) ∧ Hid (jobsM f (l.drop t) m = R)) (fun i _ => l.length - (intOf i).toNat)
    case atStart => exact ⟨0, mv, m, Nat.zero_le _, rfl, by omega, HSX, HN6, HLR, HG2⟩
    case round =>
     clear p0 p1 pl HN6 HG2 HLR hml HSX
     obtain ⟨t, mv, m, ht, rfl, hml, HSX, HN, HLR, HG⟩ := hrel
     obtain ⟨wt, rfl⟩ : ∃ z : World, z = wr := ⟨_, rfl⟩
     have p1 : wt.cell? ⟨X, 1, none⟩ = some (.slice A1 f.jobs.length c1) := HN.out.fb.cell 1
     have pl := HN.out.fb.lt
     by_cases htn : t < l.length
     ·have hti : (t : Int) < (l.length : Int) := by omega
      have hti2 : t < f.jobs.length := by omega
      have hti3 : (t : Int) < (f.jobs.length : Int) := by omega
      obtain ⟨bl, ol, rfl, -, hbl, hcl2⟩ := HLR.out.open' (by omega) (by omega)
      have q0 : wt.cell? ⟨bl, ol + t, none⟩ = some (.int .i64 (l[t] : Nat)) := hcl2 t _ (natsV_at l t htn)
      have hk := HLT.out _ (List.getElem_mem htn)
      have hg2 := HG.out
      rw [List.drop_eq_getElem_cons htn, jobsM_cons] at hg2
      obtain ⟨k, hk0⟩ : ∃ k, l[t] = k := ⟨_, rfl⟩
      rw [hk0] at q0 hk hg2
      have hki : (k : Int) < (f.jobs.length : Int) := by omega
      obtain ⟨g, cs, rfl, hg, -, ⟨_, _, _, rfl, ⟨ho1, B2, e2, rfl, ho2, ho3⟩, ⟨hi1, B3, e3, rfl, hi2, hi3⟩, ⟨hc1', B4, e4, rfl, hc2', hc3'⟩⟩, hc⟩ := H1.out k hk
      have d0 := HN.out.k.cell_of (hc 0 _ rfl) (by simp)
      have d1 := HN.out.k.cell_of (hc 1 _ rfl) (by simp)
      have d2 := HN.out.k.cell_of (hc 2 _ rfl) (by simp)
      have d3 := HN.out.k.cell_of (hc 3 _ rfl) (by simp)
      have d4 := HN.out.k.cell_of (hc 4 _ rfl) (by simp)
      have d5 := HN.out.k.cell_of (hc 5 _ rfl) (by simp)
      have d6 := HN.out.k.cell_of (hc 6 _ rfl) (by simp)
      have d7 := HN.out.k.cell_of (hc 7 _ rfl) (by simp)
      have d8 := HN.out.k.cell_of (hc 8 _ rfl) (by simp)
      have d9 := HN.out.k.cell_of (hc 9 _ rfl) (by simp)
      have d10 := HN.out.k.cell_of (hc 10 _ rfl) (by simp)
      have d11 := HN.out.k.cell_of (hc 11 _ rfl) (by simp)
      have d12 := HN.out.k.cell_of (hc 12 _ rfl) (by simp)
      have d13 := HN.out.k.cell_of (hc 13 _ rfl) (by simp)
      have d14 := HN.out.k.cell_of (hc 14 _ rfl) (by simp)
      rw [Nat.add_zero] at d0
      rw [jb_lt hk] at hg2
      have hnm : ∀ n ∈ f.jobs[k].ins, n.length ≤ 1000 := fun n hn => HS.out.ins _ (List.getElem_mem hk) n hn
      have hno : ∀ n ∈ f.jobs[k].outs, n.length ≤ 1000 := fun n hn => HS.out.names n (by unfold allN; exact List.mem_append_right _ (List.mem_flatMap.2 ⟨_, List.getElem_mem hk, hn⟩))
      have hol : f.jobs[k].outs.length ≤ 100000 := by
       have h1 := outs_le (List.getElem_mem hk)
       have := HS.out.all
       unfold allN at this
       rw [List.length_append] at this
       omega
      obtain ⟨x, hx⟩ : ∃ x, f.jobs[k] = x := ⟨_, rfl⟩
      rw [hx] at d0 d1 d2 d3 d4 d5 d6 d7 d8 d9 d10 d11 d12 d13 d14 hnm hno hol hg2 ho1 ho2 ho3 hi1 hi2 hi3 hc1' hc2' hc3'
      have HG2 := Lib.hid hg2
      have HNM := Lib.hid hnm
      have HNO := Lib.hid hno
      have HO3 := Lib.hid ho3
      have HI3 := Lib.hid hi3
      have HC3 := Lib.hid hc3'
      have hmvl := HN.out.cv.len
      clear hcl2 hg2 hk0 hx hc hnm hno ho3 hi3 hc3' hk
      go_upto_block 4 with (fail)
      go_cut [13, 15] (fun u _ wx => Hid (HdV (wt.alloc (.cells #[.int .i64 x.at_, .int .i64 x.code, .slice B2 x.outs.length e2, .slice B3 x.ins.length e3, .slice B4 x.cols.length e4, .string (bs x.op), .string (bs x.left.col), .int .i64 x.left.val.kind, .int .i64 x.left.val.num, .string (bs x.left.val.word), .string (bs x.right.col), .int .i64 x.right.val.kind, .int .i64 x.right.val.num, .string (bs x.right.val.word), .int .i64 x.retry] 45)) wx (wt.alloc (.cells #[.int .i64 x.at_, .int .i64 x.code, .slice B2 x.outs.length e2, .slice B3 x.ins.length e3, .slice B4 x.cols.length e4, .string (bs x.op), .string (bs x.left.col), .int .i64 x.left.val.kind, .int .i64 x.left.val.num, .string (bs x.left.val.word), .string (bs x.right.col), .int .i64 x.right.val.kind, .int .i64 x.right.val.num, .string (bs x.right.val.word), .int .i64 x.retry] 45)).heap.size u (x.ins.map (getM m))) ∧ Hid (Keeps [] (wt.alloc (.cells #[.int .i64 x.at_, .int .i64 x.code, .slice B2 x.outs.length e2, .slice B3 x.ins.length e3, .slice B4 x.cols.length e4, .string (bs x.op), .string (bs x.left.col), .int .i64 x.left.val.kind, .int .i64 x.left.val.num, .string (bs x.left.val.word), .string (bs x.right.col), .int .i64 x.right.val.kind, .int .i64 x.right.val.num, .string (bs x.right.val.word), .int .i64 x.retry] 45)) wx))
      case first =>
       have hbx : Blk (wt.alloc (.cells #[.int .i64 x.at_, .int .i64 x.code, .slice B2 x.outs.length e2, .slice B3 x.ins.length e3, .slice B4 x.cols.length e4, .string (bs x.op), .string (bs x.left.col), .int .i64 x.left.val.kind, .int .i64 x.left.val.num, .string (bs x.left.val.word), .string (bs x.right.col), .int .i64 x.right.val.kind, .int .i64 x.right.val.num, .string (bs x.right.val.word), .int .i64 x.retry] 45)) wt.heap.size 45 #[.int .i64 x.at_, .int .i64 x.code, .slice B2 x.outs.length e2, .slice B3 x.ins.length e3, .slice B4 x.cols.length e4, .string (bs x.op), .string (bs x.left.col), .int .i64 x.left.val.kind, .int .i64 x.left.val.num, .string (bs x.left.val.word), .string (bs x.right.col), .int .i64 x.right.val.kind, .int .i64 x.right.val.num, .string (bs x.right.val.word), .int .i64 x.retry] := Blk.new _ _ _
       have hny := HN.out.keep ((Keeps.refl _ _).alloc (.cells #[.int .i64 x.at_, .int .i64 x.code, .slice B2 x.outs.length e2, .slice B3 x.ins.length e3, .slice B4 x.cols.length e4, .string (bs x.op), .string (bs x.left.col), .int .i64 x.left.val.kind, .int .i64 x.left.val.num, .string (bs x.left.val.word), .string (bs x.right.col), .int .i64 x.right.val.kind, .int .i64 x.right.val.num, .string (bs x.right.val.word), .int .i64 x.retry] 45))
       clear d0 d1 d2 d3 d4 d5 d6 d7 d8 d9 d10 d11 d12 d13 d14
       generalize hyw : (wt.alloc (.cells #[.int .i64 x.at_, .int .i64 x.code, .slice B2 x.outs.length e2, .slice B3 x.ins.length e3, .slice B4 x.cols.length e4, .string (bs x.op), .string (bs x.left.col), .int .i64 x.left.val.kind, .int .i64 x.left.val.num, .string (bs x.left.val.word), .string (bs x.right.col), .int .i64 x.right.val.kind, .int .i64 x.right.val.num, .string (bs x.right.val.word), .int .i64 x.retry] 45)) = y1 at hbx hny ⊢
       have HYW := Lib.hid hyw
       clear hyw
       have HNY := Lib.hid hny
       have x3 : y1.cell? ⟨wt.heap.size, 3, none⟩ = some (.slice B3 x.ins.length e3) := hbx.cell 3
       have xl := hbx.lt
       clear hbx hny
       go_wp2_with fail
       go_loopw [13, 15, 70] (fun u _ i wr => ∃ q : Nat, q ≤ x.ins.length ∧ i = .int .i64 q ∧ Hid (HdV y1 wr y1.heap.size u ((x.ins.take q).map (getM m))) ∧ Hid (Keeps [] y1 wr)) (fun _ _ i _ => x.ins.length - (intOf i).toNat)
       case atStart => exact ⟨0, Nat.zero_le _, rfl, Lib.hid (HdV.nil _ _ _), Lib.hid (Keeps.refl _ _)⟩
       case round =>
        clear x3 xl
        obtain ⟨q, hq, rfl, HH, HKQ⟩ := hrel
        obtain ⟨wq, rfl⟩ : ∃ z : World, z = wr := ⟨_, rfl⟩
        by_cases hqn : q < x.ins.length
        ·have hqi : (q : Int) < (x.ins.length : Int) := by omega
         have HNQ := Lib.hid (HNY.out.keep HKQ.out)
         obtain ⟨b6, o6, rfl, -, hb6, hc6⟩ := (HI3.out.keep HNQ.out.k).open' (by omega) (by omega)
         have s0 := hc6 q _ (strs_at' x.ins q hqn)
         have hln := HNM.out _ (List.getElem_mem hqn)
         have htk : (x.ins.take (q + 1)).map (getM m) = (x.ins.take q).map (getM m) ++ [getM m x.ins[q]] := by rw [List.take_succ_eq_append_getElem hqn, List.map_append]; rfl
         obtain ⟨n, hn⟩ : ∃ n, x.ins[q] = n := ⟨_, rfl⟩
         rw [hn] at s0 hln htk
         have lk := HNQ.out.mp.get n hln
         have hcv := HNY.out.cv.get n
         have HCV := Lib.hid hcv
         obtain ⟨hgl, Av, cv, ev, hcv1, hcv2⟩ := hcv
         rw [ev] at lk HCV
         have HTK := Lib.hid htk
         obtain ⟨us, hu1, hu2, hu3⟩ := HH.out
         have hlq : ((x.ins.take q).map (getM m)).length = q := by rw [List.length_map, List.length_take, Nat.min_eq_left hq]
         rw [hlq] at hu1 hu2
         obtain ⟨Au, cu, rfl, -⟩ := own_form hu2
         have HU2 := Lib.hid hu2
         have HU3 := Lib.hid hu3
         have HSQ := Lib.hid (show y1.heap.size ≤ (wq.alloc (.cells #[.slice Av (getM m n).length cv] 59)).heap.size by have := HKQ.out.size; simp; omega)
         have HMQ := Lib.hid (show q + 1 ≤ maxLen ∧ (q + 1) * 24 ≤ 140737488355328 by simp only [maxLen]; omega)
         clear hc6 hn htk hcv1 hcv2 ev hu2 hu3 HH
         go_wp2_with (at_builtin; refine wpList_append_own _ rfl _ _ 125 rfl y1.heap.size 59 i0 (.slice none 0 0) 1 24 Tryz.underlying125 hi0 hz0 hz1 hz2 rfl (by decide) _ _ _ rfl (HU2.out.alloc _) ⟨wq.heap.size, 0, none⟩ 1 1 [.slice Av (getM m n).length cv] rfl rfl (World.news_of_block (heap_alloc_new _ _)) (by simp [Value.oneCell']) HMQ.out.1 HMQ.out.2 HSQ.out ?_)
         intro vv w7 hown7 hgrow7 hnn7
         have HK7 := Lib.hid ((HKQ.out.alloc _).grown hgrow7 (fun g hg => .inr (HU2.out.lt g hg).1))
         have HH7 : Hid (HdV y1 w7 y1.heap.size vv ((x.ins.take (q + 1)).map (getM m))) := Lib.hid (by
          rw [HTK.out]
          refine ⟨us ++ [.slice Av (getM m n).length cv], by rw [List.length_append, List.length_append, hu1, hlq]; rfl, by rw [List.length_append, hlq]; exact hown7, fun i hi hi' => ?_⟩
          by_cases hiq : i < q
          ·rw [List.getElem_append_left (by omega), List.getElem_append_left (by omega)]
           exact HU3.out i (by omega) (by omega)
          ·have hi2 : i = q := by simp at hi; omega
           subst hi2
           rw [List.getElem_append_right (by omega), List.getElem_append_right (by omega)]
           simpa [hu1, hlq] using HCV.out)
         obtain ⟨g7, cap7, rfl⟩ : ∃ g7 cap7, vv = .slice (some ⟨g7, 0, none⟩) (q + 1) cap7 := by
          rcases hown7.2 with ⟨_, h0⟩ | ⟨g7, cap7, cur, hv, _⟩
          ·omega
          ·exact ⟨g7, cap7, hv⟩
         clear hown7 hgrow7 hnn7
         go_wp2
         go_roundw
         case rel => exact ⟨q + 1, by omega, by go_num, HH7, HK7⟩
         case measure => simp [intOf]; omega
        ·have hqi : ¬ (q : Int) < (x.ins.length : Int) := by omega
         have HH7 : Hid (HdV y1 wq y1.heap.size u13 (x.ins.map (getM m))) := Lib.hid (by
          have := HH.out
          rw [List.take_of_length_le (by omega)] at this
          exact this)
         go_wp2
         go_meet
         case rel => exact ⟨by rw [HYW.out]; exact HH7, by rw [HYW.out]; exact HKQ⟩
      case rest =>
       obtain ⟨HH, HKC⟩ := hcut
       clear d0 d1 d2 d3 d4 d5 d6 d7 d8 d9 d10 d11 d12 d13 d14
       obtain ⟨yc, rfl⟩ : ∃ z : World, z = wc := ⟨_, rfl⟩
       have HBX : Hid (Blk yc wt.heap.size 45 #[.int .i64 x.at_, .int .i64 x.code, .slice B2 x.outs.length e2, .slice B3 x.ins.length e3, .slice B4 x.cols.length e4, .string (bs x.op), .string (bs x.left.col), .int .i64 x.left.val.kind, .int .i64 x.left.val.num, .string (bs x.left.val.word), .string (bs x.right.col), .int .i64 x.right.val.kind, .int .i64 x.right.val.num, .string (bs x.right.val.word), .int .i64 x.retry]) := Lib.hid ((Blk.new _ _ _).keep HKC.out (by simp))
       have HNC2 := Lib.hid (HN.out.keep (((Keeps.refl _ _).alloc (.cells #[.int .i64 x.at_, .int .i64 x.code, .slice B2 x.outs.length e2, .slice B3 x.ins.length e3, .slice B4 x.cols.length e4, .string (bs x.op), .string (bs x.left.col), .int .i64 x.left.val.kind, .int .i64 x.left.val.num, .string (bs x.left.val.word), .string (bs x.right.col), .int .i64 x.right.val.kind, .int .i64 x.right.val.num, .string (bs x.right.val.word), .int .i64 x.retry] 45)).trans HKC.out))
       obtain ⟨Ah, ch, rfl, hhd⟩ := HH.out.heads HKC.out
       have hil2 : ∀ q ∈ x.ins.map (getM m), q.length ≤ 4294967 := fun q hq => by
        obtain ⟨n, _, rfl⟩ := List.mem_map.1 hq
        exact Nat.le_trans (HSX.out.get n) (by decide)
       have HCC : Hid (Calls Tryz.prog 58 #[.agg #[.int .i64 x.at_, .int .i64 x.code, .slice B2 x.outs.length e2, .slice B3 x.ins.length e3, .slice B4 x.cols.length e4, .string (bs x.op), .string (bs x.left.col), .int .i64 x.left.val.kind, .int .i64 x.left.val.num, .string (bs x.left.val.word), .string (bs x.right.col), .int .i64 x.right.val.kind, .int .i64 x.right.val.num, .string (bs x.right.val.word), .int .i64 x.retry], .slice Ah x.ins.length ch] yc fun e w' => ColsOut (colsJ x (x.ins.map (getM m))) e w' ∧ Keeps [] yc w') := Lib.hid (by
        have hca := colsA_any x B2 e2 B3 x.ins.length e3 B4 e4 (x.ins.map (getM m)) Ah ch yc (HE.out.quiet HNC2.out.k) ⟨HO3.out.keep HNC2.out.k, ho2, HC3.out.keep HNC2.out.k, hc2', ho1, hc1'⟩ hhd hil2
        rw [List.length_map] at hca
        exact hca)
       have HSIX := Lib.hid (fun cs (h : colsJ x (x.ins.map (getM m)) = .ok cs) => colsJ_six h (fun q hq => by
        obtain ⟨n, _, rfl⟩ := List.mem_map.1 hq
        exact HSX.out.get n))
       have HLEN := Lib.hid (fun cs (h : colsJ x (x.ins.map (getM m)) = .ok cs) => colsJ_len h)
       clear hhd hil2
       have y0 : yc.cell? ⟨wt.heap.size, 0, none⟩ = some (.int .i64 x.at_) := HBX.out.cell 0
       have y1 : yc.cell? ⟨wt.heap.size, 1, none⟩ = some (.int .i64 x.code) := HBX.out.cell 1
       have y2 : yc.cell? ⟨wt.heap.size, 2, none⟩ = some (.slice B2 x.outs.length e2) := HBX.out.cell 2
       have y3 : yc.cell? ⟨wt.heap.size, 3, none⟩ = some (.slice B3 x.ins.length e3) := HBX.out.cell 3
       have y4 : yc.cell? ⟨wt.heap.size, 4, none⟩ = some (.slice B4 x.cols.length e4) := HBX.out.cell 4
       have y5 : yc.cell? ⟨wt.heap.size, 5, none⟩ = some (.string (bs x.op)) := HBX.out.cell 5
       have y6 : yc.cell? ⟨wt.heap.size, 6, none⟩ = some (.string (bs x.left.col)) := HBX.out.cell 6
       have y7 : yc.cell? ⟨wt.heap.size, 7, none⟩ = some (.int .i64 x.left.val.kind) := HBX.out.cell 7
       have y8 : yc.cell? ⟨wt.heap.size, 8, none⟩ = some (.int .i64 x.left.val.num) := HBX.out.cell 8
       have y9 : yc.cell? ⟨wt.heap.size, 9, none⟩ = some (.string (bs x.left.val.word)) := HBX.out.cell 9
       have y10 : yc.cell? ⟨wt.heap.size, 10, none⟩ = some (.string (bs x.right.col)) := HBX.out.cell 10
       have y11 : yc.cell? ⟨wt.heap.size, 11, none⟩ = some (.int .i64 x.right.val.kind) := HBX.out.cell 11
       have y12 : yc.cell? ⟨wt.heap.size, 12, none⟩ = some (.int .i64 x.right.val.num) := HBX.out.cell 12
       have y13 : yc.cell? ⟨wt.heap.size, 13, none⟩ = some (.string (bs x.right.val.word)) := HBX.out.cell 13
       have y14 : yc.cell? ⟨wt.heap.size, 14, none⟩ = some (.int .i64 x.retry) := HBX.out.cell 14
       have yl := HBX.out.lt
       generalize hcr : colsJ x (x.ins.map (getM m)) = CR at HCC HSIX HLEN
       have HG3 : Hid (jobsNext f (l.drop (t + 1)) x m CR = R) := Lib.hid (by
        have := HG2.out
        rw [hcr] at this
        exact this)
       clear hcr
       cases CR with
       | error er =>
        have HEE : Hid (R = .error (er, x.at_)) := Lib.hid HG3.out.symm
        go_wp2_with fail
        refine HCC.out.mono ?_
        rintro e w7 ⟨hco, k7⟩
        obtain rfl : e = .returned (.tuple #[.slice none 0 0, .iface 27 (.int .i64 er)]) := hco
        have HTL : Hid (∀ W, Keeps [] w7 W → Calls Tryz.prog 49 #[.iface 27 (.int .i64 er)] W fun ev W' => ev = .returned (.int .i64 er) ∧ Keeps [] W W') := Lib.hid fun W z => tell_errno er W (HT.out.keep (HNC2.out.k.trans (k7.trans z)) (by simp))
        have z0 : ∀ W, Keeps [] w7 W → W.cell? ⟨wt.heap.size, 0, none⟩ = some (.int .i64 x.at_) := fun W z => (HBX.out.keep (k7.trans z) (by simp)).cell 0
        have HK7 := Lib.hid (HNC2.out.k.trans k7)
        clear k7 y0 y1 y2 y3 y4 y5 y6 y7 y8 y9 y10 y11 y12 y13 y14
        go_upto_region 27 with (fail)
        go_region_held3 (fun W => Keeps [] w7 W) (first | exact (Keeps.refl [] w7).drew | exact (Keeps.refl [] w7).drew.trans k8 | exact Keeps.alloc ‹_› _) (first | ((with_reducible refine (HTL.out _ (Keeps.refl [] w7).drew).mono ?_); rintro e w8 ⟨rfl, k8⟩))
        all_goals
         go_wp2
         go_ret2
         exact ⟨by rw [HEE.out]; exact ⟨_, rfl, _, rfl, Blk.new _ _ _⟩, (HK7.out.trans ((Keeps.refl [] w7).drew.trans k8)).alloc _⟩
       | ok out =>
        have HG4 : Hid (jobsM f (l.drop (t + 1)) (putM x.outs out m) = R) := HG3
        have hol2 := HLEN.out out rfl
        have HSX2 := Lib.hid (HSIX.out out rfl)
        go_wp2_with fail
        refine HCC.out.mono ?_
        rintro e w7 ⟨⟨B, d, rfl, hBd, hhd⟩, k7⟩
        have HHD := Lib.hid hhd
        have HN7 := Lib.hid (HNC2.out.keep k7)
        have HL7 := Lib.hid (HLR.out.keep (((Keeps.refl _ _).alloc (.cells #[.int .i64 x.at_, .int .i64 x.code, .slice B2 x.outs.length e2, .slice B3 x.ins.length e3, .slice B4 x.cols.length e4, .string (bs x.op), .string (bs x.left.col), .int .i64 x.left.val.kind, .int .i64 x.left.val.num, .string (bs x.left.val.word), .string (bs x.right.col), .int .i64 x.right.val.kind, .int .i64 x.right.val.num, .string (bs x.right.val.word), .int .i64 x.retry] 45)).trans (HKC.out.trans k7)))
        have z2 : w7.cell? ⟨wt.heap.size, 2, none⟩ = some (.slice B2 x.outs.length e2) := (HBX.out.keep k7 (by simp)).cell 2
        have zl := (HBX.out.keep k7 (by simp)).lt
        clear k7 y0 y1 y2 y3 y4 y5 y6 y7 y8 y9 y10 y11 y12 y13 y14 yl hhd
        go_wp2_with fail
        go_loopw [18, 19, 99] (fun _ _ i wr => ∃ (q : Nat) (mv' : List (Bs × Value)) (m' : Cm), q ≤ x.outs.length ∧ i = .int .i64 q ∧ m'.length ≤ m.length + q ∧ Hid (Six m') ∧ Hid (MpSt w X b (.slice A0 f.ins.length c0) (.slice (some ⟨g, 0, none⟩) f.jobs.length c1) (.slice A2 f.outs.length c2) mv' m' wr) ∧ Hid (Rd wr [] 1 (some ⟨bl, ol, none⟩) l.length (natsV l)) ∧ Hid (RdHeads wr B out) ∧ Hid (putM (x.outs.drop q) (out.drop q) m' = putM x.outs out m)) (fun _ _ i _ => x.outs.length - (intOf i).toNat)
        case atStart => exact ⟨0, mv, m, Nat.zero_le _, rfl, Nat.le_refl _, HSX, HN7, HL7, HHD, Lib.hid rfl⟩
        case round =>
         clear z2 zl
         obtain ⟨q, mv', m', hq, rfl, hml', HSX', HN', HL', HHD', HPM⟩ := hrel
         obtain ⟨wq, rfl⟩ : ∃ z : World, z = wr := ⟨_, rfl⟩
         by_cases hqn : q < x.outs.length
         ·have hqi : (q : Int) < (x.outs.length : Int) := by omega
          have hqo : q < out.length := by omega
          obtain ⟨b6, o6, rfl, -, hb6, hc6⟩ := (HO3.out.keep HN'.out.k).open' (by omega) (by omega)
          have s0 := hc6 q _ (strs_at' x.outs q hqn)
          have hln := HNO.out _ (List.getElem_mem hqn)
          obtain ⟨us, hu1, hu2, hu3⟩ := HHD'.out
          have hqu : q < us.length := by omega
          obtain ⟨Bq, dq, hue, hdq, hBq⟩ := hu3 q hqu hqo
          obtain ⟨b7, o7, rfl, -, hb7, hc7⟩ := hu2.open' (by omega) (by omega)
          have s1 := hc7 q us[q] (List.getElem?_eq_getElem hqu)
          rw [hue] at s1
          have h6 := HSX2.out _ (List.getElem_mem hqo)
          have hpd := putM_drop x.outs out q hqn hqo m'
          rw [HPM.out] at hpd
          have hqo2 : (q : Int) < (out.length : Int) := by omega
          obtain ⟨n, hn⟩ : ∃ n, x.outs[q] = n := ⟨_, rfl⟩
          obtain ⟨c, hc⟩ : ∃ c, out[q] = c := ⟨_, rfl⟩
          rw [hn] at s0 hln hpd
          rw [hc] at s1 hdq hBq h6 hpd
          have HPD := Lib.hid hpd.symm
          have hci : ClIn wq (.slice Bq c.length dq) c := ⟨by omega, _, _, rfl, hdq, hBq⟩
          obtain ⟨w8, hrun, hs8, hg8⟩ := HN'.out.mp.put n (.slice Bq c.length dq) hln (by have := HN'.out.cv.len; omega)
          have hk8 : Keeps [b] wq w8 := (Keeps.refl [b] _).grown hg8 (fun g hg => .inl (by injection hg with hg; simp [hg]))
          obtain ⟨es, cl', hbm⟩ := HN'.out.mp.isM
          have HN8 := Lib.hid (HN'.out.put hci hs8 hk8)
          have HL8 := Lib.hid (HL'.out.keepM hbm hk8 (by decide))
          have HHD8 := Lib.hid (HHD'.out.keepM hbm hk8)
          have HSX8 := Lib.hid (HSX'.out.put (n := n) h6)
          clear hc6 hc7 hu1 hu2 hu3 hue hdq hBq h6 hpd hn hc hci hs8 hg8 hk8 hbm hqu
          go_wp2
          go_roundw
          case rel => exact ⟨q + 1, _, _, by omega, by go_num, by simp only [List.length_cons]; omega, HSX8, HN8, HL8, HHD8, HPD⟩
          case measure => simp [intOf]; omega
         ·have hqi : ¬ (q : Int) < (x.outs.length : Int) := by omega
          have HG5 : Hid (jobsM f (l.drop (t + 1)) m' = R) := Lib.hid (by
           rw [← HG4.out, ← HPM.out, putM_end _ _ _ (by omega)])
          go_wp2
          go_roundw
          case rel => exact ⟨t + 1, mv', m', by omega, by go_num, by omega, HSX', HN', HL', HG5⟩
          case measure => simp [intOf]; omega
     ·have hti : ¬ (t : Int) < (l.length : Int) := by omega
      have HEE : Hid (R = .ok m) := Lib.hid (by
       have := HG.out
       rw [List.drop_of_length_le (by omega)] at this
       exact this.symm)
      go_wp2
      go_ret2
      exact ⟨by rw [HEE.out]; exact ⟨_, _, rfl, HN.out.mp, HN.out.cv, hbX⟩, HN.out.k⟩
end Go.Proofs.YtnjjajanfedjiaaGreatDoor
namespace Go.Proofs.YtnjjajanfedjiaaGreatDoor
open Go.RowKit Go.BigFrame
attribute [local go_sem] bs_size bs_extract bs_append bs_toList
theorem results_cell_row_tmp {P : Program} {fn : Func} {p u : Tmp} {ty : TypeId} (h : fn.results = #[.cell p ty, .tmp u]) (tmps : Array Value) (w : World) (g : Nat) (t : TypeId) (cs : Array Value) (fr : Nat × Nat) (d : TypeDesc)
  (hp : tmps.getD p undef = .pointer (some ⟨g, 0, none⟩)) (hg : w.heap[g]? = some (.cells cs t fr))
  (hu : P.underlying ty = some d) (hd : (match d with | .struct _ | .array _ _ => true | _ => false) = true) (hi : (P.info? ty).map (·.size) = some cs.size) :
  (results fn tmps).run P w = .ok (.tuple #[.agg cs, tmps.getD u undef]) w := by
 rw [results_cell_tmp h, hp]
 simp [asAddr, run_loadVar_row w g t ty cs fr d hg hu hd hi, Result.andThen]
theorem FlAt.box3 {W : World} {base X : Nat} {v0 v1 v2 u0 u1 u2 : Value} {f : Fl} {cs : Array Value} (h : FlAt W base v0 v1 v2 f) (hb : Blk W X 26 cs) : FlAt (((W.setCell ⟨X, 0, none⟩ u0).setCell ⟨X, 1, none⟩ u1).setCell ⟨X, 2, none⟩ u2) base v0 v1 v2 f := by
 have hk : Keeps [X] W (((W.setCell ⟨X, 0, none⟩ u0).setCell ⟨X, 1, none⟩ u1).setCell ⟨X, 2, none⟩ u2) := (((Keeps.refl [X] W).setCell (.inl (by simp)) _).setCell (.inl (by simp)) _).setCell (.inl (by simp)) _
 have hfar : FarOf [9, 61, 63, 45, 83] [X] W (((W.setCell ⟨X, 0, none⟩ u0).setCell ⟨X, 1, none⟩ u1).setCell ⟨X, 2, none⟩ u2) := ⟨hk, fun x hx => ⟨26, by rw [List.mem_singleton.1 hx]; exact hb.ty, by decide⟩⟩
 exact ⟨h.i0.far hfar (by decide) (by decide), h.i1.far hfar (by decide) (by decide), h.i2.far hfar (by decide)⟩
def rightP (s : Bs) : Option Fl := if 1000 < s.length then none else match parseF s with
 | .error _ => none
 | .ok f => match checkP f with
  | .error _ => none
  | .ok _ => some f
def RightOut (R : Option Fl) (e : Ending) (w' : World) : Prop := match R with
 | some f => ∃ base A0 c0 A1 c1 A2 c2, e = .returned (.tuple #[.agg #[.slice A0 f.ins.length c0, .slice A1 f.jobs.length c1, .slice A2 f.outs.length c2], .bool true]) ∧ FlAt w' base (.slice A0 f.ins.length c0) (.slice A1 f.jobs.length c1) (.slice A2 f.outs.length c2) f
 | none => ∃ A0 n0 c0 A1 n1 c1 A2 n2 c2, e = .returned (.tuple #[.agg #[.slice A0 n0 c0, .slice A1 n1 c1, .slice A2 n2 c2], .bool false])
theorem kright_any (s : Bs) (w : World) (hE : FEnv w) (hO : CEnv w) (hT : ErrTy w) :
  Calls Tryz.prog 15 #[.string (bs s)] w fun e w' => RightOut (rightP s) e w' ∧ Keeps [] w w' := by
 have HE := Lib.hid hE
 have HO := Lib.hid hO
 have HT := Lib.hid hT
 unfold rightP
 by_cases hs : 1000 < s.length
 ·rw [if_pos hs]
  have h1 : (1000 : Int) < (s.length : Int) := by omega
  clear hE hO hT
  go_enter Tryz.func15, Tryz.ntmps15
  go_wp2
  (try simp only [Exit.inBlock, Exit.then])
  refine bodyPost_ret (results_cell_row_tmp rfl _ _ w.heap.size _ _ _ _ rfl (heap_alloc_new _ _) Tryz.underlying26 rfl (by kernel_rfl)) rfl ?_
  exact ⟨⟨_, _, _, _, _, _, _, _, _, rfl⟩, (Keeps.refl [] _).alloc _⟩
 ·rw [if_neg hs]
  have h1 : ¬ (1000 : Int) < (s.length : Int) := by omega
  obtain ⟨R, hR⟩ : ∃ R, parseF s = R := ⟨_, rfl⟩
  have HFW : Hid (∀ f, R = .ok f → FlW f) := Lib.hid (fun f hf => (parseF_o (by omega) (hR.trans hf)).1)
  have H2 : Hid (∀ W, Keeps [] w W → Calls Tryz.prog 7 #[.string (bs s)] W fun e w' => FParseOut R W.heap.size e w' ∧ Keeps [] W w') := Lib.hid (fun W z => by
   rw [← hR]
   exact parse_any s (by omega) W (hE.quiet z))
  rw [hR]
  obtain ⟨Z, hZ⟩ : ∃ Z, (match R with
   | .error _ => none
   | .ok f => match checkP f with
    | .error _ => none
    | .ok _ => some f) = Z := ⟨_, rfl⟩
  rw [hZ]
  have HZ := Lib.hid hZ
  clear hE hO hT hR hZ
  go_enter Tryz.func15, Tryz.ntmps15
  go_upto_region 3 with (fail)
  have hx0 := Blk.new w 26 #[.slice none 0 0, .slice none 0 0, .slice none 0 0]
  have hk0 := (Keeps.refl [] w).alloc (.cells #[.slice none 0 0, .slice none 0 0, .slice none 0 0] 26)
  obtain ⟨y0, hy0⟩ : ∃ z, w.alloc (.cells #[.slice none 0 0, .slice none 0 0, .slice none 0 0] 26) = z := ⟨_, rfl⟩
  rw [hy0] at hx0 hk0 ⊢
  obtain ⟨X, hX⟩ : ∃ X, w.heap.size = X := ⟨_, rfl⟩
  rw [hX] at hx0 ⊢
  have HX0 := Lib.hid hx0
  have HK0 := Lib.hid hk0
  have HXX : Hid (w.heap.size ≤ X) := Lib.hid (by omega)
  clear hx0 hk0 hy0 hX
  go_cut [4, 5] (fun a b wx => ∃ F base U0 U1 U2, a = .pointer (some ⟨F, 0, none⟩) ∧ Hid (Blk wx F 26 #[U0, U1, U2]) ∧ Hid (F ≠ X) ∧ Hid (FlAt wx base U0 U1 U2 (resF R).1) ∧ Hid (ErAt wx b R) ∧ Hid (Keeps [] y0 wx))
  case first =>
   go_wp2_with ((with_reducible refine (H2.out _ HK0.out).mono ?_); rintro e w1 ⟨hp, k1⟩; obtain ⟨A0, n0, c0', A1, n1, c1', A2, n2, c2', er, rfl, hf, her⟩ := parseOut_form hp; clear hp; have hf := Lib.hid hf; have her := Lib.hid her)
   go_meet
   exact ⟨_, _, _, _, _, rfl, Lib.hid (Blk.new _ _ _), Lib.hid (by have h1 := HX0.out.lt; have h2 := k1.size; omega), Lib.hid (hf.out.keep ((Keeps.refl _ _).alloc _)), Lib.hid (her.out.keep ((Keeps.refl _ _).alloc _)), Lib.hid (k1.alloc _)⟩
  case rest =>
   obtain ⟨F, base, U0, U1, U2, rfl, HFB, HNE, HFL, HER, HK1⟩ := hcut
   obtain ⟨y1, rfl⟩ : ∃ z : World, z = wc := ⟨_, rfl⟩
   have HXB := Lib.hid (HX0.out.keep HK1.out (by simp))
   have HKW := Lib.hid (HK0.out.trans HK1.out)
   clear H2 HX0
   have hfin : ∀ (V0 V1 V2 : Value) (W : World), Keeps [] y1 W → Blk (((W.setCell ⟨X, 0, none⟩ V0).setCell ⟨X, 1, none⟩ V1).setCell ⟨X, 2, none⟩ V2) X 26 #[V0, V1, V2] ∧ Keeps [] w (((W.setCell ⟨X, 0, none⟩ V0).setCell ⟨X, 1, none⟩ V1).setCell ⟨X, 2, none⟩ V2) := fun V0 V1 V2 W hk =>
    ⟨((((HXB.out.keep hk (by simp)).set 0 V0).set 1 V1).set 2 V2).congr rfl, (((HKW.out.trans hk).setCell (.inr HXX.out) _).setCell (.inr HXX.out) _).setCell (.inr HXX.out) _⟩
   have HFIN := Lib.hid hfin
   clear hfin
   rcases hr : R with x | f
   ·have HZN : Hid (Z = none) := Lib.hid (by rw [← HZ.out, hr])
    rw [hr] at HER
    obtain ⟨gi, rfl, -⟩ := HER.out
    have c0 : y1.cell? ⟨X, 0, none⟩ = some (.slice none 0 0) := HXB.out.cell 0
    have c1 : y1.cell? ⟨X, 1, none⟩ = some (.slice none 0 0) := HXB.out.cell 1
    have c2 : y1.cell? ⟨X, 2, none⟩ = some (.slice none 0 0) := HXB.out.cell 2
    have z0 : y1.frozen? ⟨X, 0, none⟩ = false := HXB.out.frozen 0
    have z1 : y1.frozen? ⟨X, 1, none⟩ = false := HXB.out.frozen 1
    have z2 : y1.frozen? ⟨X, 2, none⟩ = false := HXB.out.frozen 2
    clear hr HFL HER
    go_wp2
    (try simp only [Exit.inBlock, Exit.then])
    refine bodyPost_ret (results_cell_row_tmp rfl _ _ X _ _ _ _ rfl (HFIN.out _ _ _ _ (Keeps.refl _ _)).1 Tryz.underlying26 rfl (by kernel_rfl)) rfl ?_
    exact ⟨by rw [HZN.out]; exact ⟨_, _, _, _, _, _, _, _, _, rfl⟩, (HFIN.out _ _ _ _ (Keeps.refl _ _)).2⟩
   ·have HZN : Hid ((match checkP f with
     | .error _ => none
     | .ok _ => some f) = Z) := Lib.hid (by rw [← HZ.out, hr])
    rw [hr] at HER HFL
    have hnil : _ = Value.nilIface := HER.out
    subst hnil
    have HW := Lib.hid (HFW.out f hr)
    have HFA : Hid (FlAt y1 base U0 U1 U2 f) := HFL
    obtain ⟨A0, a0, A1, a1, A2, a2, rfl, rfl, rfl⟩ := HFA.out.forms
    have f0 : y1.cell? ⟨F, 0, none⟩ = some (.slice A0 f.ins.length a0) := HFB.out.cell 0
    have f1 : y1.cell? ⟨F, 1, none⟩ = some (.slice A1 f.jobs.length a1) := HFB.out.cell 1
    have f2 : y1.cell? ⟨F, 2, none⟩ = some (.slice A2 f.outs.length a2) := HFB.out.cell 2
    have HC := Lib.hid (check_any f _ _ _ y1 (HFA.out.flIn HW.out) HW.out.short (HO.out.quiet HKW.out) (HT.out.keep HKW.out (by simp)) HW.out.colNames)
    clear hr HFL HER HFW
    go_wp2_with fail
    refine HC.out.mono ?_
    rintro e y2 ⟨hco, hk3⟩
    have HK3 := Lib.hid hk3
    have HXC := Lib.hid (HXB.out.keep hk3 (by simp))
    have HFC := Lib.hid (HFB.out.keep hk3 (by simp))
    have c0 : y2.cell? ⟨X, 0, none⟩ = some (.slice none 0 0) := HXC.out.cell 0
    have c1 : y2.cell? ⟨X, 1, none⟩ = some (.slice none 0 0) := HXC.out.cell 1
    have c2 : y2.cell? ⟨X, 2, none⟩ = some (.slice none 0 0) := HXC.out.cell 2
    have z0 : y2.frozen? ⟨X, 0, none⟩ = false := HXC.out.frozen 0
    have z1 : y2.frozen? ⟨X, 1, none⟩ = false := HXC.out.frozen 1
    have z2 : y2.frozen? ⟨X, 2, none⟩ = false := HXC.out.frozen 2
    clear f0 f1 f2 hk3
    have f0 : y2.cell? ⟨F, 0, none⟩ = some (.slice A0 f.ins.length a0) := HFC.out.cell 0
    have f1 : y2.cell? ⟨F, 1, none⟩ = some (.slice A1 f.jobs.length a1) := HFC.out.cell 1
    have f2 : y2.cell? ⟨F, 2, none⟩ = some (.slice A2 f.outs.length a2) := HFC.out.cell 2
    have d0 : y2.drew.cell? ⟨X, 0, none⟩ = some (.slice none 0 0) := HXC.out.cell 0
    have d1 : y2.drew.cell? ⟨X, 1, none⟩ = some (.slice none 0 0) := HXC.out.cell 1
    have d2 : y2.drew.cell? ⟨X, 2, none⟩ = some (.slice none 0 0) := HXC.out.cell 2
    have e0 : y2.drew.frozen? ⟨X, 0, none⟩ = false := HXC.out.frozen 0
    have e1 : y2.drew.frozen? ⟨X, 1, none⟩ = false := HXC.out.frozen 1
    have e2 : y2.drew.frozen? ⟨X, 2, none⟩ = false := HXC.out.frozen 2
    cases hcp : checkP f with
    | error x =>
     have HZ2 : Hid (Z = none) := Lib.hid (by rw [← HZN.out, hcp])
     rw [hcp] at hco
     obtain ⟨u, rfl, gi, rfl, hb⟩ := hco
     clear hb
     go_upto_region 7 with (fail)
     go_region
     all_goals
      go_wp2
      (try simp only [Exit.inBlock, Exit.then])
      refine bodyPost_ret (results_cell_row_tmp rfl _ _ X _ _ _ _ rfl (HFIN.out _ _ _ _ HK3.out.drew).1 Tryz.underlying26 rfl (by kernel_rfl)) rfl ?_
      exact ⟨by rw [HZ2.out]; exact ⟨_, _, _, _, _, _, _, _, _, rfl⟩, (HFIN.out _ _ _ _ HK3.out.drew).2⟩
    | ok m =>
     have HZ2 : Hid (Z = some f) := Lib.hid (by rw [← HZN.out, hcp])
     rw [hcp] at hco
     obtain ⟨b, mv, rfl, -, -, -⟩ := hco
     have HAT := Lib.hid (FlAt.box3 (u0 := .slice A0 f.ins.length a0) (u1 := .slice A1 f.jobs.length a1) (u2 := .slice A2 f.outs.length a2) (W := y2.drew) (HFA.out.keep HK3.out.drew) HXC.out.drew)
     go_upto_region 7 with (fail)
     go_region
     all_goals
      go_wp2
      (try simp only [Exit.inBlock, Exit.then])
      refine bodyPost_ret (results_cell_row_tmp rfl _ _ X _ _ _ _ rfl (HFIN.out _ _ _ _ HK3.out.drew).1 Tryz.underlying26 rfl (by kernel_rfl)) rfl ?_
      exact ⟨by rw [HZ2.out]; exact ⟨_, _, _, _, _, _, _, rfl, HAT.out⟩, (HFIN.out _ _ _ _ HK3.out.drew).2⟩
end Go.Proofs.YtnjjajanfedjiaaGreatDoor
