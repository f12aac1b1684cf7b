/- The package-level variables that flows lean on. The parser's value. The parser's arg. -/
import Derived.Test.YtnjjajanfedjiaaGreatDoorPtuM5
import Derived.Test.YtnjjajanfedjiaaGreatDoorPtuM6
import Derived.Deep.DeepCutAuto
set_option linter.unusedSimpArgs false
set_option linter.unusedVariables false
namespace Go.Proofs.YtnjjajanfedjiaaGreatDoor
open Go.RowKit
structure FEnv (w : World) : Prop where
 p10 : Lib.TabIs Tryz.prog w "internal/strconv.uint64pow10" .u64 Lib.pow10Tab
 esyn : ∃ t p, w.cell? ⟨6, 0, none⟩ = some (.iface t p)
 erng : ∃ t p, w.cell? ⟨7, 0, none⟩ = some (.iface t p)
 marks : ∀ j (h : j < marksL.length), w.cell? ⟨2, j, none⟩ = some (.string (bs marksL[j]))
 words : ∀ j (h : j < wordsL.length), w.cell? ⟨1, j, none⟩ = some (.string (bs wordsL[j]))
 wty : OfTy w 1 101
theorem FEnv.quiet {w w' : World} (h : FEnv w) (hk : Keeps [] w w') : FEnv w' :=
  ⟨tabIs_quiet h.p10 hk, by obtain ⟨t, p, hm⟩ := h.esyn; exact ⟨t, p, hk.cell_of hm (by simp)⟩, by obtain ⟨t, p, hm⟩ := h.erng; exact ⟨t, p, hk.cell_of hm (by simp)⟩,
   fun j hj => hk.cell_of (h.marks j hj) (by simp), fun j hj => hk.cell_of (h.words j hj) (by simp), h.wty.keep hk (by simp)⟩
theorem fsz (w : World) (o : Obj) : (w.alloc o).heap.size = w.heap.size + 1 := Array.size_push _
def FB (w : World) (lo : Nat) : Prop := ∃ w0, FEnv w0 ∧ Keeps [] w0 w ∧ w0.heap.size ≤ lo
theorem FB.env {w : World} {lo : Nat} (h : FB w lo) : FEnv w := by
 obtain ⟨w0, h1, h2, _⟩ := h
 exact h1.quiet h2
theorem FB.go {w w' : World} {lo : Nat} {L : List Nat} (h : FB w lo) (hk : Keeps L w w') (hL : ∀ x ∈ L, lo ≤ x) : FB w' lo := by
 obtain ⟨w0, h1, h2, h3⟩ := h
 exact ⟨w0, h1, h2.trans' hk (fun x hx hl => by have := hL x hx; omega), h3⟩
theorem FB.quiet {w w' : World} {lo : Nat} (h : FB w lo) (hk : Keeps [] w w') : FB w' lo := h.go hk (fun x hx => by cases hx)
theorem FB.one {w w' : World} {lo b : Nat} (h : FB w lo) (hb : lo ≤ b) (hk : Keeps [b] w w') : FB w' lo := h.go hk (fun x hx => by simp at hx; omega)
theorem atoi_pos {l : Bs} {n : Int} (h : Lib.atoiAll l = .ok n) (hd : ∀ c ∈ l, digC c = true) : 0 ≤ n ∧ n ≤ 9223372036854775807 := by
 have hn := atoi_ok h
 unfold numOk at hn
 refine ⟨?_, hn.2⟩
 unfold Lib.atoiAll at h
 split at h
 ·cases h
 ·rename_i c r
  have hc := hd c (List.mem_cons_self ..)
  have h45 : ¬ c.toNat = 45 := by
   unfold digC at hc
   simp only [Bool.and_eq_true, decide_eq_true_eq] at hc
   omega
  simp only at h
  split at h
  ·cases h
  ·cases h
  ·split at h
   ·cases h
   ·split at h
    ·cases h
    ·injection h with h
     first
      | (rw [if_neg h45] at h; omega)
      | omega
end Go.Proofs.YtnjjajanfedjiaaGreatDoor
namespace Go.Proofs.YtnjjajanfedjiaaGreatDoor
open Go.RowKit Go.BigFrame
attribute [local go_sem] bs_size bs_extract bs_append bs_toList
def ValOut (R : Except (Int × Int) (Vl × List Tk)) (b : Nat) (e : Ending) (w' : World) : Prop := match R with
 | .ok (v, r) => e = .returned (vAgg v) ∧ Ps w' b r
 | .error x => Thrown x e w'
theorem far_ps {w w' : World} {b : Nat} {l : List Tk} (h : Ps w b l) (hk : Keeps [b] w w') {g : Nat} {t : TypeId} {cs : Array Value} (hg : Blk w g t cs) (ht : t ≠ 94) : Blk w' g t cs :=
 hg.keep hk (fun hm => by
  have : g = b := by simpa using hm
  subst this
  exact hg.ty.ne h.ty ht rfl)
theorem Ps.set {W : World} {b g i : Nat} {l : List Tk} {t : TypeId} {cs : Array Value} (h : Ps W b l) (hg : Blk W g t cs) (h1 : t ≠ 94) (h2 : t ≠ 97) (u : Value) : Ps (W.setCell ⟨g, i, none⟩ u) b l :=
 h.far (L := [g]) (Keeps.setCell (Keeps.refl _ _) (.inl (by simp)) _) (fun x hx => ⟨t, by rw [List.mem_singleton.1 hx]; exact hg.ty, h1, h2⟩)
theorem Ps.setNew {W : World} {b g i : Nat} {l : List Tk} (h : Ps W b l) (hgb : b < g) (u : Value) : Ps (W.setCell ⟨g, i, none⟩ u) b l := by
 obtain ⟨g0, o, c, h1, h2, h3, h4, h5, h6, h7⟩ := h
 have hk : Keeps [g] W (W.setCell ⟨g, i, none⟩ u) := Keeps.setCell (Keeps.refl _ _) (.inl (by simp)) _
 have h22 := h2.2
 have n1 : b ∉ [g] := by simp; omega
 have n2 : g0 ∉ [g] := by simp; omega
 exact ⟨g0, o, c, h1.keep hk n1, ⟨h2.1.keep hk n2, h22⟩, h3, h4, h5, h6, fun j u hu => hk.cell_of (h7 j u hu) n2⟩
theorem atoi_yes {s : Bs} {n : Int} (ha : Lib.atoiAll s = .ok n) (hs : s.length ≤ 1000000) (W : World) (hE : FEnv W) : Calls Tryz.prog 70 #[.string (bs s)] W fun e w' => e = .returned (.tuple #[.int .i64 n, .nilIface]) ∧ Keeps [] W w' := by
 rcases atoi_env s (by omega) W hE.esyn hE.erng with ⟨v, hv, _, hc⟩ | ⟨hno, _⟩
 ·rw [ha] at hv
  injection hv with hv
  subst hv
  exact hc
 ·exact absurd ha (hno n)
theorem atoi_none {s : Bs} (ha : ∀ n, Lib.atoiAll s ≠ .ok n) (hs : s.length ≤ 1000000) (W : World) (hE : FEnv W) : Calls Tryz.prog 70 #[.string (bs s)] W fun e w' => (∃ n t p, e = .returned (.tuple #[.int .i64 n, .iface t p])) ∧ Keeps [] W w' := by
 rcases atoi_env s (by omega) W hE.esyn hE.erng with ⟨v, hv, _, hc⟩ | ⟨_, hc⟩
 ·exact absurd hv (ha v)
 ·exact hc
set_option maxRecDepth 100000 in
set_option maxHeartbeats 8000000 in
theorem value_pos {q : List Tk} {b lo : Nat} (w : World) (hE : FB w lo) (hlo : lo ≤ b) (h : Ps w b q) (hs : seeP [45] q = false) :
  Calls Tryz.prog 177 #[.pointer (some ⟨b, 0, none⟩)] w fun e w' => ValOut (val1P false q) b e w' ∧ Keeps [b] w w' := by
 obtain ⟨R, hR⟩ : ∃ R, val1P false q = R := ⟨_, rfl⟩
 rw [hR]
 have HV := Lib.hid hR
 have HE := Lib.hid hE
 obtain ⟨kd, hkd⟩ : ∃ kd, (hdT q).kind = kd := ⟨_, rfl⟩
 obtain ⟨tx, htx⟩ : ∃ tx, (hdT q).text = tx := ⟨_, rfl⟩
 obtain ⟨at_, hat⟩ : ∃ at_, (hdT q).at_ = at_ := ⟨_, rfl⟩
 have HKD := Lib.hid hkd
 have HTX := Lib.hid htx
 have HAT0 := Lib.hid hat
 clear hR hE
 obtain ⟨g, o, c, c0, z0, lb, lg, -, hn, hc, hc2, k0, k1, k2, hw⟩ := h.open'
 rw [hkd] at k0
 rw [htx] at k1
 rw [hat] at k2
 clear hw
 have hn2 : (0 : Int) < (q.length : Int) := by omega
 have H := Lib.hid h
 have HSE := Lib.hid hs
 skip
 clear h hkd htx hat hs
 have HT : Hid (∀ W, Keeps [] w W → Calls Tryz.prog 114 #[.pointer (some ⟨b, 0, none⟩), .string (bs [45])] W fun e w' => e = .returned (.bool false) ∧ Ps w' b q ∧ Keeps [b] W w') := Lib.hid (fun W x => by
  have := take_any [45] W (H.out.keep x)
  rw [HSE.out] at this
  rw [if_neg (by simp)] at this
  exact this)
 go_enter Tryz.func177, Tryz.ntmps177
 go_wp2_with fail
 refine (HT.out _ (((Keeps.refl [] w).alloc _).alloc _)).mono ?_
 rintro ev w1 ⟨rfl, hp1, hk1⟩
 have hb0 := (Blk.new w 41 #[.int .i64 0, .int .i64 0, .string ⟨#[]⟩]).alloc (.cells #[.int .i64 kd, .string (bs tx), .int .i64 at_] 97)
 have hb1 := Blk.new (w.alloc (.cells #[.int .i64 0, .int .i64 0, .string ⟨#[]⟩] 41)) 97 #[.int .i64 kd, .string (bs tx), .int .i64 at_]
 rw [fsz] at hb1
 have hP := H.out.keep (((Keeps.refl [] w).alloc (.cells #[.int .i64 0, .int .i64 0, .string ⟨#[]⟩] 41)).alloc (.cells #[.int .i64 kd, .string (bs tx), .int .i64 at_] 97))
 have HB0 := Lib.hid (far_ps hP hk1 hb0 (by decide))
 have HB1 := Lib.hid (far_ps hP hk1 hb1 (by decide))
 have HK1 := Lib.hid ((((Keeps.refl [] w).alloc (.cells #[.int .i64 0, .int .i64 0, .string ⟨#[]⟩] 41)).alloc (.cells #[.int .i64 kd, .string (bs tx), .int .i64 at_] 97)).of_nil.trans hk1)
 have HP1 := Lib.hid hp1
 have HMG := Lib.hid (Nat.le_refl w.heap.size)
 have HMB : Hid (w.heap.size ≠ b) := Lib.hid (by omega)
 have HM2 : Hid (w.heap.size + 1 ≠ b ∧ w.heap.size + 2 ≤ w1.heap.size ∧ b < w.heap.size) := Lib.hid ⟨by omega, by have := hk1.size; rw [fsz, fsz] at this; omega, by omega⟩
 clear hb0 hb1 hP hp1 hk1 c0 z0 lb lg hn hc hc2 k0 k1 k2 hn2
 obtain ⟨M, hM⟩ : ∃ M, w.heap.size = M := ⟨_, rfl⟩
 rw [hM] at HB0 HB1 HMB HM2 ⊢
 have HMG : Hid (w.heap.size ≤ M) := Lib.hid (by omega)
 clear hM
 obtain ⟨g1, o1, c1, c0, z0, lb, lg, -, hn, hc, hc2, k0, k1, k2, hw⟩ := HP1.out.open'
 rw [HKD.out] at k0
 rw [HTX.out] at k1
 rw [HAT0.out] at k2
 obtain ⟨hw1, hw2, hw3⟩ := hw
 rw [HTX.out] at hw1 hw2 hw3
 rw [HKD.out] at hw2 hw3
 have HW2 := Lib.hid hw2
 have HW3 := Lib.hid hw3
 clear hw2 hw3
 have hn2 : (0 : Int) < (q.length : Int) := by omega
 obtain ⟨wt, hwt⟩ : ∃ wt : World, wt = w1 := ⟨_, rfl⟩
 subst hwt
 have HPt := HP1
 have HKt := HK1
 have HB0t := HB0
 have HBt := HB1
 have HEt := Lib.hid (HE.out.one hlo HKt.out)
 have HVX : Hid (wt.heap.size ≠ b ∧ M ≠ wt.heap.size ∧ w.heap.size ≤ wt.heap.size) := Lib.hid ⟨by have := HM2.out; omega, by have := HM2.out; omega, HKt.out.size⟩
 have t0 : wt.cell? ⟨M + 1, 0, none⟩ = some (.int .i64 kd) := HBt.out.cell 0
 have t1 : wt.cell? ⟨M + 1, 1, none⟩ = some (.string (bs tx)) := HBt.out.cell 1
 have t2 : wt.cell? ⟨M + 1, 2, none⟩ = some (.int .i64 at_) := HBt.out.cell 2
 have lt1 := HBt.out.lt
 clear HP1 HK1 HB0 HB1 c0 z0 lb lg hn hc hc2 k0 k1 k2 hn2
 by_cases hk3 : kd = 3
 ·subst hk3
  have HL2 : Hid (2 ≤ tx.length) := Lib.hid (HW3.out rfl)
  clear HW2 HW3
  have HRF : Hid (finP q ⟨2, 0, midB tx⟩ = R) := Lib.hid (by rw [← HV.out]; unfold val1P; rw [HKD.out, HTX.out]; rfl)
  have h2t : 2 ≤ tx.length := HL2.out
  have hsl : ∀ W, (Instr.slice 9 (.string (bs tx)) (some (.int .i64 1)) (some (.int .i64 ((tx.length : Int) - 1))) none).run Tryz.prog W = .ok (.string (bs (midB tx))) W := fun W => by
   have := slice_str (P := Tryz.prog) Tryz.underlying9 tx 1 (tx.length - 1) (by omega) (by omega) W
   rwa [show ((tx.length - 1 : Nat) : Int) = (tx.length : Int) - 1 by omega] at this
  have HVB : Hid (wt.heap.size ≠ b ∧ M ≠ wt.heap.size ∧ w.heap.size ≤ wt.heap.size) := HVX
  have HNB := Lib.hid HVB.out.1
  have HVM := Lib.hid HVB.out.2.1
  have HVG := Lib.hid HVB.out.2.2
  go_upto_region 17 with (fail)
  have HBV := Lib.hid (Blk.new wt 41 #[.int .i64 2, .int .i64 (0), .string (bs (midB tx))])
  have HP4 := Lib.hid (HPt.out.keep ((Keeps.refl _ _).alloc (.cells #[.int .i64 2, .int .i64 (0), .string (bs (midB tx))] 41)))
  have HK4 := Lib.hid (HKt.out.alloc (.cells #[.int .i64 2, .int .i64 (0), .string (bs (midB tx))] 41))
  have HB4 := Lib.hid (HB0t.out.alloc (.cells #[.int .i64 2, .int .i64 (0), .string (bs (midB tx))] 41))
  clear h2t hsl
  generalize wt.heap.size = vb at *
  obtain ⟨w4, hw4⟩ : ∃ x, wt.alloc (.cells #[.int .i64 2, .int .i64 (0), .string (bs (midB tx))] 41) = x := ⟨_, rfl⟩
  rw [hw4] at HBV HP4 HK4 HB4 ⊢
  clear hw4
  have v0 : w4.cell? ⟨vb, 0, none⟩ = some (.int .i64 2) := HBV.out.cell 0
  have v1 : w4.cell? ⟨vb, 1, none⟩ = some (.int .i64 (0)) := HBV.out.cell 1
  have v2 : w4.cell? ⟨vb, 2, none⟩ = some (.string (bs (midB tx))) := HBV.out.cell 2
  have lv := HBV.out.lt
  obtain ⟨rv, hrv⟩ : ∃ rv, rvB (⟨2, 0, (midB tx)⟩ : Vl) = rv := ⟨_, rfl⟩
  have HRV : Hid (Calls Tryz.prog 169 #[.agg #[.int .i64 2, .int .i64 (0), .string (bs (midB tx))]] w4 fun e w' => e = .returned (.bool rv) ∧ Keeps [] w4 w') := Lib.hid (by have := rightValue_any (⟨2, 0, (midB tx)⟩ : Vl) w4; rw [hrv] at this; exact this)
  have HF := Lib.hid hrv
  clear hrv
  cases rv with
  | false =>
   have HX : Hid (R = .error (4, (hdT q).at_)) := Lib.hid (by rw [← HRF.out]; unfold finP; rw [HF.out]; rfl)
   go_wp2_with fail
   refine HRV.out.mono ?_
   rintro ev w5 ⟨rfl, hk5⟩
   have HP5 := Lib.hid (HP4.out.keep hk5)
   have HK5 := Lib.hid (HK4.out.trans hk5.of_nil)
   clear hk5
   go_wp2_with fail
   refine (fail_any' 4 w5 HP5.out).mono ?_
   rintro ev w6 ⟨⟨gi, rfl, hb⟩, hk6⟩
   exact ⟨rfl, by rw [HX.out]; exact ⟨gi, rfl, hb⟩, HK5.out.trans hk6.of_nil⟩
  | true =>
   have HX : Hid (R = .ok ((⟨2, 0, (midB tx)⟩ : Vl), q.tail)) := Lib.hid (by rw [← HRF.out]; unfold finP; rw [HF.out]; rfl)
   have hk5q : (hdT q).kind ≠ 5 := by rw [HKD.out]; decide
   have HK5Q := Lib.hid hk5q
   clear hk5q
   go_wp2_with fail
   refine HRV.out.mono ?_
   rintro ev w5 ⟨rfl, hk5⟩
   have hP5 := HP4.out.keep hk5
   have HP5 := Lib.hid hP5
   have HK5 := Lib.hid (HK4.out.trans hk5.of_nil)
   have hBV5 := HBV.out.keep hk5 (by simp)
   have HB5 := Lib.hid (HB4.out.keep hk5 (by simp))
   have hmore := hP5.more HK5Q.out
   have hmore2 : (1 : Int) ≤ (q.length : Int) := by omega
   obtain ⟨g5, o5, c5, p0, pz, pb, pg, png, pn, pc, pc2, -, -, -, -⟩ := hP5.open'
   have pc3 : (1 : Int) < (c5 : Int) := by omega
   have HST := Lib.hid (fun n a d => @Ps.step w5 b g5 o5 c5 q hP5 p0 HK5Q.out n a d)
   have HBV5 := Lib.hid hBV5
   have x0 : w5.cell? ⟨vb, 0, none⟩ = some (.int .i64 2) := hBV5.cell 0
   have x1 : w5.cell? ⟨vb, 1, none⟩ = some (.int .i64 (0)) := hBV5.cell 1
   have x2 : w5.cell? ⟨vb, 2, none⟩ = some (.string (bs (midB tx))) := hBV5.cell 2
   have lv5 := hBV5.lt
   have r0 : w5.cell? ⟨M, 0, none⟩ = some (.int .i64 0) := HB5.out.cell 0
   have r1 : w5.cell? ⟨M, 1, none⟩ = some (.int .i64 0) := HB5.out.cell 1
   have r2 : w5.cell? ⟨M, 2, none⟩ = some (.string ⟨#[]⟩) := HB5.out.cell 2
   have rz0 := HB5.out.frozen 0
   have rz1 := HB5.out.frozen 1
   have rz2 := HB5.out.frozen 2
   have lr := HB5.out.lt
   have nvb := HNB.out
   have nmb := HMB.out
   have nvm := HVM.out
   clear hP5 hk5 hBV5 v0 v1 v2 lv hmore
   go_wp2
   have hst := HST.out (q.length - 1) ⟨g5, o5 + 3, none⟩ (c5 - 1) rfl rfl rfl
   have hB6 := HB5.out.far (p := ⟨b, 0, none⟩) HMB.out (.slice (some ⟨g5, o5 + 3, none⟩) (q.length - 1) (c5 - 1))
   have hB7 := ((hB6.set 0 (.int .i64 2)).set 1 (.int .i64 (0))).set 2 (.string (bs (midB tx)))
   have y0 := hB7.cell 0
   have y1 := hB7.cell 1
   have y2 := hB7.cell 2
   refine bodyPost_ret (v := .agg #[.int .i64 2, .int .i64 (0), .string (bs (midB tx))]) (by simp [results, Tryz.results177, go_sem, y0, y1, y2]) rfl ⟨?_, ?_⟩
   ·rw [HX.out]
    exact ⟨rfl, ((hst.1.set hB6 (by decide) (by decide) _).set (hB6.set 0 _) (by decide) (by decide) _).set ((hB6.set 0 _).set 1 _) (by decide) (by decide) _⟩
   ·exact (((HK5.out.trans hst.2).setCell (.inr HMG.out) _).setCell (.inr HMG.out) _).setCell (.inr HMG.out) _
 ·by_cases hk2 : kd = 2
  ·subst hk2
   have HDG : Hid (∀ c ∈ tx, digC c = true) := Lib.hid (HW2.out rfl)
   clear HW2 HW3 hk3
   rcases ha : Lib.atoiAll tx with n | _ | _
   ·have hpos := atoi_pos ha HDG.out
    have HRF : Hid (finP q ⟨1, n, []⟩ = R) := Lib.hid (by rw [← HV.out]; unfold val1P; rw [HKD.out, HTX.out, ha]; simp)
    have HAT := Lib.hid (fun W hW => atoi_yes ha hw1 W hW)
    have hp1 := hpos.1
    have hp2 := hpos.2
    have HVB : Hid (wt.heap.size ≠ b ∧ M ≠ wt.heap.size ∧ w.heap.size ≤ wt.heap.size) := HVX
    clear ha hpos
    go_wp2_with fail
    refine (HAT.out _ (HEt.out.quiet ((Keeps.refl _ _).alloc _)).env).mono ?_
    rintro ev w3 ⟨rfl, hk3⟩
    have hbv := (Blk.new wt 41 #[.int .i64 2, .int .i64 0, .string ⟨#[]⟩]).keep hk3 (by simp)
    generalize hvb : wt.heap.size = vb at *
    have HQ := Lib.hid hvb
    clear hvb
    have z0' := hbv.frozen 0
    have z1' := hbv.frozen 1
    have z2' := hbv.frozen 2
    have v0 : w3.cell? ⟨vb, 0, none⟩ = some (.int .i64 2) := hbv.cell 0
    have v1 : w3.cell? ⟨vb, 1, none⟩ = some (.int .i64 0) := hbv.cell 1
    have v2 : w3.cell? ⟨vb, 2, none⟩ = some (.string ⟨#[]⟩) := hbv.cell 2
    have lv := hbv.lt
    have HK3 := Lib.hid ((HKt.out.alloc (.cells #[.int .i64 2, .int .i64 0, .string ⟨#[]⟩] 41)).trans hk3.of_nil)
    have HP3 := Lib.hid ((HPt.out.keep ((Keeps.refl _ _).alloc (.cells #[.int .i64 2, .int .i64 0, .string ⟨#[]⟩] 41))).keep hk3)
    have HB3 := Lib.hid (((HB0t.out.alloc (.cells #[.int .i64 2, .int .i64 0, .string ⟨#[]⟩] 41))).keep hk3 (by simp))
    have HBV0 := Lib.hid hbv
    have HNB := Lib.hid HVB.out.1
    have HVM := Lib.hid HVB.out.2.1
    have HVG := Lib.hid HVB.out.2.2
    clear hbv hk3
    go_upto_region 17 with (fail)
    have hbv4 := (((HBV0.out.set 0 (.int .i64 1)).set 1 (.int .i64 (n))).set 2 (.string ⟨#[]⟩)).congr (cs' := #[.int .i64 1, .int .i64 (n), .string (bs [])]) rfl
    have HBV := Lib.hid hbv4
    have HP4 := Lib.hid (((HP3.out.set HBV0.out (i := 0) (by decide) (by decide) (.int .i64 1)).set (HBV0.out.set 0 _) (i := 1) (by decide) (by decide) (.int .i64 (n))).set ((HBV0.out.set 0 _).set 1 _) (i := 2) (by decide) (by decide) (.string ⟨#[]⟩))
    have HK4 := Lib.hid (((HK3.out.setCell (p := ⟨vb, 0, none⟩) (.inr HVG.out) (.int .i64 1)).setCell (p := ⟨vb, 1, none⟩) (.inr HVG.out) (.int .i64 (n))).setCell (p := ⟨vb, 2, none⟩) (.inr HVG.out) (.string ⟨#[]⟩))
    have HB4 := Lib.hid (((HB3.out.far (p := ⟨vb, 0, none⟩) HVM.out (.int .i64 1)).far (p := ⟨vb, 1, none⟩) HVM.out (.int .i64 (n))).far (p := ⟨vb, 2, none⟩) HVM.out (.string ⟨#[]⟩))
    clear hbv4 z0' z1' z2' v0 v1 v2 lv
    obtain ⟨w4, hw4⟩ : ∃ x, ((w3.setCell ⟨vb, 0, none⟩ (.int .i64 1)).setCell ⟨vb, 1, none⟩ (.int .i64 (n))).setCell ⟨vb, 2, none⟩ (.string ⟨#[]⟩) = x := ⟨_, rfl⟩
    rw [hw4] at HBV HP4 HK4 HB4 ⊢
    clear hw4
    have v0 : w4.cell? ⟨vb, 0, none⟩ = some (.int .i64 1) := HBV.out.cell 0
    have v1 : w4.cell? ⟨vb, 1, none⟩ = some (.int .i64 (n)) := HBV.out.cell 1
    have v2 : w4.cell? ⟨vb, 2, none⟩ = some (.string (bs [])) := HBV.out.cell 2
    have lv := HBV.out.lt
    obtain ⟨rv, hrv⟩ : ∃ rv, rvB (⟨1, n, []⟩ : Vl) = rv := ⟨_, rfl⟩
    have HRV : Hid (Calls Tryz.prog 169 #[.agg #[.int .i64 1, .int .i64 (n), .string (bs [])]] w4 fun e w' => e = .returned (.bool rv) ∧ Keeps [] w4 w') := Lib.hid (by have := rightValue_any (⟨1, n, []⟩ : Vl) w4; rw [hrv] at this; exact this)
    have HF := Lib.hid hrv
    clear hrv
    cases rv with
    | false =>
     have HX : Hid (R = .error (4, (hdT q).at_)) := Lib.hid (by rw [← HRF.out]; unfold finP; rw [HF.out]; rfl)
     go_wp2_with fail
     refine HRV.out.mono ?_
     rintro ev w5 ⟨rfl, hk5⟩
     have HP5 := Lib.hid (HP4.out.keep hk5)
     have HK5 := Lib.hid (HK4.out.trans hk5.of_nil)
     clear hk5
     go_wp2_with fail
     refine (fail_any' 4 w5 HP5.out).mono ?_
     rintro ev w6 ⟨⟨gi, rfl, hb⟩, hk6⟩
     exact ⟨rfl, by rw [HX.out]; exact ⟨gi, rfl, hb⟩, HK5.out.trans hk6.of_nil⟩
    | true =>
     have HX : Hid (R = .ok ((⟨1, n, []⟩ : Vl), q.tail)) := Lib.hid (by rw [← HRF.out]; unfold finP; rw [HF.out]; rfl)
     have hk5q : (hdT q).kind ≠ 5 := by rw [HKD.out]; decide
     have HK5Q := Lib.hid hk5q
     clear hk5q
     go_wp2_with fail
     refine HRV.out.mono ?_
     rintro ev w5 ⟨rfl, hk5⟩
     have hP5 := HP4.out.keep hk5
     have HP5 := Lib.hid hP5
     have HK5 := Lib.hid (HK4.out.trans hk5.of_nil)
     have hBV5 := HBV.out.keep hk5 (by simp)
     have HB5 := Lib.hid (HB4.out.keep hk5 (by simp))
     have hmore := hP5.more HK5Q.out
     have hmore2 : (1 : Int) ≤ (q.length : Int) := by omega
     obtain ⟨g5, o5, c5, p0, pz, pb, pg, png, pn, pc, pc2, -, -, -, -⟩ := hP5.open'
     have pc3 : (1 : Int) < (c5 : Int) := by omega
     have HST := Lib.hid (fun n a d => @Ps.step w5 b g5 o5 c5 q hP5 p0 HK5Q.out n a d)
     have HBV5 := Lib.hid hBV5
     have x0 : w5.cell? ⟨vb, 0, none⟩ = some (.int .i64 1) := hBV5.cell 0
     have x1 : w5.cell? ⟨vb, 1, none⟩ = some (.int .i64 (n)) := hBV5.cell 1
     have x2 : w5.cell? ⟨vb, 2, none⟩ = some (.string (bs [])) := hBV5.cell 2
     have lv5 := hBV5.lt
     have r0 : w5.cell? ⟨M, 0, none⟩ = some (.int .i64 0) := HB5.out.cell 0
     have r1 : w5.cell? ⟨M, 1, none⟩ = some (.int .i64 0) := HB5.out.cell 1
     have r2 : w5.cell? ⟨M, 2, none⟩ = some (.string ⟨#[]⟩) := HB5.out.cell 2
     have rz0 := HB5.out.frozen 0
     have rz1 := HB5.out.frozen 1
     have rz2 := HB5.out.frozen 2
     have lr := HB5.out.lt
     have nvb := HNB.out
     have nmb := HMB.out
     have nvm := HVM.out
     clear hP5 hk5 hBV5 v0 v1 v2 lv hmore
     go_wp2
     have hst := HST.out (q.length - 1) ⟨g5, o5 + 3, none⟩ (c5 - 1) rfl rfl rfl
     have hB6 := HB5.out.far (p := ⟨b, 0, none⟩) HMB.out (.slice (some ⟨g5, o5 + 3, none⟩) (q.length - 1) (c5 - 1))
     have hB7 := ((hB6.set 0 (.int .i64 1)).set 1 (.int .i64 (n))).set 2 (.string (bs []))
     have y0 := hB7.cell 0
     have y1 := hB7.cell 1
     have y2 := hB7.cell 2
     refine bodyPost_ret (v := .agg #[.int .i64 1, .int .i64 (n), .string (bs [])]) (by simp [results, Tryz.results177, go_sem, y0, y1, y2]) rfl ⟨?_, ?_⟩
     ·rw [HX.out]
      exact ⟨rfl, ((hst.1.set hB6 (by decide) (by decide) _).set (hB6.set 0 _) (by decide) (by decide) _).set ((hB6.set 0 _).set 1 _) (by decide) (by decide) _⟩
     ·exact (((HK5.out.trans hst.2).setCell (.inr HMG.out) _).setCell (.inr HMG.out) _).setCell (.inr HMG.out) _
   all_goals
    have HX : Hid (R = .error (4, (hdT q).at_)) := Lib.hid (by rw [← HV.out]; unfold val1P; rw [HKD.out, HTX.out, ha]; rfl)
    have HAT := Lib.hid (fun W hW => atoi_none (s := tx) (fun n h => by rw [ha] at h; cases h) hw1 W hW)
    clear ha
    go_wp2_with fail
    refine (HAT.out _ (HEt.out.quiet ((Keeps.refl _ _).alloc _)).env).mono ?_
    rintro ev w3 ⟨⟨n0, t0', p0', rfl⟩, hk3⟩
    have HP3 := Lib.hid ((HPt.out.keep ((Keeps.refl _ _).alloc (.cells #[.int .i64 2, .int .i64 0, .string ⟨#[]⟩] 41))).keep hk3)
    have HK3 := Lib.hid ((HKt.out.alloc (.cells #[.int .i64 2, .int .i64 0, .string ⟨#[]⟩] 41)).trans hk3.of_nil)
    clear hk3
    go_wp2_with fail
    refine (fail_any' 4 w3 HP3.out).mono ?_
    rintro ev w6 ⟨⟨gi, rfl, hb⟩, hk6⟩
    exact ⟨rfl, by rw [HX.out]; exact ⟨gi, rfl, hb⟩, HK3.out.trans hk6.of_nil⟩
  ·have e3 : (kd == 3) = false := by rw [beq_eq_false_iff_ne]; exact hk3
   have e2 : (kd == 2) = false := by rw [beq_eq_false_iff_ne]; exact hk2
   have HX : Hid (R = .error (3, (hdT q).at_)) := Lib.hid (by rw [← HV.out]; unfold val1P; rw [HKD.out, if_neg (by simp), if_neg hk3, if_neg hk2]; rfl)
   clear hk3 hk2 HW2 HW3
   have HP3 := Lib.hid (HPt.out.keep ((Keeps.refl _ _).alloc (.cells #[.int .i64 2, .int .i64 0, .string ⟨#[]⟩] 41)))
   go_wp2_with fail
   refine (fail_any' 3 _ HP3.out).mono ?_
   rintro ev w6 ⟨⟨gi, rfl, hb⟩, hk6⟩
   exact ⟨rfl, by rw [HX.out]; exact ⟨gi, rfl, hb⟩, (HKt.out.alloc _).trans hk6.of_nil⟩
set_option maxRecDepth 100000 in
set_option maxHeartbeats 8000000 in
theorem value_neg {l q : List Tk} {b lo : Nat} (w : World) (hE : FB w lo) (hlo : lo ≤ b) (h : Ps w b l) (hs : seeP [45] l = true) (hq : l.tail = q) :
  Calls Tryz.prog 177 #[.pointer (some ⟨b, 0, none⟩)] w fun e w' => ValOut (val1P true q) b e w' ∧ Keeps [b] w w' := by
 obtain ⟨R, hR⟩ : ∃ R, val1P true q = R := ⟨_, rfl⟩
 rw [hR]
 have HV := Lib.hid hR
 have HE := Lib.hid hE
 obtain ⟨kd, hkd⟩ : ∃ kd, (hdT q).kind = kd := ⟨_, rfl⟩
 obtain ⟨tx, htx⟩ : ∃ tx, (hdT q).text = tx := ⟨_, rfl⟩
 obtain ⟨at_, hat⟩ : ∃ at_, (hdT q).at_ = at_ := ⟨_, rfl⟩
 have HKD := Lib.hid hkd
 have HTX := Lib.hid htx
 have HAT0 := Lib.hid hat
 clear hR hE
 obtain ⟨g, o, c, c0, z0, lb, lg, -, hn, hc, hc2, k0, k1, k2, hw⟩ := h.open'
 generalize (hdT l).kind = kd0 at k0
 generalize (hdT l).text = tx0 at k1
 generalize (hdT l).at_ = at0 at k2
 clear hw
 have hn2 : (0 : Int) < (l.length : Int) := by omega
 have H := Lib.hid h
 have HSE := Lib.hid hs
 have HQ0 := Lib.hid hq
 clear h hkd htx hat hs hq
 have HT : Hid (∀ W, Keeps [] w W → Calls Tryz.prog 114 #[.pointer (some ⟨b, 0, none⟩), .string (bs [45])] W fun e w' => e = .returned (.bool true) ∧ Ps w' b q ∧ Keeps [b] W w') := Lib.hid (fun W x => by
  have := take_any [45] W (H.out.keep x)
  rw [HSE.out] at this
  rw [if_pos rfl, HQ0.out] at this
  exact this)
 go_enter Tryz.func177, Tryz.ntmps177
 go_wp2_with fail
 refine (HT.out _ (((Keeps.refl [] w).alloc _).alloc _)).mono ?_
 rintro ev w1 ⟨rfl, hp1, hk1⟩
 have hb0 := (Blk.new w 41 #[.int .i64 0, .int .i64 0, .string ⟨#[]⟩]).alloc (.cells #[.int .i64 kd0, .string (bs tx0), .int .i64 at0] 97)
 have hb1 := Blk.new (w.alloc (.cells #[.int .i64 0, .int .i64 0, .string ⟨#[]⟩] 41)) 97 #[.int .i64 kd0, .string (bs tx0), .int .i64 at0]
 rw [fsz] at hb1
 have hP := H.out.keep (((Keeps.refl [] w).alloc (.cells #[.int .i64 0, .int .i64 0, .string ⟨#[]⟩] 41)).alloc (.cells #[.int .i64 kd0, .string (bs tx0), .int .i64 at0] 97))
 have HB0 := Lib.hid (far_ps hP hk1 hb0 (by decide))
 have HB1 := Lib.hid (far_ps hP hk1 hb1 (by decide))
 have HK1 := Lib.hid ((((Keeps.refl [] w).alloc (.cells #[.int .i64 0, .int .i64 0, .string ⟨#[]⟩] 41)).alloc (.cells #[.int .i64 kd0, .string (bs tx0), .int .i64 at0] 97)).of_nil.trans hk1)
 have HP1 := Lib.hid hp1
 have HMG := Lib.hid (Nat.le_refl w.heap.size)
 have HMB : Hid (w.heap.size ≠ b) := Lib.hid (by omega)
 have HM2 : Hid (w.heap.size + 1 ≠ b ∧ w.heap.size + 2 ≤ w1.heap.size ∧ b < w.heap.size) := Lib.hid ⟨by omega, by have := hk1.size; rw [fsz, fsz] at this; omega, by omega⟩
 clear hb0 hb1 hP hp1 hk1 c0 z0 lb lg hn hc hc2 k0 k1 k2 hn2
 obtain ⟨M, hM⟩ : ∃ M, w.heap.size = M := ⟨_, rfl⟩
 rw [hM] at HB0 HB1 HMB HM2 ⊢
 have HMG : Hid (w.heap.size ≤ M) := Lib.hid (by omega)
 clear hM
 obtain ⟨g1, o1, c1, c0, z0, lb, lg, -, hn, hc, hc2, k0, k1, k2, hw⟩ := HP1.out.open'
 rw [HKD.out] at k0
 rw [HTX.out] at k1
 rw [HAT0.out] at k2
 obtain ⟨hw1, hw2, hw3⟩ := hw
 rw [HTX.out] at hw1 hw2 hw3
 rw [HKD.out] at hw2 hw3
 have HW2 := Lib.hid hw2
 have HW3 := Lib.hid hw3
 clear hw2 hw3
 have hn2 : (0 : Int) < (q.length : Int) := by omega
 have t0 : w1.cell? ⟨M + 1, 0, none⟩ = some (.int .i64 kd0) := HB1.out.cell 0
 have t1 : w1.cell? ⟨M + 1, 1, none⟩ = some (.string (bs tx0)) := HB1.out.cell 1
 have t2 : w1.cell? ⟨M + 1, 2, none⟩ = some (.int .i64 at0) := HB1.out.cell 2
 have f0 := HB1.out.frozen 0
 have f1 := HB1.out.frozen 1
 have f2 := HB1.out.frozen 2
 have lt1 := HB1.out.lt
 go_upto_region 5 with (fail)
 have HB2 := Lib.hid ((((HB1.out.set 0 (.int .i64 kd)).set 1 (.string (bs tx))).set 2 (.int .i64 at_)).congr (cs' := #[.int .i64 kd, .string (bs tx), .int .i64 at_]) rfl)
 have HMb : Hid (b < M + 1 ∧ M ≠ M + 1) := Lib.hid (by have := HM2.out; omega)
 have HPt := Lib.hid (((HP1.out.setNew (i := 0) HMb.out.1 (.int .i64 kd)).setNew (i := 1) HMb.out.1 (.string (bs tx))).setNew (i := 2) HMb.out.1 (.int .i64 at_))
 have HMG1 : Hid (w.heap.size ≤ M + 1) := Lib.hid (Nat.le_succ_of_le HMG.out)
 have HKt := Lib.hid (((HK1.out.setCell (p := ⟨M + 1, 0, none⟩) (.inr HMG1.out) (.int .i64 kd)).setCell (p := ⟨M + 1, 1, none⟩) (.inr HMG1.out) (.string (bs tx))).setCell (p := ⟨M + 1, 2, none⟩) (.inr HMG1.out) (.int .i64 at_))
 have HB0t := Lib.hid (((HB0.out.far (p := ⟨M + 1, 0, none⟩) HMb.out.2 (.int .i64 kd)).far (p := ⟨M + 1, 1, none⟩) HMb.out.2 (.string (bs tx))).far (p := ⟨M + 1, 2, none⟩) HMb.out.2 (.int .i64 at_))
 clear t0 t1 t2 f0 f1 f2 lt1 c0 z0 lb lg hn hc hc2 k0 k1 k2 hn2
 have HS1 : Hid (w1.heap.size = (((w1.setCell ⟨M + 1, 0, none⟩ (.int .i64 kd)).setCell ⟨M + 1, 1, none⟩ (.string (bs tx))).setCell ⟨M + 1, 2, none⟩ (.int .i64 at_)).heap.size) := Lib.hid (by simp [World.setCell])
 obtain ⟨wt, hwt⟩ : ∃ x, ((w1.setCell ⟨M + 1, 0, none⟩ (.int .i64 kd)).setCell ⟨M + 1, 1, none⟩ (.string (bs tx))).setCell ⟨M + 1, 2, none⟩ (.int .i64 at_) = x := ⟨_, rfl⟩
 rw [hwt] at HB2 HPt HKt HB0t HS1 ⊢
 clear hwt
 have HEt := Lib.hid (HE.out.one hlo HKt.out)
 have HVX : Hid (wt.heap.size ≠ b ∧ M ≠ wt.heap.size ∧ w.heap.size ≤ wt.heap.size) := Lib.hid ⟨by have := HM2.out; have := HS1.out; omega, by have := HM2.out; have := HS1.out; omega, HKt.out.size⟩
 have t0 : wt.cell? ⟨M + 1, 0, none⟩ = some (.int .i64 kd) := HB2.out.cell 0
 have t1 : wt.cell? ⟨M + 1, 1, none⟩ = some (.string (bs tx)) := HB2.out.cell 1
 have t2 : wt.cell? ⟨M + 1, 2, none⟩ = some (.int .i64 at_) := HB2.out.cell 2
 have lt1 := HB2.out.lt
 by_cases hk2 : kd = 2
 ·subst hk2
  have HDG : Hid (∀ c ∈ tx, digC c = true) := Lib.hid (HW2.out rfl)
  clear HW2 HW3
  rcases ha : Lib.atoiAll tx with n | _ | _
  ·have hpos := atoi_pos ha HDG.out
   have HRF : Hid (finP q ⟨1, -n, []⟩ = R) := Lib.hid (by rw [← HV.out]; unfold val1P; rw [HKD.out, HTX.out, ha]; simp)
   have HAT := Lib.hid (fun W hW => atoi_yes ha hw1 W hW)
   have hp1 := hpos.1
   have hp2 := hpos.2
   have HVB : Hid (wt.heap.size ≠ b ∧ M ≠ wt.heap.size ∧ w.heap.size ≤ wt.heap.size) := HVX
   clear ha hpos
   go_wp2_with fail
   refine (HAT.out _ (HEt.out.quiet ((Keeps.refl _ _).alloc _)).env).mono ?_
   rintro ev w3 ⟨rfl, hk3⟩
   have hbv := (Blk.new wt 41 #[.int .i64 2, .int .i64 0, .string ⟨#[]⟩]).keep hk3 (by simp)
   generalize hvb : wt.heap.size = vb at *
   have HQ := Lib.hid hvb
   clear hvb
   have z0' := hbv.frozen 0
   have z1' := hbv.frozen 1
   have z2' := hbv.frozen 2
   have v0 : w3.cell? ⟨vb, 0, none⟩ = some (.int .i64 2) := hbv.cell 0
   have v1 : w3.cell? ⟨vb, 1, none⟩ = some (.int .i64 0) := hbv.cell 1
   have v2 : w3.cell? ⟨vb, 2, none⟩ = some (.string ⟨#[]⟩) := hbv.cell 2
   have lv := hbv.lt
   have HK3 := Lib.hid ((HKt.out.alloc (.cells #[.int .i64 2, .int .i64 0, .string ⟨#[]⟩] 41)).trans hk3.of_nil)
   have HP3 := Lib.hid ((HPt.out.keep ((Keeps.refl _ _).alloc (.cells #[.int .i64 2, .int .i64 0, .string ⟨#[]⟩] 41))).keep hk3)
   have HB3 := Lib.hid (((HB0t.out.alloc (.cells #[.int .i64 2, .int .i64 0, .string ⟨#[]⟩] 41))).keep hk3 (by simp))
   have HBV0 := Lib.hid hbv
   have HNB := Lib.hid HVB.out.1
   have HVM := Lib.hid HVB.out.2.1
   have HVG := Lib.hid HVB.out.2.2
   clear hbv hk3
   go_upto_region 17 with (fail)
   have hbv4 := (((HBV0.out.set 0 (.int .i64 1)).set 1 (.int .i64 (-n))).set 2 (.string ⟨#[]⟩)).congr (cs' := #[.int .i64 1, .int .i64 (-n), .string (bs [])]) rfl
   have HBV := Lib.hid hbv4
   have HP4 := Lib.hid (((HP3.out.set HBV0.out (i := 0) (by decide) (by decide) (.int .i64 1)).set (HBV0.out.set 0 _) (i := 1) (by decide) (by decide) (.int .i64 (-n))).set ((HBV0.out.set 0 _).set 1 _) (i := 2) (by decide) (by decide) (.string ⟨#[]⟩))
   have HK4 := Lib.hid (((HK3.out.setCell (p := ⟨vb, 0, none⟩) (.inr HVG.out) (.int .i64 1)).setCell (p := ⟨vb, 1, none⟩) (.inr HVG.out) (.int .i64 (-n))).setCell (p := ⟨vb, 2, none⟩) (.inr HVG.out) (.string ⟨#[]⟩))
   have HB4 := Lib.hid (((HB3.out.far (p := ⟨vb, 0, none⟩) HVM.out (.int .i64 1)).far (p := ⟨vb, 1, none⟩) HVM.out (.int .i64 (-n))).far (p := ⟨vb, 2, none⟩) HVM.out (.string ⟨#[]⟩))
   clear hbv4 z0' z1' z2' v0 v1 v2 lv
   obtain ⟨w4, hw4⟩ : ∃ x, ((w3.setCell ⟨vb, 0, none⟩ (.int .i64 1)).setCell ⟨vb, 1, none⟩ (.int .i64 (-n))).setCell ⟨vb, 2, none⟩ (.string ⟨#[]⟩) = x := ⟨_, rfl⟩
   rw [hw4] at HBV HP4 HK4 HB4 ⊢
   clear hw4
   have v0 : w4.cell? ⟨vb, 0, none⟩ = some (.int .i64 1) := HBV.out.cell 0
   have v1 : w4.cell? ⟨vb, 1, none⟩ = some (.int .i64 (-n)) := HBV.out.cell 1
   have v2 : w4.cell? ⟨vb, 2, none⟩ = some (.string (bs [])) := HBV.out.cell 2
   have lv := HBV.out.lt
   obtain ⟨rv, hrv⟩ : ∃ rv, rvB (⟨1, -n, []⟩ : Vl) = rv := ⟨_, rfl⟩
   have HRV : Hid (Calls Tryz.prog 169 #[.agg #[.int .i64 1, .int .i64 (-n), .string (bs [])]] w4 fun e w' => e = .returned (.bool rv) ∧ Keeps [] w4 w') := Lib.hid (by have := rightValue_any (⟨1, -n, []⟩ : Vl) w4; rw [hrv] at this; exact this)
   have HF := Lib.hid hrv
   clear hrv
   cases rv with
   | false =>
    have HX : Hid (R = .error (4, (hdT q).at_)) := Lib.hid (by rw [← HRF.out]; unfold finP; rw [HF.out]; rfl)
    go_wp2_with fail
    refine HRV.out.mono ?_
    rintro ev w5 ⟨rfl, hk5⟩
    have HP5 := Lib.hid (HP4.out.keep hk5)
    have HK5 := Lib.hid (HK4.out.trans hk5.of_nil)
    clear hk5
    go_wp2_with fail
    refine (fail_any' 4 w5 HP5.out).mono ?_
    rintro ev w6 ⟨⟨gi, rfl, hb⟩, hk6⟩
    exact ⟨rfl, by rw [HX.out]; exact ⟨gi, rfl, hb⟩, HK5.out.trans hk6.of_nil⟩
   | true =>
    have HX : Hid (R = .ok ((⟨1, -n, []⟩ : Vl), q.tail)) := Lib.hid (by rw [← HRF.out]; unfold finP; rw [HF.out]; rfl)
    have hk5q : (hdT q).kind ≠ 5 := by rw [HKD.out]; decide
    have HK5Q := Lib.hid hk5q
    clear hk5q
    go_wp2_with fail
    refine HRV.out.mono ?_
    rintro ev w5 ⟨rfl, hk5⟩
    have hP5 := HP4.out.keep hk5
    have HP5 := Lib.hid hP5
    have HK5 := Lib.hid (HK4.out.trans hk5.of_nil)
    have hBV5 := HBV.out.keep hk5 (by simp)
    have HB5 := Lib.hid (HB4.out.keep hk5 (by simp))
    have hmore := hP5.more HK5Q.out
    have hmore2 : (1 : Int) ≤ (q.length : Int) := by omega
    obtain ⟨g5, o5, c5, p0, pz, pb, pg, png, pn, pc, pc2, -, -, -, -⟩ := hP5.open'
    have pc3 : (1 : Int) < (c5 : Int) := by omega
    have HST := Lib.hid (fun n a d => @Ps.step w5 b g5 o5 c5 q hP5 p0 HK5Q.out n a d)
    have HBV5 := Lib.hid hBV5
    have x0 : w5.cell? ⟨vb, 0, none⟩ = some (.int .i64 1) := hBV5.cell 0
    have x1 : w5.cell? ⟨vb, 1, none⟩ = some (.int .i64 (-n)) := hBV5.cell 1
    have x2 : w5.cell? ⟨vb, 2, none⟩ = some (.string (bs [])) := hBV5.cell 2
    have lv5 := hBV5.lt
    have r0 : w5.cell? ⟨M, 0, none⟩ = some (.int .i64 0) := HB5.out.cell 0
    have r1 : w5.cell? ⟨M, 1, none⟩ = some (.int .i64 0) := HB5.out.cell 1
    have r2 : w5.cell? ⟨M, 2, none⟩ = some (.string ⟨#[]⟩) := HB5.out.cell 2
    have rz0 := HB5.out.frozen 0
    have rz1 := HB5.out.frozen 1
    have rz2 := HB5.out.frozen 2
    have lr := HB5.out.lt
    have nvb := HNB.out
    have nmb := HMB.out
    have nvm := HVM.out
    clear hP5 hk5 hBV5 v0 v1 v2 lv hmore
    go_wp2
    have hst := HST.out (q.length - 1) ⟨g5, o5 + 3, none⟩ (c5 - 1) rfl rfl rfl
    have hB6 := HB5.out.far (p := ⟨b, 0, none⟩) HMB.out (.slice (some ⟨g5, o5 + 3, none⟩) (q.length - 1) (c5 - 1))
    have hB7 := ((hB6.set 0 (.int .i64 1)).set 1 (.int .i64 (-n))).set 2 (.string (bs []))
    have y0 := hB7.cell 0
    have y1 := hB7.cell 1
    have y2 := hB7.cell 2
    refine bodyPost_ret (v := .agg #[.int .i64 1, .int .i64 (-n), .string (bs [])]) (by simp [results, Tryz.results177, go_sem, y0, y1, y2]) rfl ⟨?_, ?_⟩
    ·rw [HX.out]
     exact ⟨rfl, ((hst.1.set hB6 (by decide) (by decide) _).set (hB6.set 0 _) (by decide) (by decide) _).set ((hB6.set 0 _).set 1 _) (by decide) (by decide) _⟩
    ·exact (((HK5.out.trans hst.2).setCell (.inr HMG.out) _).setCell (.inr HMG.out) _).setCell (.inr HMG.out) _
  all_goals
   have HX : Hid (R = .error (4, (hdT q).at_)) := Lib.hid (by rw [← HV.out]; unfold val1P; rw [HKD.out, HTX.out, ha]; rfl)
   have HAT := Lib.hid (fun W hW => atoi_none (s := tx) (fun n h => by rw [ha] at h; cases h) hw1 W hW)
   clear ha
   go_wp2_with fail
   refine (HAT.out _ (HEt.out.quiet ((Keeps.refl _ _).alloc _)).env).mono ?_
   rintro ev w3 ⟨⟨n0, t0', p0', rfl⟩, hk3⟩
   have HP3 := Lib.hid ((HPt.out.keep ((Keeps.refl _ _).alloc (.cells #[.int .i64 2, .int .i64 0, .string ⟨#[]⟩] 41))).keep hk3)
   have HK3 := Lib.hid ((HKt.out.alloc (.cells #[.int .i64 2, .int .i64 0, .string ⟨#[]⟩] 41)).trans hk3.of_nil)
   clear hk3
   go_wp2_with fail
   refine (fail_any' 4 w3 HP3.out).mono ?_
   rintro ev w6 ⟨⟨gi, rfl, hb⟩, hk6⟩
   exact ⟨rfl, by rw [HX.out]; exact ⟨gi, rfl, hb⟩, HK3.out.trans hk6.of_nil⟩
 ·have e2 : (kd != 2) = true := by rw [bne_iff_ne]; exact hk2
  have HX : Hid (R = .error (3, (hdT q).at_)) := Lib.hid (by rw [← HV.out]; unfold val1P; rw [HKD.out, e2]; rfl)
  clear hk2 HW2 HW3
  go_wp2_with fail
  refine (fail_any' 3 _ HPt.out).mono ?_
  rintro ev w6 ⟨⟨gi, rfl, hb⟩, hk6⟩
  exact ⟨rfl, by rw [HX.out]; exact ⟨gi, rfl, hb⟩, HKt.out.trans hk6.of_nil⟩
end Go.Proofs.YtnjjajanfedjiaaGreatDoor
namespace Go.Proofs.YtnjjajanfedjiaaGreatDoor
open Go.RowKit Go.BigFrame
attribute [local go_sem] bs_size bs_extract bs_append bs_toList
theorem fvalue_any {l : List Tk} {b lo : Nat} (w : World) (hE : FB w lo) (hlo : lo ≤ b) (h : Ps w b l) :
  Calls Tryz.prog 177 #[.pointer (some ⟨b, 0, none⟩)] w fun e w' => ValOut (valueP l) b e w' ∧ Keeps [b] w w' := by
 unfold valueP
 cases hs : seeP [45] l with
 | true => exact value_neg w hE hlo h hs rfl
 | false => exact value_pos w hE hlo h hs
def arAgg (a : Ar) : Value := .agg #[.string (bs a.col), .int .i64 a.val.kind, .int .i64 a.val.num, .string (bs a.val.word)]
def ArgOut (R : Except (Int × Int) (Ar × List Tk)) (b : Nat) (e : Ending) (w' : World) : Prop := match R with
 | .ok (a, r) => e = .returned (arAgg a) ∧ Ps w' b r
 | .error x => Thrown x e w'
set_option maxRecDepth 100000 in
set_option maxHeartbeats 4000000 in
theorem farg_any {l : List Tk} {b lo : Nat} (w : World) (hE : FB w lo) (hlo : lo ≤ b) (h : Ps w b l) :
  Calls Tryz.prog 152 #[.pointer (some ⟨b, 0, none⟩)] w fun e w' => ArgOut (argP l) b e w' ∧ Keeps [b] w w' := by
 obtain ⟨R, hR⟩ : ∃ R, argP l = R := ⟨_, rfl⟩
 rw [hR]
 have HN : Hid (∀ W, Keeps [] w W → ∀ x, nameP l = .error x → Calls Tryz.prog 78 #[.pointer (some ⟨b, 0, none⟩)] W fun e w' => Thrown x e w' ∧ Keeps [b] W w') := Lib.hid (fun W q x hx => name_no hx W (h.keep q))
 have HY : Hid (∀ W, Keeps [] w W → ∀ s r, nameP l = .ok (s, r) → Calls Tryz.prog 78 #[.pointer (some ⟨b, 0, none⟩)] W fun e w' => e = .returned (.string (bs s)) ∧ Ps w' b r ∧ Keeps [b] W w') := Lib.hid (fun W q s r hx => name_yes hx W (h.keep q))
 have HV : Hid (∀ W, Keeps [] w W → Calls Tryz.prog 177 #[.pointer (some ⟨b, 0, none⟩)] W fun e w' => ValOut (valueP l) b e w' ∧ Keeps [b] W w') := Lib.hid (fun W q => fvalue_any W (hE.quiet q) hlo (h.keep q))
 have H := Lib.hid h
 obtain ⟨g, o, c, c0, z0, lb, lg, -, hn, hc, hc2, k0, k1, k2, -⟩ := h.open'
 have hn2 : (0 : Int) < (l.length : Int) := by omega
 have HM := Lib.hid (Nat.le_refl w.heap.size)
 have HMb : Hid (w.heap.size ≠ b) := Lib.hid (by omega)
 have HB := Lib.hid (Blk.new w 43 #[.string ⟨#[]⟩, .int .i64 0, .int .i64 0, .string ⟨#[]⟩])
 have HK := Lib.hid ((Keeps.refl [] w).alloc (.cells #[.string ⟨#[]⟩, .int .i64 0, .int .i64 0, .string ⟨#[]⟩] 43))
 have HP := Lib.hid (h.keep HK.out)
 clear h hE
 unfold argP at hR
 by_cases h1 : (hdT l).kind = 1
 ·rw [if_pos h1] at hR
  rw [h1] at k0
  rcases hN : nameP l with x | ⟨s, r⟩
  ·rw [hN] at hR
   have HX : Hid (R = .error x) := Lib.hid hR.symm
   have HC := Lib.hid (HN.out _ HK.out x hN)
   clear hR h1 hN
   go_enter Tryz.func152, Tryz.ntmps152
   go_wp2_with fail
   refine HC.out.mono ?_
   rintro ev w6 ⟨⟨gi, rfl, hb⟩, hk6⟩
   exact ⟨rfl, by rw [HX.out]; exact ⟨gi, rfl, hb⟩, HK.out.of_nil.trans hk6⟩
  ·rw [hN] at hR
   have HX : Hid (R = .ok (⟨s, zV⟩, r)) := Lib.hid hR.symm
   have HC := Lib.hid (HY.out _ HK.out s r hN)
   clear hR h1 hN
   go_enter Tryz.func152, Tryz.ntmps152
   go_wp2_with fail
   refine HC.out.mono ?_
   rintro ev w6 ⟨rfl, hp6, hk6⟩
   have hb6 := far_ps HP.out hk6 HB.out (by decide)
   obtain ⟨M, hM⟩ : ∃ M, w.heap.size = M := ⟨_, rfl⟩
   rw [hM] at hb6 ⊢
   have HM2 : Hid (w.heap.size ≤ M) := Lib.hid (by omega)
   have HB6 := Lib.hid hb6
   have HP6 := Lib.hid hp6
   have HK6 := Lib.hid (HK.out.of_nil.trans hk6)
   have f0 := hb6.frozen 0
   have f1 := hb6.frozen 1
   have f2 := hb6.frozen 2
   have f3 := hb6.frozen 3
   have r0 : w6.cell? ⟨M, 0, none⟩ = some (.string ⟨#[]⟩) := hb6.cell 0
   have r1 : w6.cell? ⟨M, 1, none⟩ = some (.int .i64 0) := hb6.cell 1
   have r2 : w6.cell? ⟨M, 2, none⟩ = some (.int .i64 0) := hb6.cell 2
   have r3 : w6.cell? ⟨M, 3, none⟩ = some (.string ⟨#[]⟩) := hb6.cell 3
   have lr := hb6.lt
   clear hb6 hp6 hk6 hM c0 z0 lb lg hn hc hc2 k0 k1 k2 hn2
   go_wp2
   have hb7 := (((HB6.out.set 0 (.string (bs s))).set 1 (.int .i64 0)).set 2 (.int .i64 0)).set 3 (.string ⟨#[]⟩)
   have y0 := hb7.cell 0
   have y1 := hb7.cell 1
   have y2 := hb7.cell 2
   have y3 := hb7.cell 3
   refine bodyPost_ret (v := .agg #[.string (bs s), .int .i64 0, .int .i64 0, .string ⟨#[]⟩]) (by simp [results, Tryz.results152, go_sem, y0, y1, y2, y3]) rfl ⟨?_, ?_⟩
   ·rw [HX.out]
    exact ⟨rfl, (((HP6.out.set HB6.out (by decide) (by decide) _).set (HB6.out.set 0 _) (by decide) (by decide) _).set ((HB6.out.set 0 _).set 1 _) (by decide) (by decide) _).set (((HB6.out.set 0 _).set 1 _).set 2 _) (by decide) (by decide) _⟩
   ·exact (((HK6.out.setCell (.inr HM2.out) _).setCell (.inr HM2.out) _).setCell (.inr HM2.out) _).setCell (.inr HM2.out) _
 ·rw [if_neg h1] at hR
  have h1b : ((hdT l).kind == 1) = false := by rw [beq_eq_false_iff_ne]; exact h1
  have HC := HV.out _ HK.out
  rcases hN : valueP l with x | ⟨v, r⟩
  ·rw [hN] at hR HC
   have HX : Hid (R = .error x) := Lib.hid hR.symm
   have HC2 := Lib.hid HC
   clear hR h1 hN HC
   go_enter Tryz.func152, Tryz.ntmps152
   go_wp2_with fail
   refine HC2.out.mono ?_
   rintro ev w6 ⟨⟨gi, rfl, hb⟩, hk6⟩
   exact ⟨rfl, by rw [HX.out]; exact ⟨gi, rfl, hb⟩, HK.out.of_nil.trans hk6⟩
  ·rw [hN] at hR HC
   obtain ⟨kd, nm, wd⟩ := v
   have HX : Hid (R = .ok (⟨[], ⟨kd, nm, wd⟩⟩, r)) := Lib.hid hR.symm
   have HC2 := Lib.hid HC
   clear hR h1 hN HC
   go_enter Tryz.func152, Tryz.ntmps152
   go_wp2_with fail
   refine HC2.out.mono ?_
   rintro ev w6 ⟨⟨he6, hp6⟩, hk6⟩
   have he7 : ev = .returned (.agg #[.int .i64 kd, .int .i64 nm, .string (bs wd)]) := he6
   subst he7
   clear he6
   have hb6 := far_ps HP.out hk6 HB.out (by decide)
   obtain ⟨M, hM⟩ : ∃ M, w.heap.size = M := ⟨_, rfl⟩
   rw [hM] at hb6 ⊢
   have HM2 : Hid (w.heap.size ≤ M) := Lib.hid (by omega)
   have HB6 := Lib.hid hb6
   have HP6 := Lib.hid hp6
   have HK6 := Lib.hid (HK.out.of_nil.trans hk6)
   have f0 := hb6.frozen 0
   have f1 := hb6.frozen 1
   have f2 := hb6.frozen 2
   have f3 := hb6.frozen 3
   have r0 : w6.cell? ⟨M, 0, none⟩ = some (.string ⟨#[]⟩) := hb6.cell 0
   have r1 : w6.cell? ⟨M, 1, none⟩ = some (.int .i64 0) := hb6.cell 1
   have r2 : w6.cell? ⟨M, 2, none⟩ = some (.int .i64 0) := hb6.cell 2
   have r3 : w6.cell? ⟨M, 3, none⟩ = some (.string ⟨#[]⟩) := hb6.cell 3
   have lr := hb6.lt
   clear hb6 hp6 hk6 hM c0 z0 lb lg hn hc hc2 k0 k1 k2 hn2
   go_wp2
   have hb7 := (((HB6.out.set 0 (.string ⟨#[]⟩)).set 1 (.int .i64 kd)).set 2 (.int .i64 nm)).set 3 (.string (bs wd))
   have y0 := hb7.cell 0
   have y1 := hb7.cell 1
   have y2 := hb7.cell 2
   have y3 := hb7.cell 3
   refine bodyPost_ret (v := .agg #[.string ⟨#[]⟩, .int .i64 kd, .int .i64 nm, .string (bs wd)]) (by simp [results, Tryz.results152, go_sem, y0, y1, y2, y3]) rfl ⟨?_, ?_⟩
   ·rw [HX.out]
    exact ⟨rfl, (((HP6.out.set HB6.out (by decide) (by decide) _).set (HB6.out.set 0 _) (by decide) (by decide) _).set ((HB6.out.set 0 _).set 1 _) (by decide) (by decide) _).set (((HB6.out.set 0 _).set 1 _).set 2 _) (by decide) (by decide) _⟩
   ·exact (((HK6.out.setCell (.inr HM2.out) _).setCell (.inr HM2.out) _).setCell (.inr HM2.out) _).setCell (.inr HM2.out) _
end Go.Proofs.YtnjjajanfedjiaaGreatDoor
