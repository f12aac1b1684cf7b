/- What the reader leans on, below a block; what lies apart from a reader. The reference's arg. The reference's input. -/
import Derived.Test.YtnjjajanfedjiaaGreatDoorFrdM17
import Derived.Test.YtnjjajanfedjiaaGreatDoorFrdM9
import Derived.Deep.CutBlock
import Derived.Deep.DeepCutAuto
set_option linter.unusedSimpArgs false
set_option linter.unusedVariables false
namespace Go.Proofs.YtnjjajanfedjiaaGreatDoor
open Go.RowKit Go.BigFrame
attribute [local go_sem] bs_size bs_extract bs_append bs_toList
def RB (w : World) (lo : Nat) : Prop := ∃ w0, FEnv w0 ∧ REnv w0 ∧ Keeps [] w0 w ∧ w0.heap.size ≤ lo
section
variable {w w' W W' : World} {lo b g i : Nat} {l : List Tk} {x : Option (Int × Int)}
theorem RB.fb (h : RB w lo) : FB w lo := by
 obtain ⟨w0, h1, _, h3, h4⟩ := h
 exact ⟨w0, h1, h3, h4⟩
theorem RB.renv (h : RB w lo) : REnv w := by
 obtain ⟨w0, _, h2, h3, _⟩ := h
 exact h2.quiet h3
theorem RB.fine (h : RB w lo) : FineAt w := h.renv.fine
theorem RB.flt (h : RB w lo) : 0 < lo := by
 obtain ⟨w0, _, h2, _, h4⟩ := h
 have := World.block_lt_of_cell? _ _ h2.fine.1
 have h5 : 0 < w0.heap.size := this
 omega
theorem RB.mlt (h : RB w lo) : 5 < lo := by
 obtain ⟨w0, _, h2, _, h4⟩ := h
 obtain ⟨m, hm⟩ := h2.mlen
 have h5 : 5 < w0.heap.size := World.block_lt_of_cell? _ _ hm
 omega
theorem RB.fne (h : RB w lo) (hb : lo ≤ b) : 0 ≠ b := by have := h.flt; omega
theorem RB.mne (h : RB w lo) (hb : lo ≤ b) : 5 ≠ b := by have := h.mlt; omega
theorem RB.go {L : List Nat} (h : RB w lo) (hk : Keeps L w w') (hL : ∀ y ∈ L, lo ≤ y) : RB w' lo := by
 obtain ⟨w0, h1, h1', h2, h3⟩ := h
 exact ⟨w0, h1, h1', h2.trans' hk (fun x hx hl => by have := hL x hx; omega), h3⟩
theorem RB.quiet (h : RB w lo) (hk : Keeps [] w w') : RB w' lo := h.go hk (fun x hx => by cases hx)
theorem RB.one (h : RB w lo) (hb : lo ≤ b) (hk : Keeps [b] w w') : RB w' lo := h.go hk (fun x hx => by simp at hx; omega)
theorem far_rd (h : RdIs w b l x) (hk : Keeps [b] w w') {t : TypeId} {cs : Array Value} (hg : Blk w g t cs) (ht : t ≠ 76) : Blk w' g t cs :=
 hg.keep hk (fun hm => by
  have : g = b := by simpa using hm
  subst this
  exact hg.ty.ne h.ty ht rfl)
theorem RdIs.set {t : TypeId} {cs : Array Value} (h : RdIs W b l x) (hg : Blk W g t cs) (h1 : t ≠ 76) (h2 : t ≠ 81) (u : Value) : RdIs (W.setCell ⟨g, i, none⟩ u) b l x :=
 h.far (L := [g]) (Keeps.setCell (Keeps.refl _ _) (.inl (by simp)) _) (fun x hx => ⟨t, by rw [List.mem_singleton.1 hx]; exact hg.ty, h1, h2⟩)
theorem Rl.dead {α : Type} {P : List Tk → Except (Int × Int) (α × List Tk)} {y : Int × Int} {a : α} {l' : List Tk} {x' : Option (Int × Int)} (h : Rl P l (some y) a l' x') : x' = some y := by
 cases x' with
 | none => exact absurd h.1 (by simp)
 | some z =>
  have : (Except.error y : Except (Int × Int) (α × List Tk)) = .error z := h
  injection this with e
  rw [e]
theorem Rl.any {α : Type} {P : List Tk → Except (Int × Int) (α × List Tk)} {y : Int × Int} {a : α} {l' : List Tk} (h : Rl P l x a l' (some y)) (c : α) (q : List Tk) : Rl P l x c q (some y) := h
end
end Go.Proofs.YtnjjajanfedjiaaGreatDoor
namespace Go.Proofs.YtnjjajanfedjiaaGreatDoor
open Go.RowKit Go.BigFrame
attribute [local go_sem] bs_size bs_extract bs_append bs_toList
theorem trim_env (s : Bs) (hs : s.length ≤ 1000000) (w : World) : Calls Tryz.prog 87 #[.string (bs s), .string (bs [39])] w fun e w' => e = .returned (.string (bs (Lib.trimB s 39))) ∧ Keeps [] w w' := by
 refine (Tryz.strings_Trim_one (bs s) 39 (by decide) w (by rw [bs_size]; omega)).mono ?_
 rintro e w' ⟨rfl, hw⟩
 refine ⟨by rw [show (bs s).data.toList = s from by simp [bs]]; rfl, ?_⟩
 rcases hw with rfl | rfl
 ·exact Keeps.refl _ _
 ·exact (Keeps.refl _ _).drew
theorem finX_some (y : Int × Int) (v : Vl) (q : List Tk) : finX (some y) v q = some y := by
 unfold finX
 split <;> rfl
theorem val_rl {neg : Bool} {q : List Tk} {x : Option (Int × Int)} {v : Vl} (h : x = none → val1P neg q = finP q v) : Rl (val1P neg) q x v (finL (finX x v q) q) (finX x v q) := by
 cases x with
 | none => exact fin_rl (h rfl)
 | some y => exact val_some (finX_some y v q)
theorem badv_rl {neg : Bool} {q : List Tk} {x : Option (Int × Int)} {v : Vl} {e : Int} (h : x = none → val1P neg q = failP e q) : Rl (val1P neg) q x v (finL (finX (badX x e q) v q) q) (finX (badX x e q) v q) := by
 cases x with
 | none => exact bad_rl (h rfl)
 | some y => exact val_some (finX_some y v q)
theorem badX_no {x : Option (Int × Int)} {e : Int} {l : List Tk} {p : Prop} (h : badX x e l = none) : p := by
 obtain ⟨y, hy⟩ := badX_ne x e l
 rw [hy] at h
 cases h
theorem mid_trim {s : Bs} (h : ∃ w : Bs, s = 39 :: (w ++ [39]) ∧ (39 : UInt8) ∉ w) : midB s = Lib.trimB s 39 ∧ (Lib.trimB s 39).length ≤ s.length := by
 obtain ⟨w, rfl, hw⟩ := h
 rw [mid_quoted, trim_quoted hw]
 exact ⟨rfl, by simp; omega⟩
theorem put_val {w w3 : World} {b M V lo : Nat} {q : List Tk} {x2 : Option (Int × Int)} {a0 a1 a2 : Value} {cs : Array Value} (hp : RdIs w3 b q x2) (hv : Blk w3 V 41 #[a0, a1, a2]) (hb : Blk w3 M 43 cs) (hM : M ≠ V) (hk : Keeps [b] w w3) (hV : w.heap.size ≤ V) (he : RB w3 lo) (hlo : lo ≤ V) (k n u : Value) :
    RdIs (((w3.setCell ⟨V, 0, none⟩ k).setCell ⟨V, 1, none⟩ n).setCell ⟨V, 2, none⟩ u) b q x2 ∧ Blk (((w3.setCell ⟨V, 0, none⟩ k).setCell ⟨V, 1, none⟩ n).setCell ⟨V, 2, none⟩ u) V 41 #[k, n, u] ∧ Blk (((w3.setCell ⟨V, 0, none⟩ k).setCell ⟨V, 1, none⟩ n).setCell ⟨V, 2, none⟩ u) M 43 cs ∧ Keeps [b] w (((w3.setCell ⟨V, 0, none⟩ k).setCell ⟨V, 1, none⟩ n).setCell ⟨V, 2, none⟩ u) ∧ RB (((w3.setCell ⟨V, 0, none⟩ k).setCell ⟨V, 1, none⟩ n).setCell ⟨V, 2, none⟩ u) lo :=
  ⟨((hp.set hv (by decide) (by decide) _).set (hv.set 0 _) (by decide) (by decide) _).set ((hv.set 0 _).set 1 _) (by decide) (by decide) _,
   (((hv.set 0 k).set 1 n).set 2 u).congr rfl,
   ((hb.far (p := ⟨V, 0, none⟩) hM k).far (p := ⟨V, 1, none⟩) hM n).far (p := ⟨V, 2, none⟩) hM u,
   ((hk.setCell (.inr hV) _).setCell (.inr hV) _).setCell (.inr hV) _,
   he.go (L := [V]) ((((Keeps.refl _ _).setCell (.inl (by simp)) _).setCell (.inl (by simp)) _).setCell (.inl (by simp)) _) (fun y hy => by rw [List.mem_singleton.1 hy]; exact hlo)⟩
set_option maxRecDepth 100000 in
set_option maxHeartbeats 8000000 in
theorem rarg_any {l : List Tk} {b lo : Nat} {x : Option (Int × Int)} (w : World) (hE : RB w lo) (hlo : lo ≤ b) (h : RdIs w b l x) (hll : l.length ≤ 1000000) :
  Calls Tryz.prog 109 #[.pointer (some ⟨b, 0, none⟩)] w fun e w' => ∃ a l' x', e = .returned (arAgg a) ∧ RdIs w' b l' x' ∧ Rl argP l x a l' x' ∧ l'.length ≤ l.length ∧ Keeps [b] w w' := by
 obtain ⟨M, hM⟩ : ∃ M, w.heap.size = M := ⟨_, rfl⟩
 have hb0 := Blk.new w 43 #[.string ⟨#[]⟩, .int .i64 0, .int .i64 0, .string ⟨#[]⟩]
 have hk0 := (Keeps.refl [] w).alloc (.cells #[.string ⟨#[]⟩, .int .i64 0, .int .i64 0, .string ⟨#[]⟩] 43)
 have hp0 := h.keep hk0
 have he0 := hE.quiet hk0
 have HMb : Hid (M ≠ b) := Lib.hid (by have := h.lt; omega)
 have HMw : Hid (w.heap.size ≤ M) := Lib.hid (by omega)
 rw [hM] at hb0
 clear h hE
 go_enter Tryz.func109, Tryz.ntmps109
 go_upto_region 1 with (fail)
 try rw [hM]
 obtain ⟨y0, hy0⟩ : ∃ y, w.alloc (.cells #[.string ⟨#[]⟩, .int .i64 0, .int .i64 0, .string ⟨#[]⟩] 43) = y := ⟨_, rfl⟩
 rw [hy0] at hb0 hk0 hp0 he0 ⊢
 have HB := Lib.hid hb0
 have HK := Lib.hid (Keeps.of_nil (L := [b]) hk0)
 have HP := Lib.hid hp0
 have HE := Lib.hid he0
 clear hb0 hk0 hp0 he0 hy0 hM
 have HO := Lib.hid (ok_any y0 HE.out.fine HP.out)
 by_cases hA : x = none ∧ (hdT l).kind = 1
 ·obtain ⟨rfl, hkd⟩ := hA
  have HKD := Lib.hid hkd
  clear hkd
  go_wp2_with fail
  refine HO.out.mono ?_
  rintro ev w1 ⟨hev, hk⟩
  have hev' : ev = .returned (.bool true) := hev
  subst hev'
  have HK1 := Lib.hid (HK.out.trans hk.of_nil)
  have HP1 := Lib.hid (HP.out.keep hk)
  have HB1 := Lib.hid (HB.out.keep hk (by simp))
  have HE1 := Lib.hid (HE.out.quiet hk)
  obtain ⟨g, o, c, c0, c1, c2, -, lb, lg, -, hn, hc, hc2, k0, k1, k2, -⟩ := HP1.out.open'
  rw [HKD.out] at k0
  have hn2 : (0 : Int) < (l.length : Int) := by omega
  clear hev hk HK HP HB HE HO
  go_wp2_with fail
  refine (rname_any w1 HE1.out.fine (HE1.out.fne hlo) HP1.out).mono ?_
  rintro ev w2 ⟨s, l', x', rfl, hp, hr, hs, hll', hk⟩
  have hb2 := far_rd HP1.out hk HB1.out (by decide)
  have HK2 := Lib.hid (HK1.out.trans hk)
  have HP2 := Lib.hid hp
  have HB2 := Lib.hid hb2
  have HR := Lib.hid (arg_name HKD.out hr)
  have HLL := Lib.hid hll'
  have f0 := hb2.frozen 0
  have f1 := hb2.frozen 1
  have f2 := hb2.frozen 2
  have f3 := hb2.frozen 3
  have r0 : w2.cell? ⟨M, 0, none⟩ = some (.string ⟨#[]⟩) := hb2.cell 0
  have r1 : w2.cell? ⟨M, 1, none⟩ = some (.int .i64 0) := hb2.cell 1
  have r2 : w2.cell? ⟨M, 2, none⟩ = some (.int .i64 0) := hb2.cell 2
  have r3 : w2.cell? ⟨M, 3, none⟩ = some (.string ⟨#[]⟩) := hb2.cell 3
  have lr := hb2.lt
  clear hb2 hp hr hs hll' hk c0 c1 c2 lb lg hn hc hc2 k0 k1 k2 hn2 HK1 HP1 HB1 HE1
  go_wp2
  have hb7 := (((HB2.out.set 0 (.string (bs s))).set 1 (.int .i64 0)).set 2 (.int .i64 0)).set 3 (.string ⟨#[]⟩)
  have y0 := hb7.cell 0
  have y1 := hb7.cell 1
  have y2 := hb7.cell 2
  have y3 := hb7.cell 3
  refine bodyPost_ret (v := .agg #[.string (bs s), .int .i64 0, .int .i64 0, .string ⟨#[]⟩]) (by simp [results, Tryz.results109, go_sem, y0, y1, y2, y3]) rfl ?_
  exact ⟨⟨s, zV⟩, l', x', rfl, (((HP2.out.set HB2.out (by decide) (by decide) _).set (HB2.out.set 0 _) (by decide) (by decide) _).set ((HB2.out.set 0 _).set 1 _) (by decide) (by decide) _).set (((HB2.out.set 0 _).set 1 _).set 2 _) (by decide) (by decide) _, HR.out, HLL.out, (((HK2.out.setCell (.inr HMw.out) _).setCell (.inr HMw.out) _).setCell (.inr HMw.out) _).setCell (.inr HMw.out) _⟩
 ·have HA : Hid (x = none → (hdT l).kind ≠ 1) := Lib.hid (fun e h1 => hA ⟨e, h1⟩)
  have HBOX : Hid True := Lib.hid trivial
  go_cut [19] (fun v wx => v = .bool false ∧ Hid (RdIs wx b l x) ∧ Hid (Blk wx M 43 #[.string ⟨#[]⟩, .int .i64 0, .int .i64 0, .string ⟨#[]⟩]) ∧ Hid (Keeps [b] w wx) ∧ Hid (RB wx lo))
  case first =>
   cases x with
   | some y =>
    clear hA
    go_wp2_with fail
    refine HO.out.mono ?_
    rintro ev w1 ⟨hev, hk⟩
    have hev' : ev = .returned (.bool false) := hev
    subst hev'
    have HK1 := Lib.hid (HK.out.trans hk.of_nil)
    have HP1 := Lib.hid (HP.out.keep hk)
    have HB1 := Lib.hid (HB.out.keep hk (by simp))
    have HE1 := Lib.hid (HE.out.quiet hk)
    clear hev hk HK HP HB HE HO
    go_wp2
    go_meet
    exact ⟨rfl, HP1, HB1, HK1, HE1⟩
   | none =>
    have hkb : ((hdT l).kind == 1) = false := by rw [beq_eq_false_iff_ne]; exact HA.out rfl
    clear hA
    go_wp2_with fail
    refine HO.out.mono ?_
    rintro ev w1 ⟨hev, hk⟩
    have hev' : ev = .returned (.bool true) := hev
    subst hev'
    have HK1 := Lib.hid (HK.out.trans hk.of_nil)
    have HP1 := Lib.hid (HP.out.keep hk)
    have HB1 := Lib.hid (HB.out.keep hk (by simp))
    have HE1 := Lib.hid (HE.out.quiet hk)
    obtain ⟨g, o, c, c0, c1, c2, -, lb, lg, -, hn, hc, hc2, k0, k1, k2, -⟩ := HP1.out.open'
    have hn2 : (0 : Int) < (l.length : Int) := by omega
    clear hev hk HK HP HB HE HO
    go_wp2
    go_meet
    exact ⟨rfl, HP1, HB1, HK1, HE1⟩
  case rest =>
   obtain ⟨rfl, HP, HB, HK, HE⟩ := hcut
   obtain ⟨w1, rfl⟩ : ∃ y : World, y = wc := ⟨_, rfl⟩
   clear hA HO
   have hT := rtake_any [45] w1 HE.out.fine HP.out
   have HV : Hid (∀ v l' x', Rl (val1P (x.isNone && seeP [45] l)) (if x.isNone && seeP [45] l then l.tail else l) x v l' x' → Rl argP l x ⟨[], v⟩ l' x') := Lib.hid (fun v l' x' hq => arg_rl HA.out (value_rl hq))
   obtain ⟨mn, hmn⟩ : ∃ mn, (x.isNone && seeP [45] l) = mn := ⟨_, rfl⟩
   rw [hmn] at hT HV
   obtain ⟨q, hq⟩ : ∃ q, (if mn then l.tail else l) = q := ⟨_, rfl⟩
   rw [hq] at hT HV
   have HQL : Hid (q.length ≤ l.length) := Lib.hid (by rw [← hq]; split <;> first | omega | (rw [List.length_tail]; omega))
   have HT := Lib.hid hT
   clear hT hmn hq HA
   go_wp2_with fail
   refine HT.out.mono ?_
   rintro ev w2 ⟨rfl, hp, hk⟩
   have HB2 := Lib.hid (far_rd HP.out hk HB.out (by decide))
   have HK2 := Lib.hid (HK.out.trans hk)
   have HE2 := Lib.hid (HE.out.one hlo hk)
   have HP2 := Lib.hid hp
   clear HP HB HK HE HT hp hk
   obtain ⟨kd, hkd⟩ : ∃ kd, (hdT q).kind = kd := ⟨_, rfl⟩
   obtain ⟨tx, htx⟩ : ∃ tx, (hdT q).text = tx := ⟨_, rfl⟩
   obtain ⟨at_, hat⟩ : ∃ at_, (hdT q).at_ = at_ := ⟨_, rfl⟩
   obtain ⟨g, o, c, c0, c1, c2, -, lb, lg, -, hn, hc, hc2, k0, k1, k2, htk⟩ := HP2.out.open'
   rw [hkd] at k0
   rw [htx] at k1
   rw [hat] at k2
   have hn2 : (0 : Int) < (q.length : Int) := by omega
   have HKD := Lib.hid hkd
   have HTX := Lib.hid htx
   have HTK := Lib.hid htk
   have htb := (Blk.new w2 81 #[.int .i64 kd, .string (bs tx), .int .i64 at_]).alloc (.cells #[.int .i64 0, .int .i64 0, .string ⟨#[]⟩] 41)
   have hvb := Blk.new (w2.alloc (.cells #[.int .i64 kd, .string (bs tx), .int .i64 at_] 81)) 41 #[.int .i64 0, .int .i64 0, .string ⟨#[]⟩]
   rw [fsz] at hvb
   have hal : Keeps [] w2 ((w2.alloc (.cells #[.int .i64 kd, .string (bs tx), .int .i64 at_] 81)).alloc (.cells #[.int .i64 0, .int .i64 0, .string ⟨#[]⟩] 41)) := ((Keeps.refl _ _).alloc _).alloc _
   have HP3' := Lib.hid (HP2.out.keep hal)
   have HB3' := Lib.hid (HB2.out.keep hal (by simp))
   have HK3' := Lib.hid (HK2.out.trans hal.of_nil)
   have HE3' := Lib.hid (HE2.out.quiet hal)
   obtain ⟨T, hT⟩ : ∃ T, w2.heap.size = T := ⟨_, rfl⟩
   have HTM : Hid (M ≠ T ∧ M ≠ T + 1 ∧ b ≠ T + 1 ∧ w.heap.size ≤ T + 1) := Lib.hid (by have := HB2.out.lt; have := HP2.out.lt; have := HK2.out.size; omega)
   have HLV : Hid (lo ≤ T + 1) := Lib.hid (by have := HP2.out.lt; omega)
   go_upto_block 0 with (fail)
   rw [hT] at htb hvb
   try rw [hT]
   obtain ⟨y, hy⟩ : ∃ y, ((w2.alloc (.cells #[.int .i64 kd, .string (bs tx), .int .i64 at_] 81)).alloc (.cells #[.int .i64 0, .int .i64 0, .string ⟨#[]⟩] 41)) = y := ⟨_, rfl⟩
   rw [hy] at htb hvb HP3' HB3' HK3' HE3' ⊢
   have HTB := Lib.hid htb
   have HVB := Lib.hid hvb
   have HP := HP3'
   have HB := HB3'
   have HK := HK3'
   have HE := HE3'
   have t0 : y.cell? ⟨T, 0, none⟩ = some (.int .i64 kd) := htb.cell 0
   have t1 : y.cell? ⟨T, 1, none⟩ = some (.string (bs tx)) := htb.cell 1
   have lt := htb.lt
   have v0 : y.cell? ⟨T + 1, 0, none⟩ = some (.int .i64 0) := hvb.cell 0
   have v1 : y.cell? ⟨T + 1, 1, none⟩ = some (.int .i64 0) := hvb.cell 1
   have v2 : y.cell? ⟨T + 1, 2, none⟩ = some (.string ⟨#[]⟩) := hvb.cell 2
   have g0 := hvb.frozen 0
   have g1 := hvb.frozen 1
   have g2 := hvb.frozen 2
   have lv := hvb.lt
   clear HP3' HB3' HK3' HE3' HP2 HB2 HK2 HE2 hy hT hal htb hvb hkd htx hat htk c0 c1 c2 lb lg hn hc hc2 k0 k1 k2 hn2
   go_cut [] (fun wx => ∃ (v : Vl) (x2 : Option (Int × Int)), Hid (RdIs wx b q x2) ∧ Hid (Blk wx (T + 1) 41 #[.int .i64 v.kind, .int .i64 v.num, .string (bs v.word)]) ∧ Hid (Blk wx M 43 #[.string ⟨#[]⟩, .int .i64 0, .int .i64 0, .string ⟨#[]⟩]) ∧ Hid (Keeps [b] w wx) ∧ Hid (RB wx lo) ∧ Hid (v.word.length ≤ 1000000) ∧ Hid (Rl (val1P mn) q x v (finL (finX x2 v q) q) (finX x2 v q)) ∧ Hid (x2 = none → (hdT q).kind ≠ 5))
   case first =>
    by_cases hk2 : kd = 2
    ·subst hk2
     have hw1 : tx.length ≤ 1000000 := by have := HTK.out.1.1.1; rw [HTX.out] at this; exact this
     have hdg : ∀ c ∈ tx, digC c = true := by have := HTK.out.1.1.2.1 HKD.out; rw [HTX.out] at this; exact this
     have HNE5 : Hid (x = none → (hdT q).kind ≠ 5) := Lib.hid (fun _ => by rw [HKD.out]; decide)
     rcases ha : Lib.atoiAll tx with n | _ | _
     ·have hpos := atoi_pos ha hdg
      have hp1 := hpos.1
      have hp2 := hpos.2
      have HAT := Lib.hid (fun W hW => atoi_yes ha hw1 W hW)
      have HRL : Hid (Rl (val1P mn) q x ⟨1, if mn then -n else n, []⟩ (finL (finX x ⟨1, if mn then -n else n, []⟩ q) q) (finX x ⟨1, if mn then -n else n, []⟩ q)) := Lib.hid (val_rl (fun _ => val_num HKD.out (by rw [HTX.out]; exact ha)))
      clear ha hpos hdg hw1
      go_wp2_with fail
      refine (HAT.out y HE.out.fb.env).mono ?_
      rintro ev w3 ⟨rfl, hk⟩
      clear t0 t1 lt HTB HAT
      clear v0 v1 v2 g0 g1 g2 lv
      have HP' := Lib.hid (HP.out.keep hk)
      have HB' := Lib.hid (HB.out.keep hk (by simp))
      have HVB' := Lib.hid (HVB.out.keep hk (by simp))
      have HK' := Lib.hid (HK.out.trans hk.of_nil)
      have HE' := Lib.hid (HE.out.quiet hk)
      clear HP HB HVB HK HE hk
      have HP := HP'
      have HB := HB'
      have HVB := HVB'
      have HK := HK'
      have HE := HE'
      clear HP' HB' HVB' HK' HE'
      have v0 : w3.cell? ⟨T + 1, 0, none⟩ = some (.int .i64 (0)) := HVB.out.cell 0
      have v1 : w3.cell? ⟨T + 1, 1, none⟩ = some (.int .i64 (0)) := HVB.out.cell 1
      have v2 : w3.cell? ⟨T + 1, 2, none⟩ = some (.string (⟨#[]⟩)) := HVB.out.cell 2
      have g0 := HVB.out.frozen 0
      have g1 := HVB.out.frozen 1
      have g2 := HVB.out.frozen 2
      have lv := HVB.out.lt
      cases mn with
      | false =>
       go_wp2
       go_meet
       refine ⟨⟨1, n, []⟩, x, Lib.hid (put_val HP.out HVB.out HB.out HTM.out.2.1 HK.out HTM.out.2.2.2 HE.out HLV.out _ _ _).1, Lib.hid (put_val HP.out HVB.out HB.out HTM.out.2.1 HK.out HTM.out.2.2.2 HE.out HLV.out _ _ _).2.1, Lib.hid (put_val HP.out HVB.out HB.out HTM.out.2.1 HK.out HTM.out.2.2.2 HE.out HLV.out _ _ _).2.2.1, Lib.hid (put_val HP.out HVB.out HB.out HTM.out.2.1 HK.out HTM.out.2.2.2 HE.out HLV.out _ _ _).2.2.2.1, Lib.hid (put_val HP.out HVB.out HB.out HTM.out.2.1 HK.out HTM.out.2.2.2 HE.out HLV.out _ _ _).2.2.2.2, Lib.hid (Nat.zero_le _), HRL, HNE5⟩
      | true =>
       go_wp2
       go_meet
       refine ⟨⟨1, -n, []⟩, x, Lib.hid (put_val HP.out HVB.out HB.out HTM.out.2.1 HK.out HTM.out.2.2.2 HE.out HLV.out _ _ _).1, Lib.hid (put_val HP.out HVB.out HB.out HTM.out.2.1 HK.out HTM.out.2.2.2 HE.out HLV.out _ _ _).2.1, Lib.hid (put_val HP.out HVB.out HB.out HTM.out.2.1 HK.out HTM.out.2.2.2 HE.out HLV.out _ _ _).2.2.1, Lib.hid (put_val HP.out HVB.out HB.out HTM.out.2.1 HK.out HTM.out.2.2.2 HE.out HLV.out _ _ _).2.2.2.1, Lib.hid (put_val HP.out HVB.out HB.out HTM.out.2.1 HK.out HTM.out.2.2.2 HE.out HLV.out _ _ _).2.2.2.2, Lib.hid (Nat.zero_le _), HRL, HNE5⟩
     all_goals
      have HAT := Lib.hid (fun W hW => atoi_none (s := tx) (fun n h => by rw [ha] at h; cases h) hw1 W hW)
      have HRL : Hid (∀ v, Rl (val1P mn) q x v (finL (finX (badX x 4 q) v q) q) (finX (badX x 4 q) v q)) := Lib.hid (fun v => badv_rl (fun _ => val_ill HKD.out (by rw [HTX.out, ha]; intro n h; cases h)))
      clear ha hdg hw1
      go_wp2_with fail
      refine (HAT.out y HE.out.fb.env).mono ?_
      rintro ev w3 ⟨⟨n0, et, ep, rfl⟩, hk⟩
      clear t0 t1 lt HTB HAT
      clear v0 v1 v2 g0 g1 g2 lv
      have HP' := Lib.hid (HP.out.keep hk)
      have HB' := Lib.hid (HB.out.keep hk (by simp))
      have HVB' := Lib.hid (HVB.out.keep hk (by simp))
      have HK' := Lib.hid (HK.out.trans hk.of_nil)
      have HE' := Lib.hid (HE.out.quiet hk)
      clear HP HB HVB HK HE hk
      have HP := HP'
      have HB := HB'
      have HVB := HVB'
      have HK := HK'
      have HE := HE'
      clear HP' HB' HVB' HK' HE'
      go_wp2_with fail
      refine (rfails_any 4 (by decide) w3 HE.out.fine HP.out).mono ?_
      rintro ev w4 ⟨rfl, hp, hk⟩
      have HB' := Lib.hid (far_rd HP.out hk HB.out (by decide))
      have HVB' := Lib.hid (far_rd HP.out hk HVB.out (by decide))
      have HK' := Lib.hid (HK.out.trans hk)
      have HE' := Lib.hid (HE.out.one hlo hk)
      have HP' := Lib.hid hp
      clear HP HB HVB HK HE hk hp
      have HP := HP'
      have HB := HB'
      have HVB := HVB'
      have HK := HK'
      have HE := HE'
      clear HP' HB' HVB' HK' HE'
      have v0 : w4.cell? ⟨T + 1, 0, none⟩ = some (.int .i64 (0)) := HVB.out.cell 0
      have v1 : w4.cell? ⟨T + 1, 1, none⟩ = some (.int .i64 (0)) := HVB.out.cell 1
      have v2 : w4.cell? ⟨T + 1, 2, none⟩ = some (.string (⟨#[]⟩)) := HVB.out.cell 2
      have g0 := HVB.out.frozen 0
      have g1 := HVB.out.frozen 1
      have g2 := HVB.out.frozen 2
      have lv := HVB.out.lt
      cases mn with
      | false =>
       go_wp2
       go_meet
       refine ⟨⟨1, _, []⟩, badX x 4 q, Lib.hid (put_val HP.out HVB.out HB.out HTM.out.2.1 HK.out HTM.out.2.2.2 HE.out HLV.out _ _ _).1, Lib.hid (put_val HP.out HVB.out HB.out HTM.out.2.1 HK.out HTM.out.2.2.2 HE.out HLV.out _ _ _).2.1, Lib.hid (put_val HP.out HVB.out HB.out HTM.out.2.1 HK.out HTM.out.2.2.2 HE.out HLV.out _ _ _).2.2.1, Lib.hid (put_val HP.out HVB.out HB.out HTM.out.2.1 HK.out HTM.out.2.2.2 HE.out HLV.out _ _ _).2.2.2.1, Lib.hid (put_val HP.out HVB.out HB.out HTM.out.2.1 HK.out HTM.out.2.2.2 HE.out HLV.out _ _ _).2.2.2.2, Lib.hid (Nat.zero_le _), Lib.hid (HRL.out _), Lib.hid badX_no⟩
      | true =>
       go_wp2
       go_meet
       refine ⟨⟨1, _, []⟩, badX x 4 q, Lib.hid (put_val HP.out HVB.out HB.out HTM.out.2.1 HK.out HTM.out.2.2.2 HE.out HLV.out _ _ _).1, Lib.hid (put_val HP.out HVB.out HB.out HTM.out.2.1 HK.out HTM.out.2.2.2 HE.out HLV.out _ _ _).2.1, Lib.hid (put_val HP.out HVB.out HB.out HTM.out.2.1 HK.out HTM.out.2.2.2 HE.out HLV.out _ _ _).2.2.1, Lib.hid (put_val HP.out HVB.out HB.out HTM.out.2.1 HK.out HTM.out.2.2.2 HE.out HLV.out _ _ _).2.2.2.1, Lib.hid (put_val HP.out HVB.out HB.out HTM.out.2.1 HK.out HTM.out.2.2.2 HE.out HLV.out _ _ _).2.2.2.2, Lib.hid (Nat.zero_le _), Lib.hid (HRL.out _), Lib.hid badX_no⟩
    ·have e2 : (kd == 2) = false := by rw [beq_eq_false_iff_ne]; exact hk2
     by_cases hk3 : kd = 3 ∧ mn = false
     ·obtain ⟨rfl, rfl⟩ := hk3
      clear hk2 e2
      have hw1 : tx.length ≤ 1000000 := by have := HTK.out.1.1.1; rw [HTX.out] at this; exact this
      have hmt := mid_trim (s := tx) (by have := HTK.out.2.1 HKD.out; rw [HTX.out] at this; exact this)
      have HNE5 : Hid (x = none → (hdT q).kind ≠ 5) := Lib.hid (fun _ => by rw [HKD.out]; decide)
      have HRL : Hid (Rl (val1P false) q x ⟨2, 0, Lib.trimB tx 39⟩ (finL (finX x ⟨2, 0, Lib.trimB tx 39⟩ q) q) (finX x ⟨2, 0, Lib.trimB tx 39⟩ q)) := Lib.hid (val_rl (fun _ => by rw [val_txt3 HKD.out, HTX.out, hmt.1]))
      have HWL : Hid ((Lib.trimB tx 39).length ≤ 1000000) := Lib.hid (Nat.le_trans hmt.2 hw1)
      have HAT := Lib.hid (trim_env tx hw1 y)
      clear hw1 hmt
      obtain ⟨u, hu⟩ : ∃ u, Lib.trimB tx 39 = u := ⟨_, rfl⟩
      rw [hu] at HRL HWL HAT
      clear hu
      go_wp2_with fail
      refine HAT.out.mono ?_
      rintro ev w3 ⟨rfl, hk⟩
      clear t0 t1 lt HTB HAT
      clear v0 v1 v2 g0 g1 g2 lv
      have HP' := Lib.hid (HP.out.keep hk)
      have HB' := Lib.hid (HB.out.keep hk (by simp))
      have HVB' := Lib.hid (HVB.out.keep hk (by simp))
      have HK' := Lib.hid (HK.out.trans hk.of_nil)
      have HE' := Lib.hid (HE.out.quiet hk)
      clear HP HB HVB HK HE hk
      have HP := HP'
      have HB := HB'
      have HVB := HVB'
      have HK := HK'
      have HE := HE'
      clear HP' HB' HVB' HK' HE'
      have v0 : w3.cell? ⟨T + 1, 0, none⟩ = some (.int .i64 (0)) := HVB.out.cell 0
      have v1 : w3.cell? ⟨T + 1, 1, none⟩ = some (.int .i64 (0)) := HVB.out.cell 1
      have v2 : w3.cell? ⟨T + 1, 2, none⟩ = some (.string (⟨#[]⟩)) := HVB.out.cell 2
      have g0 := HVB.out.frozen 0
      have g1 := HVB.out.frozen 1
      have g2 := HVB.out.frozen 2
      have lv := HVB.out.lt
      go_wp2
      go_meet
      refine ⟨⟨2, 0, u⟩, x, Lib.hid (put_val HP.out HVB.out HB.out HTM.out.2.1 HK.out HTM.out.2.2.2 HE.out HLV.out _ _ _).1, Lib.hid (put_val HP.out HVB.out HB.out HTM.out.2.1 HK.out HTM.out.2.2.2 HE.out HLV.out _ _ _).2.1, Lib.hid (put_val HP.out HVB.out HB.out HTM.out.2.1 HK.out HTM.out.2.2.2 HE.out HLV.out _ _ _).2.2.1, Lib.hid (put_val HP.out HVB.out HB.out HTM.out.2.1 HK.out HTM.out.2.2.2 HE.out HLV.out _ _ _).2.2.2.1, Lib.hid (put_val HP.out HVB.out HB.out HTM.out.2.1 HK.out HTM.out.2.2.2 HE.out HLV.out _ _ _).2.2.2.2, Lib.hid (HWL.out), HRL, HNE5⟩
     ·have HRL : Hid (∀ v, Rl (val1P mn) q x v (finL (finX (badX x 3 q) v q) q) (finX (badX x 3 q) v q)) := Lib.hid (fun v => badv_rl (fun _ => val_else (by rw [HKD.out]; exact hk2) (by
       rw [HKD.out]
       intro h3
       cases mn with
       | true => rfl
       | false => exact absurd ⟨h3, rfl⟩ hk3)))
      by_cases h3 : kd = 3
      ·have hm : mn = true := by
        cases mn with
        | true => rfl
        | false => exact absurd ⟨h3, rfl⟩ hk3
       subst h3 hm
       clear hk2 hk3 e2
       go_wp2_with fail
       refine (rfails_any 3 (by decide) y HE.out.fine HP.out).mono ?_
       rintro ev w4 ⟨rfl, hp, hk⟩
       clear t0 t1 lt HTB
       clear v0 v1 v2 g0 g1 g2 lv
       have HB' := Lib.hid (far_rd HP.out hk HB.out (by decide))
       have HVB' := Lib.hid (far_rd HP.out hk HVB.out (by decide))
       have HK' := Lib.hid (HK.out.trans hk)
       have HE' := Lib.hid (HE.out.one hlo hk)
       have HP' := Lib.hid hp
       clear HP HB HVB HK HE hk hp
       have HP := HP'
       have HB := HB'
       have HVB := HVB'
       have HK := HK'
       have HE := HE'
       clear HP' HB' HVB' HK' HE'
       go_wp2
       go_meet
       exact ⟨zV, badX x 3 q, HP, HVB, HB, HK, HE, Lib.hid (Nat.zero_le _), Lib.hid (HRL.out _), Lib.hid badX_no⟩
      ·have e3 : (kd == 3) = false := by rw [beq_eq_false_iff_ne]; exact h3
       clear hk2 hk3 h3
       go_wp2_with fail
       refine (rfails_any 3 (by decide) y HE.out.fine HP.out).mono ?_
       rintro ev w4 ⟨rfl, hp, hk⟩
       clear t0 t1 lt HTB
       clear v0 v1 v2 g0 g1 g2 lv
       have HB' := Lib.hid (far_rd HP.out hk HB.out (by decide))
       have HVB' := Lib.hid (far_rd HP.out hk HVB.out (by decide))
       have HK' := Lib.hid (HK.out.trans hk)
       have HE' := Lib.hid (HE.out.one hlo hk)
       have HP' := Lib.hid hp
       clear HP HB HVB HK HE hk hp
       have HP := HP'
       have HB := HB'
       have HVB := HVB'
       have HK := HK'
       have HE := HE'
       clear HP' HB' HVB' HK' HE'
       go_wp2
       go_meet
       exact ⟨zV, badX x 3 q, HP, HVB, HB, HK, HE, Lib.hid (Nat.zero_le _), Lib.hid (HRL.out _), Lib.hid badX_no⟩
   case rest =>
    obtain ⟨⟨kv, nv, wv⟩, x2, HP, HVB, HB, HK, HE, HW, HRL, HN5⟩ := hcut
    obtain ⟨w5, rfl⟩ : ∃ y : World, y = wc := ⟨_, rfl⟩
    clear t0 t1 lt v0 v1 v2 g0 g1 g2 lv HTB
    have v0 : w5.cell? ⟨T + 1, 0, none⟩ = some (.int .i64 (kv)) := HVB.out.cell 0
    have v1 : w5.cell? ⟨T + 1, 1, none⟩ = some (.int .i64 (nv)) := HVB.out.cell 1
    have v2 : w5.cell? ⟨T + 1, 2, none⟩ = some (.string (bs wv)) := HVB.out.cell 2
    have g0 := HVB.out.frozen 0
    have g1 := HVB.out.frozen 1
    have g2 := HVB.out.frozen 2
    have lv := HVB.out.lt
    obtain ⟨rv, hrv⟩ : ∃ rv, rvB (⟨kv, nv, wv⟩ : Vl) = rv := ⟨_, rfl⟩
    have HRV : Hid (Calls Tryz.prog 149 #[.agg #[.int .i64 kv, .int .i64 nv, .string (bs wv)]] w5 fun e w' => e = .returned (.bool rv) ∧ Keeps [] w5 w') := Lib.hid (by have := rRightValue_any (⟨kv, nv, wv⟩ : Vl) (Nat.le_trans HW.out (by decide)) w5; rw [hrv] at this; exact this)
    have hfx : finX x2 ⟨kv, nv, wv⟩ q = if rv then x2 else badX x2 4 q := by unfold finX; rw [hrv]
    have HFX := Lib.hid hfx
    clear hrv hfx
    cases rv with
    | false =>
     go_wp2_with fail
     refine HRV.out.mono ?_
     rintro ev w6 ⟨rfl, hk⟩
     clear v0 v1 v2 g0 g1 g2 lv
     have HP' := Lib.hid (HP.out.keep hk)
     have HB' := Lib.hid (HB.out.keep hk (by simp))
     have HVB' := Lib.hid (HVB.out.keep hk (by simp))
     have HK' := Lib.hid (HK.out.trans hk.of_nil)
     have HE' := Lib.hid (HE.out.quiet hk)
     clear HP HB HVB HK HE hk
     have HP := HP'
     have HB := HB'
     have HVB := HVB'
     have HK := HK'
     have HE := HE'
     clear HP' HB' HVB' HK' HE'
     go_wp2_with fail
     refine (rfails_any 4 (by decide) w6 HE.out.fine HP.out).mono ?_
     rintro ev w7 ⟨rfl, hp, hk⟩
     have HB' := Lib.hid (far_rd HP.out hk HB.out (by decide))
     have HVB' := Lib.hid (far_rd HP.out hk HVB.out (by decide))
     have HK' := Lib.hid (HK.out.trans hk)
     have HE' := Lib.hid (HE.out.one hlo hk)
     have HP' := Lib.hid hp
     clear HP HB HVB HK HE hk hp
     have HP := HP'
     have HB := HB'
     have HVB := HVB'
     have HK := HK'
     have HE := HE'
     clear HP' HB' HVB' HK' HE'
     obtain ⟨z, hz⟩ := badX_ne x2 4 q
     have hfx : finX x2 ⟨kv, nv, wv⟩ q = some z := by rw [← hz]; simpa using HFX.out
     have HFIN : Hid (Rl argP l x ⟨[], ⟨kv, nv, wv⟩⟩ q (some z)) := Lib.hid (by
      have := HV.out _ _ _ HRL.out
      rw [hfx] at this
      exact this)
     rw [hz] at HP
     clear hz hfx HFX
     have HO := Lib.hid (ok_any w7 HE.out.fine HP.out)
     go_wp2_with fail
     refine HO.out.mono ?_
     rintro ev w8 ⟨hev, hk⟩
     have hev' : ev = .returned (.bool false) := hev
     subst hev'
     clear hev HO
     have HP' := Lib.hid (HP.out.keep hk)
     have HB' := Lib.hid (HB.out.keep hk (by simp))
     have HVB' := Lib.hid (HVB.out.keep hk (by simp))
     have HK' := Lib.hid (HK.out.trans hk.of_nil)
     have HE' := Lib.hid (HE.out.quiet hk)
     clear HP HB HVB HK HE hk
     have HP := HP'
     have HB := HB'
     have HVB := HVB'
     have HK := HK'
     have HE := HE'
     clear HP' HB' HVB' HK' HE'
     have v0 : w8.cell? ⟨T + 1, 0, none⟩ = some (.int .i64 (kv)) := HVB.out.cell 0
     have v1 : w8.cell? ⟨T + 1, 1, none⟩ = some (.int .i64 (nv)) := HVB.out.cell 1
     have v2 : w8.cell? ⟨T + 1, 2, none⟩ = some (.string (bs wv)) := HVB.out.cell 2
     have g0 := HVB.out.frozen 0
     have g1 := HVB.out.frozen 1
     have g2 := HVB.out.frozen 2
     have lv := HVB.out.lt
     have f0 := HB.out.frozen 0
     have f1 := HB.out.frozen 1
     have f2 := HB.out.frozen 2
     have f3 := HB.out.frozen 3
     have r0 : w8.cell? ⟨M, 0, none⟩ = some (.string ⟨#[]⟩) := HB.out.cell 0
     have r1 : w8.cell? ⟨M, 1, none⟩ = some (.int .i64 0) := HB.out.cell 1
     have r2 : w8.cell? ⟨M, 2, none⟩ = some (.int .i64 0) := HB.out.cell 2
     have r3 : w8.cell? ⟨M, 3, none⟩ = some (.string ⟨#[]⟩) := HB.out.cell 3
     have lr := HB.out.lt
     have nvm := HTM.out.2.1
     go_wp2
     have hb7 := ((((HB.out).set 0 (.string ⟨#[]⟩)).set 1 (.int .i64 kv)).set 2 (.int .i64 nv)).set 3 (.string (bs wv))
     have z0 := hb7.cell 0
     have z1 := hb7.cell 1
     have z2 := hb7.cell 2
     have z3 := hb7.cell 3
     refine bodyPost_ret (v := .agg #[.string ⟨#[]⟩, .int .i64 kv, .int .i64 nv, .string (bs wv)]) (by simp [results, Tryz.results109, go_sem, z0, z1, z2, z3]) rfl ?_
     exact ⟨⟨[], ⟨kv, nv, wv⟩⟩, q, some z, rfl, (((HP.out.set HB.out (by decide) (by decide) _).set ((HB.out).set 0 _) (by decide) (by decide) _).set (((HB.out).set 0 _).set 1 _) (by decide) (by decide) _).set ((((HB.out).set 0 _).set 1 _).set 2 _) (by decide) (by decide) _, HFIN.out, HQL.out, (((HK.out.setCell (.inr HMw.out) _).setCell (.inr HMw.out) _).setCell (.inr HMw.out) _).setCell (.inr HMw.out) _⟩
    | true =>
     go_wp2_with fail
     refine HRV.out.mono ?_
     rintro ev w6 ⟨rfl, hk⟩
     clear v0 v1 v2 g0 g1 g2 lv
     have HP' := Lib.hid (HP.out.keep hk)
     have HB' := Lib.hid (HB.out.keep hk (by simp))
     have HVB' := Lib.hid (HVB.out.keep hk (by simp))
     have HK' := Lib.hid (HK.out.trans hk.of_nil)
     have HE' := Lib.hid (HE.out.quiet hk)
     clear HP HB HVB HK HE hk
     have HP := HP'
     have HB := HB'
     have HVB := HVB'
     have HK := HK'
     have HE := HE'
     clear HP' HB' HVB' HK' HE'
     have hfx : finX x2 ⟨kv, nv, wv⟩ q = x2 := by simpa using HFX.out
     have HO := Lib.hid (ok_any w6 HE.out.fine HP.out)
     cases x2 with
     | some z =>
      have HFIN : Hid (Rl argP l x ⟨[], ⟨kv, nv, wv⟩⟩ q (some z)) := Lib.hid (by
       have := HV.out _ _ _ HRL.out
       rw [hfx] at this
       exact this)
      clear hfx HFX
      go_wp2_with fail
      refine HO.out.mono ?_
      rintro ev w8 ⟨hev, hk⟩
      have hev' : ev = .returned (.bool false) := hev
      subst hev'
      clear hev HO
      have HP' := Lib.hid (HP.out.keep hk)
      have HB' := Lib.hid (HB.out.keep hk (by simp))
      have HVB' := Lib.hid (HVB.out.keep hk (by simp))
      have HK' := Lib.hid (HK.out.trans hk.of_nil)
      have HE' := Lib.hid (HE.out.quiet hk)
      clear HP HB HVB HK HE hk
      have HP := HP'
      have HB := HB'
      have HVB := HVB'
      have HK := HK'
      have HE := HE'
      clear HP' HB' HVB' HK' HE'
      have v0 : w8.cell? ⟨T + 1, 0, none⟩ = some (.int .i64 (kv)) := HVB.out.cell 0
      have v1 : w8.cell? ⟨T + 1, 1, none⟩ = some (.int .i64 (nv)) := HVB.out.cell 1
      have v2 : w8.cell? ⟨T + 1, 2, none⟩ = some (.string (bs wv)) := HVB.out.cell 2
      have g0 := HVB.out.frozen 0
      have g1 := HVB.out.frozen 1
      have g2 := HVB.out.frozen 2
      have lv := HVB.out.lt
      have f0 := HB.out.frozen 0
      have f1 := HB.out.frozen 1
      have f2 := HB.out.frozen 2
      have f3 := HB.out.frozen 3
      have r0 : w8.cell? ⟨M, 0, none⟩ = some (.string ⟨#[]⟩) := HB.out.cell 0
      have r1 : w8.cell? ⟨M, 1, none⟩ = some (.int .i64 0) := HB.out.cell 1
      have r2 : w8.cell? ⟨M, 2, none⟩ = some (.int .i64 0) := HB.out.cell 2
      have r3 : w8.cell? ⟨M, 3, none⟩ = some (.string ⟨#[]⟩) := HB.out.cell 3
      have lr := HB.out.lt
      have nvm := HTM.out.2.1
      go_wp2
      have hb7 := ((((HB.out).set 0 (.string ⟨#[]⟩)).set 1 (.int .i64 kv)).set 2 (.int .i64 nv)).set 3 (.string (bs wv))
      have z0 := hb7.cell 0
      have z1 := hb7.cell 1
      have z2 := hb7.cell 2
      have z3 := hb7.cell 3
      refine bodyPost_ret (v := .agg #[.string ⟨#[]⟩, .int .i64 kv, .int .i64 nv, .string (bs wv)]) (by simp [results, Tryz.results109, go_sem, z0, z1, z2, z3]) rfl ?_
      exact ⟨⟨[], ⟨kv, nv, wv⟩⟩, q, some z, rfl, (((HP.out.set HB.out (by decide) (by decide) _).set ((HB.out).set 0 _) (by decide) (by decide) _).set (((HB.out).set 0 _).set 1 _) (by decide) (by decide) _).set ((((HB.out).set 0 _).set 1 _).set 2 _) (by decide) (by decide) _, HFIN.out, HQL.out, (((HK.out.setCell (.inr HMw.out) _).setCell (.inr HMw.out) _).setCell (.inr HMw.out) _).setCell (.inr HMw.out) _⟩
     | none =>
      have HFIN : Hid (Rl argP l x ⟨[], ⟨kv, nv, wv⟩⟩ q.tail none) := Lib.hid (by
       have := HV.out _ _ _ HRL.out
       rw [hfx] at this
       exact this)
      clear hfx HFX
      have HQ5 := Lib.hid (HN5.out rfl)
      go_wp2_with fail
      refine HO.out.mono ?_
      rintro ev w8 ⟨hev, hk⟩
      have hev' : ev = .returned (.bool true) := hev
      subst hev'
      clear hev HO
      have HP' := Lib.hid (HP.out.keep hk)
      have HB' := Lib.hid (HB.out.keep hk (by simp))
      have HVB' := Lib.hid (HVB.out.keep hk (by simp))
      have HK' := Lib.hid (HK.out.trans hk.of_nil)
      have HE' := Lib.hid (HE.out.quiet hk)
      clear HP HB HVB HK HE hk
      have HP := HP'
      have HB := HB'
      have HVB := HVB'
      have HK := HK'
      have HE := HE'
      clear HP' HB' HVB' HK' HE'
      have v0 : w8.cell? ⟨T + 1, 0, none⟩ = some (.int .i64 (kv)) := HVB.out.cell 0
      have v1 : w8.cell? ⟨T + 1, 1, none⟩ = some (.int .i64 (nv)) := HVB.out.cell 1
      have v2 : w8.cell? ⟨T + 1, 2, none⟩ = some (.string (bs wv)) := HVB.out.cell 2
      have g0 := HVB.out.frozen 0
      have g1 := HVB.out.frozen 1
      have g2 := HVB.out.frozen 2
      have lv := HVB.out.lt
      have f0 := HB.out.frozen 0
      have f1 := HB.out.frozen 1
      have f2 := HB.out.frozen 2
      have f3 := HB.out.frozen 3
      have r0 : w8.cell? ⟨M, 0, none⟩ = some (.string ⟨#[]⟩) := HB.out.cell 0
      have r1 : w8.cell? ⟨M, 1, none⟩ = some (.int .i64 0) := HB.out.cell 1
      have r2 : w8.cell? ⟨M, 2, none⟩ = some (.int .i64 0) := HB.out.cell 2
      have r3 : w8.cell? ⟨M, 3, none⟩ = some (.string ⟨#[]⟩) := HB.out.cell 3
      have lr := HB.out.lt
      have nvm := HTM.out.2.1
      obtain ⟨g, o, c, c0, c1, c2, ⟨z0, -⟩, lb, lg, -, hn, hc, hc2, -⟩ := HP.out.open'
      have hmore : 1 < q.length := by have := (HP.out.endT.tail HQ5.out).pos; rw [List.length_tail] at this; omega
      have h3 : (1 : Int) ≤ (q.length : Int) := by omega
      have h4 : (1 : Int) < (c : Int) := by omega
      have HST := Lib.hid (fun n a d => @RdIs.step w8 b q none g o c HP.out c0 HQ5.out n a d)
      have nmb := HMb.out
      have nvb := HTM.out.2.2.1
      have HLQ : Hid (q.tail.length ≤ l.length) := Lib.hid (by have := HQL.out; rw [List.length_tail]; omega)
      go_wp2
      have hst := HST.out (q.length - 1) ⟨g, o + 3, none⟩ (c - 1) rfl rfl rfl
      have hB6 := HB.out.far (p := ⟨b, 0, none⟩) HMb.out (.slice (some ⟨g, o + 3, none⟩) (q.length - 1) (c - 1))
      have hb7 := ((((hB6).set 0 (.string ⟨#[]⟩)).set 1 (.int .i64 kv)).set 2 (.int .i64 nv)).set 3 (.string (bs wv))
      have z0 := hb7.cell 0
      have z1 := hb7.cell 1
      have z2 := hb7.cell 2
      have z3 := hb7.cell 3
      refine bodyPost_ret (v := .agg #[.string ⟨#[]⟩, .int .i64 kv, .int .i64 nv, .string (bs wv)]) (by simp [results, Tryz.results109, go_sem, z0, z1, z2, z3]) rfl ?_
      exact ⟨⟨[], ⟨kv, nv, wv⟩⟩, q.tail, none, rfl, (((hst.1.set hB6 (by decide) (by decide) _).set ((hB6).set 0 _) (by decide) (by decide) _).set (((hB6).set 0 _).set 1 _) (by decide) (by decide) _).set ((((hB6).set 0 _).set 1 _).set 2 _) (by decide) (by decide) _, HFIN.out, HLQ.out, ((((HK.out.trans hst.2).setCell (.inr HMw.out) _).setCell (.inr HMw.out) _).setCell (.inr HMw.out) _).setCell (.inr HMw.out) _⟩
end Go.Proofs.YtnjjajanfedjiaaGreatDoor
namespace Go.Proofs.YtnjjajanfedjiaaGreatDoor
open Go.RowKit Go.BigFrame
attribute [local go_sem] bs_size bs_extract bs_append bs_toList
theorem Rl.must {α : Type} {s : Bs} {S : List Tk → Except (Int × Int) (α × List Tk)} {l l1 l2 : List Tk} {x x1 x2 : Option (Int × Int)} {c : α} (h : Rl (mustU s) l x () l1 x1) (k : Rl S l1 x1 c l2 x2) : Rl (fun r => mustP s r >>= S) l x c l2 x2 := by
 have e : (fun r => mustP s r >>= S) = fun r => mustU s r >>= fun p => (fun (_ : Unit) r => S r) p.1 p.2 := by
  funext r
  unfold mustU
  rcases mustP s r with z | q <;> rfl
 rw [e]
 exact Rl.bind (Q := fun _ r => S r) h k
theorem Rl.congr {α : Type} {P S : List Tk → Except (Int × Int) (α × List Tk)} {l l' : List Tk} {x x' : Option (Int × Int)} {a : α} (h : P l = S l) (k : Rl S l x a l' x') : Rl P l x a l' x' := by
 cases x' with
 | none => exact ⟨k.1, h.trans k.2⟩
 | some y =>
  cases x with
  | none =>
   have : S l = .error y := k
   exact h.trans this
  | some z => exact k
theorem must_seen {s : Bs} {l l1 : List Tk} {x1 : Option (Int × Int)} (h : Rl (mustU s) l none () l1 x1) (hs : seeP s l = true) : l1 = l.tail ∧ x1 = none := by
 have e : mustU s l = .ok ((), l.tail) := by
  unfold mustU mustP
  rw [if_pos hs]
  rfl
 cases x1 with
 | none =>
  have h2 := h.2
  rw [e] at h2
  injection h2 with h2
  injection h2 with _ h2
  exact ⟨h2.symm, rfl⟩
 | some y =>
  have h2 : mustU s l = .error y := h
  rw [e] at h2
  cases h2
theorem one_mem {ws : List Bs} {l l' : List Tk} {s : Bs} {x : Option (Int × Int)} (h : Rl (oneP ws) l x s l' none) : s ∈ ws := by
 obtain ⟨_, hi, _, e, _⟩ := oneP_ok h.2
 have h2 := h.2
 unfold oneP at h2
 split at h2
 ·cases h2
 ·rename_i k hk
  injection h2 with h2
  injection h2 with h2 _
  rw [← h2]
  have : k < ws.length := by
   have key : ∀ (ws : List Bs) (k : Nat), seenI l ws = some k → k < ws.length := by
    intro ws
    induction ws with
    | nil => intro k h; cases h
    | cons a ws ih =>
     intro k h
     unfold seenI at h
     split at h
     ·injection h with h; subst h; simp
     ·cases hs : seenI l ws with
      | none => rw [hs] at h; cases h
      | some j =>
       rw [hs] at h
       injection h with h
       subst h
       have := ih j hs
       simp
       omega
   exact key ws k hk
  rw [List.getD_eq_getElem?_getD, List.getElem?_eq_getElem this]
  exact List.getElem_mem this
theorem cols_stage {β : Type} (n : Nat) (r : List Tk) (acc : List Cl) (F : List Cl × List Tk → Except (Int × Int) (β × List Tk)) : (colsGo (n + 1) r acc >>= F) = (nameP r >>= fun p => oneP [[105, 110, 116], [116, 101, 120, 116]] p.2 >>= fun k => (if seeP [44] k.2 then colsGo n k.2.tail (acc ++ [⟨p.1, if k.1 = [116, 101, 120, 116] then 2 else 1⟩]) else .ok (acc ++ [⟨p.1, if k.1 = [116, 101, 120, 116] then 2 else 1⟩], k.2)) >>= F) := by
 rw [colsGo_succ]
 rcases nameP r with x | ⟨s, r⟩
 ·rfl
 ·rw [ok_bind, ok_bind]
  simp only
  rcases oneP [[105, 110, 116], [116, 101, 120, 116]] r with x | ⟨k, r2⟩
  ·rfl
  ·rfl
def inS4 (at_ : Int) (nm : Bs) (cs : List Cl) : List Tk → Except (Int × Int) (In × List Tk) := fun r => mustP [59] r >>= fun r => .ok (⟨at_, nm, cs⟩, r)
def inS3 (at_ : Int) (nm : Bs) : List Tk → Except (Int × Int) (In × List Tk) := fun r => colsGo r.length r [] >>= fun p => inS4 at_ nm p.1 p.2
def inS2 (at_ : Int) (nm : Bs) : List Tk → Except (Int × Int) (In × List Tk) := fun r => mustP [58] r >>= inS3 at_ nm
def inS1 (at_ : Int) : List Tk → Except (Int × Int) (In × List Tk) := fun r => nameP r >>= fun p => inS2 at_ p.1 p.2
def inT2 (at_ : Int) (nm : Bs) (n : Nat) (acc : List Cl) (s k : Bs) : List Tk → Except (Int × Int) (In × List Tk) := fun r => (if seeP [44] r then colsGo n r.tail (acc ++ [⟨s, if k = [116, 101, 120, 116] then 2 else 1⟩]) else .ok (acc ++ [⟨s, if k = [116, 101, 120, 116] then 2 else 1⟩], r)) >>= fun p => inS4 at_ nm p.1 p.2
def inT1 (at_ : Int) (nm : Bs) (n : Nat) (acc : List Cl) (s : Bs) : List Tk → Except (Int × Int) (In × List Tk) := fun r => oneP [[105, 110, 116], [116, 101, 120, 116]] r >>= fun k => inT2 at_ nm n acc s k.1 k.2
def kdI (k : Bs) : Int := if k = [105, 110, 116] then 1 else 2
set_option maxRecDepth 100000 in
set_option maxHeartbeats 8000000 in
theorem rinput_any {l : List Tk} {b lo : Nat} {x : Option (Int × Int)} (w : World) (hE : RB w lo) (hlo : lo ≤ b) (h : RdIs w b l x) (hll : l.length ≤ 1000000) :
  Calls Tryz.prog 29 #[.pointer (some ⟨b, 0, none⟩)] w fun e w' => ∃ i v l' x', e = .returned (.agg #[.int .i64 i.at_, .string (bs i.name), v]) ∧ w'.ownsRow w.heap.size 61 2 v i.cols.length (csCells i.cols) ∧ RdIs w' b l' x' ∧ Rl inputP l x i l' x' ∧ l'.length ≤ l.length ∧ (x = none → seeP [105, 110] l = true → l'.length < l.length) ∧ Keeps [b] w w' := by
 obtain ⟨i0, hi, hz0, hz1, hz2⟩ := info_parts cinf
 have HLL := Lib.hid hll
 obtain ⟨at_, hat⟩ : ∃ at_, (hdT l).at_ = at_ := ⟨_, rfl⟩
 have HIM : Hid (∀ i l' x', Rl (fun r => mustP [105, 110] r >>= inS1 at_) l x i l' x' → Rl inputP l x i l' x') := Lib.hid (fun i l' x' hq => Rl.congr (by rw [← hat]; rfl) hq)
 have HLQ := Lib.hid (Nat.le_refl l.length)
 obtain ⟨g, o, c, c0, c1, c2, -, lb, lg, -, hn, hc, hc2, k0, k1, k2, -⟩ := h.open'
 rw [hat] at k2
 have hn2 : (0 : Int) < (l.length : Int) := by omega
 have HW := Lib.hid (fsz w (.cells #[.int .i64 0, .string ⟨#[]⟩, .slice none 0 0] 63))
 have HRB := Lib.hid ((Blk.new w 63 #[.int .i64 0, .string ⟨#[]⟩, .slice none 0 0]).alloc (.cells #[.int .i64 at_, .string ⟨#[]⟩, .slice none 0 0] 63))
 have hxb := Blk.new (w.alloc (.cells #[.int .i64 0, .string ⟨#[]⟩, .slice none 0 0] 63)) 63 #[.int .i64 at_, .string ⟨#[]⟩, .slice none 0 0]
 rw [fsz] at hxb
 have HXB := Lib.hid hxb
 have hk0 := ((Keeps.refl [] w).alloc (.cells #[.int .i64 0, .string ⟨#[]⟩, .slice none 0 0] 63)).alloc (.cells #[.int .i64 at_, .string ⟨#[]⟩, .slice none 0 0] 63)
 have HK := Lib.hid (Keeps.of_nil (L := [b]) hk0)
 have HXG : Hid (w.heap.size ≤ w.heap.size + 1) := Lib.hid (by omega)
 have HP := Lib.hid (h.keep hk0)
 have HE := Lib.hid (hE.quiet hk0)
 have HE0 := Lib.hid hE
 have HBW : Hid (b < w.heap.size) := Lib.hid lb
 clear h hat hxb hll hE hk0
 go_enter Tryz.func29, Tryz.ntmps29
 go_upto_region 2 with (fail)
 obtain ⟨w0, hw0⟩ : ∃ x, (w.alloc (.cells #[.int .i64 0, .string ⟨#[]⟩, .slice none 0 0] 63)).alloc (.cells #[.int .i64 at_, .string ⟨#[]⟩, .slice none 0 0] 63) = x := ⟨_, rfl⟩
 rw [hw0] at HRB HXB HK HP HE ⊢
 clear hw0 HW c0 c1 c2 lb lg hn hc hc2 k0 k1 k2 hn2
 obtain ⟨xb, hx⟩ : ∃ xb, w.heap.size + 1 = xb := ⟨_, rfl⟩
 rw [hx] at HXB HXG ⊢
 obtain ⟨rb, hr⟩ : ∃ rb, w.heap.size = rb := ⟨_, rfl⟩
 rw [hr] at HRB ⊢
 have HRX : Hid (rb ≠ xb ∧ w.heap.size ≤ rb) := Lib.hid (by omega)
 clear hx hr
 have HC := Lib.hid (rmust_any [105, 110] w0 HE.out.fine (HE.out.fne hlo) HP.out)
 go_wp2_with fail
 refine HC.out.mono ?_
 rintro ev y1 ⟨rfl, ⟨q1, x1, hp, hr, hll'⟩, hk⟩
 have HST : Hid (x = none → seeP [105, 110] l = true → q1.length < l.length) := Lib.hid (fun e hs => by
  subst e
  rw [(must_seen hr hs).1, List.length_tail]
  have := HP.out.endT.pos
  omega)
 have HIM' : Hid (∀ i l' x', Rl (inS1 at_) q1 x1 i l' x' → Rl inputP l x i l' x') := Lib.hid (fun i l' x' hq => HIM.out i l' x' (Rl.must hr hq))
 clear HIM hr
 have HIM := HIM'
 clear HIM'
 have HXB' := Lib.hid (far_rd HP.out hk HXB.out (by decide))
 have HRB' := Lib.hid (far_rd HP.out hk HRB.out (by decide))
 have HK' := Lib.hid (HK.out.trans hk)
 have HE' := Lib.hid (HE.out.one hlo hk)
 have HP' := Lib.hid hp
 clear HXB HRB HK HE HP hk hp HC
 have HXB := HXB'
 have HRB := HRB'
 have HK := HK'
 have HE := HE'
 have HP := HP'
 clear HXB' HRB' HK' HE' HP'
 have HLR := Lib.hid (Nat.le_trans hll' HLQ.out)
 clear hll' HLQ
 have HLQ := HLR
 clear HLR
 have HLQ1 := HLQ
 clear HLQ
 have HLQ : Hid (q1.length ≤ q1.length) := Lib.hid (Nat.le_refl _)
 have HC := Lib.hid (rname_any y1 HE.out.fine (HE.out.fne hlo) HP.out)
 go_wp2_with fail
 refine HC.out.mono ?_
 rintro ev y2 ⟨a2, q2, x2, rfl, hp, hr, hs, hll', hk⟩
 clear hs
 have HIM' : Hid (∀ i l' x', Rl (inS2 at_ a2) q2 x2 i l' x' → Rl inputP l x i l' x') := Lib.hid (fun i l' x' hq => HIM.out i l' x' (Rl.bind (Q := fun a => inS2 at_ a) hr hq))
 clear HIM hr
 have HIM := HIM'
 clear HIM'
 have HXB' := Lib.hid (far_rd HP.out hk HXB.out (by decide))
 have HRB' := Lib.hid (far_rd HP.out hk HRB.out (by decide))
 have HK' := Lib.hid (HK.out.trans hk)
 have HE' := Lib.hid (HE.out.one hlo hk)
 have HP' := Lib.hid hp
 clear HXB HRB HK HE HP hk hp HC
 have HXB := HXB'
 have HRB := HRB'
 have HK := HK'
 have HE := HE'
 have HP := HP'
 clear HXB' HRB' HK' HE' HP'
 have HLR := Lib.hid (Nat.le_trans hll' HLQ.out)
 clear hll' HLQ
 have HLQ := HLR
 clear HLR
 have e0 : y2.cell? ⟨xb, 1, none⟩ = some (.string ⟨#[]⟩) := HXB.out.cell 1
 have e1 := HXB.out.frozen 1
 have e2 := HXB.out.lt
 go_upto_region 4 with (fail)
 have HP' := Lib.hid (HP.out.set (i := 1) HXB.out (by decide) (by decide) (.string (bs a2)))
 have HRB' := Lib.hid (HRB.out.far (p := ⟨xb, 1, none⟩) HRX.out.1 (.string (bs a2)))
 have HXB' := Lib.hid ((HXB.out.set 1 (.string (bs a2))).congr (cs' := #[.int .i64 at_, .string (bs a2), .slice none 0 0]) rfl)
 have HK' := Lib.hid (HK.out.setCell (p := ⟨xb, 1, none⟩) (.inr HXG.out) (.string (bs a2)))
 have HE' := Lib.hid (HE.out.go (L := [xb]) ((Keeps.refl [xb] _).setCell (p := ⟨xb, 1, none⟩) (.inl (by simp)) (.string (bs a2))) (fun y hy => by rw [List.mem_singleton.1 hy]; have := HXG.out; have := HBW.out; omega))
 obtain ⟨y3, hy3⟩ : ∃ x, y2.setCell ⟨xb, 1, none⟩ (.string (bs a2)) = x := ⟨_, rfl⟩
 rw [hy3] at HP' HRB' HXB' HK' HE' ⊢
 clear hy3 e0 e1 e2 HP HRB HXB HK HE
 have HP := HP'
 have HRB := HRB'
 have HXB := HXB'
 have HK := HK'
 have HE := HE'
 clear HP' HRB' HXB' HK' HE'
 have HC := Lib.hid (rmust_any [58] y3 HE.out.fine (HE.out.fne hlo) HP.out)
 go_wp2_with fail
 refine HC.out.mono ?_
 rintro ev y4 ⟨rfl, ⟨q4, x4, hp, hr, hll'⟩, hk⟩
 have HIM' : Hid (∀ i l' x', Rl (inS3 at_ a2) q4 x4 i l' x' → Rl inputP l x i l' x') := Lib.hid (fun i l' x' hq => HIM.out i l' x' (Rl.must hr hq))
 clear HIM hr
 have HIM := HIM'
 clear HIM'
 have HXB' := Lib.hid (far_rd HP.out hk HXB.out (by decide))
 have HRB' := Lib.hid (far_rd HP.out hk HRB.out (by decide))
 have HK' := Lib.hid (HK.out.trans hk)
 have HE' := Lib.hid (HE.out.one hlo hk)
 have HP' := Lib.hid hp
 clear HXB HRB HK HE HP hk hp HC
 have HXB := HXB'
 have HRB := HRB'
 have HK := HK'
 have HE := HE'
 have HP := HP'
 clear HXB' HRB' HK' HE' HP'
 have HLR := Lib.hid (Nat.le_trans hll' HLQ.out)
 clear hll' HLQ
 have HLQ := HLR
 clear HLR
 have hqlen := Lib.hid (show q4.length ≤ l.length from Nat.le_trans HLQ.out HLQ1.out)
 go_upto_region 5 with (fail)
 go_cut [4] (fun m wx => ∃ mb, m = .bool mb ∧ Hid (mb = true → x4 = none ∧ q4.length ≤ q4.length ∧ ([] : List Cl).length + q4.length ≤ l.length ∧ ∀ i l' x', Rl (fun r => colsGo q4.length r [] >>= fun p => inS4 at_ a2 p.1 p.2) q4 none i l' x' → Rl inputP l x i l' x') ∧ Hid (mb = false → ∀ i l' x', Rl (inS4 at_ a2 []) q4 x4 i l' x' → Rl inputP l x i l' x') ∧ Hid (RdIs wx b q4 x4) ∧ Hid (Blk wx xb 63 #[.int .i64 at_, .string (bs a2), .slice none 0 0]) ∧ Hid (Blk wx rb 63 #[.int .i64 0, .string ⟨#[]⟩, .slice none 0 0]) ∧ Hid (Keeps [b] w wx) ∧ Hid (RB wx lo))
 case first =>
  cases x4 with
  | some y =>
   have HD : Hid (∀ i l', Rl inputP l x i l' (some y)) := Lib.hid (fun i l' => HIM.out i l' _ rfl)
   clear HIM
   have HC := Lib.hid (ok_any y4 HE.out.fine HP.out)
   go_wp2_with fail
   refine HC.out.mono ?_
   rintro ev y5 ⟨hev, hk⟩
   have hev' : ev = .returned (.bool false) := hev
   subst hev'
   clear hev
   have HXB' := Lib.hid (HXB.out.keep hk (by simp))
   have HRB' := Lib.hid (HRB.out.keep hk (by simp))
   have HK' := Lib.hid (HK.out.trans hk.of_nil)
   have HE' := Lib.hid (HE.out.quiet hk)
   have HP' := Lib.hid (HP.out.keep hk)
   clear HXB HRB HK HE HP hk HC
   have HXB := HXB'
   have HRB := HRB'
   have HK := HK'
   have HE := HE'
   have HP := HP'
   clear HXB' HRB' HK' HE' HP'
   go_wp2
   go_meet
   exact ⟨false, rfl, Lib.hid (fun h => by cases h), Lib.hid (fun _ i l' x' hq => by have := Rl.dead hq; subst this; exact HD.out i l'), HP, HXB, HRB, HK, HE⟩
  | none =>
   have HC := Lib.hid (ok_any y4 HE.out.fine HP.out)
   go_wp2_with fail
   refine HC.out.mono ?_
   rintro ev y5 ⟨hev, hk⟩
   have hev' : ev = .returned (.bool true) := hev
   subst hev'
   clear hev
   have HXB' := Lib.hid (HXB.out.keep hk (by simp))
   have HRB' := Lib.hid (HRB.out.keep hk (by simp))
   have HK' := Lib.hid (HK.out.trans hk.of_nil)
   have HE' := Lib.hid (HE.out.quiet hk)
   have HP' := Lib.hid (HP.out.keep hk)
   clear HXB HRB HK HE HP hk HC
   have HXB := HXB'
   have HRB := HRB'
   have HK := HK'
   have HE := HE'
   have HP := HP'
   clear HXB' HRB' HK' HE' HP'
   go_wp2
   go_meet
   exact ⟨true, rfl, Lib.hid (fun _ => ⟨by trivial, Nat.le_refl _, by simpa using hqlen.out, fun i l' x' hq => HIM.out i l' x' (Rl.congr rfl hq)⟩), Lib.hid (fun h => by cases h), HP, HXB, HRB, HK, HE⟩
 case rest =>
  obtain ⟨mb0, rfl, HG0, HF0, HP2, HXB2, HRB2, HK2, HE2⟩ := hcut
  obtain ⟨y6, rfl⟩ : ∃ y : World, y = wc := ⟨_, rfl⟩
  clear HP HXB HRB HK HE HIM
  go_wp2_with fail
  go_loopw [4] (fun m wr => ∃ (mb : Bool) (acc : List Cl) (q : List Tk) (x1 : Option (Int × Int)) (n : Nat) (v : Value), m = .bool mb ∧ Hid (mb = true → x1 = none ∧ q.length ≤ n ∧ acc.length + q.length ≤ l.length ∧ ∀ i l' x', Rl (fun r => colsGo n r acc >>= fun p => inS4 at_ a2 p.1 p.2) q none i l' x' → Rl inputP l x i l' x') ∧ Hid (mb = false → ∀ i l' x', Rl (inS4 at_ a2 acc) q x1 i l' x' → Rl inputP l x i l' x') ∧ Hid (q.length ≤ q4.length) ∧ Hid (RdIs wr b q x1) ∧ Hid (Blk wr xb 63 #[.int .i64 at_, .string (bs a2), v]) ∧ Hid (Blk wr rb 63 #[.int .i64 0, .string ⟨#[]⟩, .slice none 0 0]) ∧ Hid (wr.ownsRow w.heap.size 61 2 v acc.length (csCells acc)) ∧ Hid (Keeps [b] w wr) ∧ Hid (RB wr lo)) (fun m wr => 2 * leftT b wr + (match m with | .bool true => 1 | _ => 0))
  case atStart => exact ⟨mb0, [], q4, x4, q4.length, _, rfl, HG0, HF0, Lib.hid (Nat.le_refl _), HP2, HXB2, HRB2, Lib.hid (World.ownsRow_nil _ _ _ _), HK2, HE2⟩
  case round =>
   clear HP2 HXB2 HRB2 HK2 HE2 HG0 HF0 hqlen
   obtain ⟨mb, acc, q, x1, n, v, rfl, HG, HF, HQQ, HP, HXB, HRB, HO, HK, HE⟩ := hrel
   obtain ⟨A, cv, rfl, -⟩ := own_form HO.out
   have HM := Lib.hid HP.out.left
   cases mb with
   | false =>
    have HIM := Lib.hid (HF.out rfl)
    clear HF HG
    have HLQ0 := HLQ
    clear HLQ
    have HLQ : Hid (q.length ≤ q.length) := Lib.hid (Nat.le_refl _)
    have HC := Lib.hid (rmust_any [59] wr HE.out.fine (HE.out.fne hlo) HP.out)
    go_wp2_with fail
    refine HC.out.mono ?_
    rintro ev y11 ⟨rfl, ⟨q11, x11, hp, hr, hll'⟩, hk⟩
    have HIM' : Hid (∀ i l' x', Rl (fun r => .ok (⟨at_, a2, acc⟩, r)) q11 x11 i l' x' → Rl inputP l x i l' x') := Lib.hid (fun i l' x' hq => HIM.out i l' x' (Rl.must hr hq))
    clear HIM hr
    have HIM := HIM'
    clear HIM'
    have HXB' := Lib.hid (far_rd HP.out hk HXB.out (by decide))
    have HRB' := Lib.hid (far_rd HP.out hk HRB.out (by decide))
    have HO' := Lib.hid (own_rd' HO.out HP.out hk (by decide))
    have HK' := Lib.hid (HK.out.trans hk)
    have HE' := Lib.hid (HE.out.one hlo hk)
    have HP' := Lib.hid hp
    clear HXB HRB HO HK HE HP hk hp HC
    have HXB := HXB'
    have HRB := HRB'
    have HO := HO'
    have HK := HK'
    have HE := HE'
    have HP := HP'
    clear HXB' HRB' HO' HK' HE' HP'
    have HLR := Lib.hid (Nat.le_trans hll' HLQ.out)
    clear hll' HLQ
    have HLQ := HLR
    clear HLR
    have HFIN : Hid (Rl inputP l x ⟨at_, a2, acc⟩ q11 x11) := Lib.hid (HIM.out _ _ _ (Rl.stay (fun _ => rfl)))
    have x0 : y11.cell? ⟨xb, 0, none⟩ = some (.int .i64 at_) := HXB.out.cell 0
    have x1' : y11.cell? ⟨xb, 1, none⟩ = some (.string (bs a2)) := HXB.out.cell 1
    have x2' : y11.cell? ⟨xb, 2, none⟩ = some (.slice A acc.length cv) := HXB.out.cell 2
    have lx := HXB.out.lt
    have z0 : y11.cell? ⟨rb, 0, none⟩ = some (.int .i64 0) := HRB.out.cell 0
    have z1 : y11.cell? ⟨rb, 1, none⟩ = some (.string ⟨#[]⟩) := HRB.out.cell 1
    have z2 : y11.cell? ⟨rb, 2, none⟩ = some (.slice none 0 0) := HRB.out.cell 2
    have f0 := HRB.out.frozen 0
    have f1 := HRB.out.frozen 1
    have f2 := HRB.out.frozen 2
    have lr := HRB.out.lt
    go_wp2
    have hb7 := ((HRB.out.set 0 (.int .i64 at_)).set 1 (.string (bs a2))).set 2 (.slice A acc.length cv)
    have t0 := hb7.cell 0
    have t1 := hb7.cell 1
    have t2 := hb7.cell 2
    refine bodyPost_ret (v := .agg #[.int .i64 at_, .string (bs a2), .slice A acc.length cv]) (by simp [results, Tryz.results29, go_sem, t0, t1, t2]) rfl ?_
    have hkk : Keeps [rb] y11 (((y11.setCell ⟨rb, 0, none⟩ (.int .i64 at_)).setCell ⟨rb, 1, none⟩ (.string (bs a2))).setCell ⟨rb, 2, none⟩ (.slice A acc.length cv)) := (((Keeps.refl [rb] y11).setCell (.inl (by simp)) _).setCell (.inl (by simp)) _).setCell (.inl (by simp)) _
    exact ⟨⟨at_, a2, acc⟩, _, q11, x11, rfl, own_keep HO.out hkk (fun g hg hm => by rw [List.mem_singleton.1 hm] at hg; exact (own_ty HO.out rb hg).ne HRB.out.ty (by decide) rfl), HP.out.far hkk (fun x hx => ⟨63, by rw [List.mem_singleton.1 hx]; exact HRB.out.ty, by decide, by decide⟩), HFIN.out, Nat.le_trans (Nat.le_trans HLQ.out HQQ.out) (Nat.le_trans HLQ0.out HLQ1.out), fun e1 e2 => Nat.lt_of_le_of_lt (Nat.le_trans (Nat.le_trans HLQ.out HQQ.out) HLQ0.out) (HST.out e1 e2), ((HK.out.setCell (.inr HRX.out.2) _).setCell (.inr HRX.out.2) _).setCell (.inr HRX.out.2) _⟩
   | true =>
    obtain ⟨rfl, hqn, hac, him⟩ := HG.out rfl
    have HAC := Lib.hid hac
    have hq1 := HP.out.endT.pos
    obtain ⟨n, rfl⟩ : ∃ m, n = m + 1 := ⟨n - 1, by omega⟩
    have HIM : Hid (∀ i l' x', Rl (fun r => nameP r >>= fun p => inT1 at_ a2 n acc p.1 p.2) q none i l' x' → Rl inputP l x i l' x') := Lib.hid (fun i l' x' hq => him i l' x' (Rl.congr (cols_stage n q acc _) hq))
    have HQN : Hid (q.length ≤ n + 1) := Lib.hid hqn
    clear HF HG him hqn hq1 hac HLQ
    have HLQ : Hid (q.length ≤ q.length) := Lib.hid (Nat.le_refl _)
    have HC := Lib.hid (rname_any wr HE.out.fine (HE.out.fne hlo) HP.out)
    go_wp2_with fail
    refine HC.out.mono ?_
    rintro ev y11 ⟨a11, q11, x11, rfl, hp, hr, hs, hll', hk⟩
    clear hs
    have HIM' : Hid (∀ i l' x', Rl (inT1 at_ a2 n acc a11) q11 x11 i l' x' → Rl inputP l x i l' x') := Lib.hid (fun i l' x' hq => HIM.out i l' x' (Rl.bind (Q := fun a => inT1 at_ a2 n acc a) hr hq))
    clear HIM hr
    have HIM := HIM'
    clear HIM'
    have HXB' := Lib.hid (far_rd HP.out hk HXB.out (by decide))
    have HRB' := Lib.hid (far_rd HP.out hk HRB.out (by decide))
    have HO' := Lib.hid (own_rd' HO.out HP.out hk (by decide))
    have HK' := Lib.hid (HK.out.trans hk)
    have HE' := Lib.hid (HE.out.one hlo hk)
    have HP' := Lib.hid hp
    clear HXB HRB HO HK HE HP hk hp HC
    have HXB := HXB'
    have HRB := HRB'
    have HO := HO'
    have HK := HK'
    have HE := HE'
    have HP := HP'
    clear HXB' HRB' HO' HK' HE' HP'
    have HLR := Lib.hid (Nat.le_trans hll' HLQ.out)
    clear hll' HLQ
    have HLQ := HLR
    clear HLR
    have hcb := Blk.new y11 61 #[.string (bs a11), .int .i64 0]
    have hal : Keeps [] y11 (y11.alloc (.cells #[.string (bs a11), .int .i64 0] 61)) := (Keeps.refl _ _).alloc _
    have HP' := Lib.hid (HP.out.keep hal)
    have HXB' := Lib.hid (HXB.out.alloc (.cells #[.string (bs a11), .int .i64 0] 61))
    have HRB' := Lib.hid (HRB.out.alloc (.cells #[.string (bs a11), .int .i64 0] 61))
    have HO' := Lib.hid (HO.out.alloc (.cells #[.string (bs a11), .int .i64 0] 61))
    have HK' := Lib.hid (HK.out.alloc (.cells #[.string (bs a11), .int .i64 0] 61))
    have HE' := Lib.hid (HE.out.quiet hal)
    have HCX : Hid (xb ≠ y11.heap.size ∧ rb ≠ y11.heap.size ∧ w.heap.size ≤ y11.heap.size ∧ lo ≤ y11.heap.size) := Lib.hid ⟨by have := HXB.out.lt; omega, by have := HRB.out.lt; omega, HK.out.size, by have := HP.out.lt; omega⟩
    have HOC : Hid (∀ g, (Value.slice A acc.length cv).ownBlock = some g → g < y11.heap.size) := Lib.hid (fun g hg => (HO.out.lt g hg).2)
    clear hal HP HXB HRB HO HK HE
    go_upto_region 9 with (fail)
    obtain ⟨cb, hcbe⟩ : ∃ cb, y11.heap.size = cb := ⟨_, rfl⟩
    rw [hcbe] at hcb HCX HOC ⊢
    obtain ⟨y13, hy⟩ : ∃ z, y11.alloc (.cells #[.string (bs a11), .int .i64 0] 61) = z := ⟨_, rfl⟩
    rw [hy] at hcb HP' HXB' HRB' HO' HK' HE' ⊢
    have HCB := Lib.hid hcb
    clear hy hcbe hcb
    have HP := HP'
    have HXB := HXB'
    have HRB := HRB'
    have HO := HO'
    have HK := HK'
    have HE := HE'
    clear HP' HXB' HRB' HO' HK' HE'
    have HC := Lib.hid (rmark_any [105, 110, 116, 32, 116, 101, 120, 116] [[105, 110, 116], [116, 101, 120, 116]] (by decide) (by decide) (by decide) (by decide) y13 HE.out.renv (HE.out.fne hlo) (HE.out.mne hlo) HP.out)
    go_wp2_with fail
    refine HC.out.mono ?_
    rintro ev y14 ⟨a14, q14, x14, rfl, hp, hr, hs, hll', hk⟩
    clear hs
    have HKM : Hid (x14 = none → (if a14 = [116, 101, 120, 116] then 2 else 1 : Int) = kdI a14) := Lib.hid (fun e => by
     subst e
     have hm := one_mem hr
     simp only [List.mem_cons, List.not_mem_nil, or_false] at hm
     rcases hm with rfl | rfl <;> rfl)
    have HQS : Hid (x14 = none → q14.length + 1 ≤ q11.length) := Lib.hid (fun e => by
     subst e
     have := oneP_len hr.2
     have := HP.out.endT.pos
     omega)
    have HIM' : Hid (∀ i l' x', Rl (inT2 at_ a2 n acc a11 a14) q14 x14 i l' x' → Rl inputP l x i l' x') := Lib.hid (fun i l' x' hq => HIM.out i l' x' (Rl.bind (Q := fun a => inT2 at_ a2 n acc a11 a) hr hq))
    clear HIM hr
    have HIM := HIM'
    clear HIM'
    have HXB' := Lib.hid (far_rd HP.out hk HXB.out (by decide))
    have HRB' := Lib.hid (far_rd HP.out hk HRB.out (by decide))
    have HO' := Lib.hid (own_rd' HO.out HP.out hk (by decide))
    have HCB' := Lib.hid (far_rd HP.out hk HCB.out (by decide))
    have HK' := Lib.hid (HK.out.trans hk)
    have HE' := Lib.hid (HE.out.one hlo hk)
    have HP' := Lib.hid hp
    clear HXB HRB HO HCB HK HE HP hk hp HC
    have HXB := HXB'
    have HRB := HRB'
    have HO := HO'
    have HCB := HCB'
    have HK := HK'
    have HE := HE'
    have HP := HP'
    clear HXB' HRB' HO' HCB' HK' HE' HP'
    have HLR := Lib.hid (Nat.le_trans hll' HLQ.out)
    clear hll' HLQ
    have HLQ := HLR
    clear HLR
    have HFA : Hid (∀ i l' x', Rl (inS4 at_ a2 (acc ++ [(⟨a11, kdI a14⟩ : Cl)])) q14 x14 i l' x' → (x14 = none → seeP [44] q14 = false) → Rl inputP l x i l' x') := Lib.hid (fun i l' x' hq hs => HIM.out i l' x' (by
     cases x14 with
     | some y => have := Rl.dead hq; subst this; exact rfl
     | none => exact Rl.congr (by unfold inT2; rw [hs rfl, HKM.out rfl]; rfl) hq))
    have HFB : Hid (x14 = none → seeP [44] q14 = true → ∀ i l' x', Rl (fun r => colsGo n r (acc ++ [(⟨a11, kdI a14⟩ : Cl)]) >>= fun p => inS4 at_ a2 p.1 p.2) q14.tail none i l' x' → Rl inputP l x i l' x') := Lib.hid (fun e hs i l' x' hq => HIM.out i l' x' (by
     subst e
     have he : inT2 at_ a2 n acc a11 a14 q14 = (fun r => colsGo n r (acc ++ [(⟨a11, kdI a14⟩ : Cl)]) >>= fun p => inS4 at_ a2 p.1 p.2) q14.tail := by unfold inT2; rw [hs, HKM.out rfl, if_pos rfl]
     cases x' with
     | none => exact ⟨rfl, he.trans hq.2⟩
     | some z => exact he.trans hq))
    clear HIM HKM
    have c1 : y14.cell? ⟨cb, 1, none⟩ = some (.int .i64 0) := HCB.out.cell 1
    have cf := HCB.out.frozen 1
    have cl := HCB.out.lt
    go_upto_if 31 with (fail)
    go_cut [] (fun wx => Hid (RdIs wx b q14 x14) ∧ Hid (Blk wx xb 63 #[.int .i64 at_, .string (bs a2), .slice A acc.length cv]) ∧ Hid (Blk wx rb 63 #[.int .i64 0, .string ⟨#[]⟩, .slice none 0 0]) ∧ Hid (Blk wx cb 61 #[.string (bs a11), .int .i64 (kdI a14)]) ∧ Hid (wx.ownsRow w.heap.size 61 2 (.slice A acc.length cv) acc.length (csCells acc)) ∧ Hid (Keeps [b] w wx) ∧ Hid (RB wx lo))
    case first =>
     have HSET : Hid (∀ i, i = kdI a14 → RdIs (y14.setCell ⟨cb, 1, none⟩ (.int .i64 i)) b q14 x14 ∧ Blk (y14.setCell ⟨cb, 1, none⟩ (.int .i64 i)) xb 63 #[.int .i64 at_, .string (bs a2), .slice A acc.length cv] ∧ Blk (y14.setCell ⟨cb, 1, none⟩ (.int .i64 i)) rb 63 #[.int .i64 0, .string ⟨#[]⟩, .slice none 0 0] ∧ Blk (y14.setCell ⟨cb, 1, none⟩ (.int .i64 i)) cb 61 #[.string (bs a11), .int .i64 (kdI a14)] ∧ (y14.setCell ⟨cb, 1, none⟩ (.int .i64 i)).ownsRow w.heap.size 61 2 (.slice A acc.length cv) acc.length (csCells acc) ∧ Keeps [b] w (y14.setCell ⟨cb, 1, none⟩ (.int .i64 i)) ∧ RB (y14.setCell ⟨cb, 1, none⟩ (.int .i64 i)) lo) := Lib.hid (fun i e => by
      subst e
      have hk1 : Keeps [cb] y14 (y14.setCell ⟨cb, 1, none⟩ (.int .i64 (kdI a14))) := (Keeps.refl _ _).setCell (.inl (by simp)) _
      exact ⟨HP.out.set HCB.out (by decide) (by decide) _, HXB.out.far (p := ⟨cb, 1, none⟩) HCX.out.1 _, HRB.out.far (p := ⟨cb, 1, none⟩) HCX.out.2.1 _, (HCB.out.set 1 (.int .i64 (kdI a14))).congr rfl, own_keep HO.out hk1 (fun g hg hm => by have := HOC.out g hg; simp at hm; omega), HK.out.setCell (.inr HCX.out.2.2.1) _, HE.out.go hk1 (fun y hy => by rw [List.mem_singleton.1 hy]; exact HCX.out.2.2.2)⟩)
     by_cases hki : a14 = [105, 110, 116]
     ·have HZ := Lib.hid (HSET.out 1 (by rw [hki]; rfl))
      have hkt : (bs a14 == ⟨#[105, 110, 116]⟩) = true := by rw [hki]; rfl
      subst hki
      clear HSET hkt
      go_wp2
      go_meet
      exact ⟨Lib.hid HZ.out.1, Lib.hid HZ.out.2.1, Lib.hid HZ.out.2.2.1, Lib.hid HZ.out.2.2.2.1, Lib.hid HZ.out.2.2.2.2.1, Lib.hid HZ.out.2.2.2.2.2.1, Lib.hid HZ.out.2.2.2.2.2.2⟩
     ·have HZ := Lib.hid (HSET.out 2 (by unfold kdI; rw [if_neg hki]))
      have hkt : (a14 == [105, 110, 116]) = false := by rw [beq_eq_false_iff_ne]; exact hki
      clear HSET
      rw [hkt]
      go_wp2
      go_meet
      exact ⟨Lib.hid HZ.out.1, Lib.hid HZ.out.2.1, Lib.hid HZ.out.2.2.1, Lib.hid HZ.out.2.2.2.1, Lib.hid HZ.out.2.2.2.2.1, Lib.hid HZ.out.2.2.2.2.2.1, Lib.hid HZ.out.2.2.2.2.2.2⟩
    case rest =>
     obtain ⟨HP', HXB', HRB', HCB', HO', HK', HE'⟩ := hcut
     obtain ⟨y15, rfl⟩ : ∃ y : World, y = wc := ⟨_, rfl⟩
     clear HP HXB HRB HCB HO HK HE c1 cf cl
     have HP := HP'
     have HXB := HXB'
     have HRB := HRB'
     have HCB := HCB'
     have HO := HO'
     have HK := HK'
     have HE := HE'
     clear HP' HXB' HRB' HCB' HO' HK' HE'
     obtain ⟨kd, hkd⟩ : ∃ kd, kdI a14 = kd := ⟨_, rfl⟩
     rw [hkd] at HCB HFA HFB
     clear hkd
     have hbd := Lib.hid (show acc.length + 1 ≤ maxLen ∧ (acc.length + 1) * 24 ≤ 140737488355328 by have := HLL.out; have := HAC.out; simp only [maxLen]; omega)
     have xf2 := HXB.out.frozen 2
     have x2 : y15.cell? ⟨xb, 2, none⟩ = some (.slice A acc.length cv) := HXB.out.cell 2
     have lx := HXB.out.lt
     have q0 : y15.cell? ⟨cb, 0, none⟩ = some (.string (bs a11)) := HCB.out.cell 0
     have q1 : y15.cell? ⟨cb, 1, none⟩ = some (.int .i64 kd) := HCB.out.cell 1
     have lc := HCB.out.lt
     have HWZ := Lib.hid (show w.heap.size ≤ y15.heap.size + 1 from Nat.le_succ_of_le HK.out.size)
     go_wp2_with (at_builtin; refine wpList_append_lies _ rfl _ _ 59 rfl _ 61 i0 _ 2 24 Tryz.underlying59 hi hz0 hz1 hz2 rfl (by decide) _ acc.length (csCells acc) rfl (HO.out.alloc _) ⟨y15.heap.size, 0, none⟩ 1 1 [.string (bs a11), .int .i64 kd] rfl rfl (World.news_of_block (heap_alloc_new _ _)) (by simp [Value.oneCell']) (by decide) hbd.out.1 hbd.out.2 (by simp; exact HWZ.out) _ rfl ?_)
     intro gw cap2 w8 hown8 hgrow8 hat8 hlt8
     have HP8 := (HP.out.keep ((Keeps.refl _ _).alloc (.cells #[.string (bs a11), .int .i64 kd] 61))).grown hgrow8 (fun x hx => (own_ty HO.out x hx).keep ((Keeps.refl [] _).alloc _) (by simp)) (by decide) (by decide)
     have HXB8 : Blk w8 xb 63 #[.int .i64 at_, .string (bs a2), .slice A acc.length cv] := (hgrow8.block xb ((HXB.out.alloc _).lt) (fun e => (own_ty HO.out xb e.symm).ne HXB.out.ty (by decide) rfl)).trans (HXB.out.alloc _)
     have hRB8 : Blk w8 rb 63 #[.int .i64 0, .string ⟨#[]⟩, .slice none 0 0] := (hgrow8.block rb ((HRB.out.alloc _).lt) (fun e => (own_ty HO.out rb e.symm).ne HRB.out.ty (by decide) rfl)).trans (HRB.out.alloc _)
     have HK8 := (HK.out.alloc (.cells #[.string (bs a11), .int .i64 kd] 61)).grown hgrow8 (fun g hg => .inr (HO.out.lt g hg).1)
     rw [← csCells_one] at hown8
     have xf8 := HXB8.frozen 2
     have x8 : w8.cell? ⟨xb, 2, none⟩ = some (.slice A acc.length cv) := HXB8.cell 2
     have lx8 := HXB8.lt
     obtain ⟨u, hu⟩ : ∃ u, Value.slice (some ⟨gw, 0, none⟩) (acc.length + 1) cap2 = u := ⟨_, rfl⟩
     have HP9 := Lib.hid (HP8.set (i := 2) HXB8 (by decide) (by decide) u)
     have HXB9 := Lib.hid ((HXB8.set 2 u).congr (cs' := #[.int .i64 at_, .string (bs a2), u]) rfl)
     have HO9 : Hid ((w8.setCell ⟨xb, 2, none⟩ u).ownsRow w.heap.size 61 2 u (acc ++ [(⟨a11, kd⟩ : Cl)]).length (csCells (acc ++ [(⟨a11, kd⟩ : Cl)]))) := Lib.hid (by
      rw [List.length_append]
      rw [hu] at hown8
      exact own_keep hown8 (L := [xb]) (Keeps.setCell (Keeps.refl _ _) (.inl (by simp)) _) (fun g hg hm => by
       rw [List.mem_singleton.1 hm] at hg
       exact (own_ty hown8 xb hg).ne HXB8.ty (by decide) rfl))
     have HK9 := Lib.hid (HK8.setCell (p := ⟨xb, 2, none⟩) (.inr HXG.out) u)
     have HRB9 := Lib.hid (hRB8.far (p := ⟨xb, 2, none⟩) HRX.out.1 u)
     have HE9 := Lib.hid (HE0.out.one hlo HK9.out)
     obtain ⟨w9, hw9⟩ : ∃ x, w8.setCell ⟨xb, 2, none⟩ u = x := ⟨_, rfl⟩
     rw [hw9] at HP9 HXB9 HO9 HK9 HRB9 HE9
     have HW9 := Lib.hid hw9
     have HU := Lib.hid hu
     clear hown8 hgrow8 hat8 hlt8 HP8 HK8 q0 q1 lc x2 xf2 lx hu hw9 hRB8
     clear HP HO HCB HXB HRB HK HE
     go_upto_region 7 with (fail)
     rw [HU.out, HW9.out]
     have HT := rtake_any [44] w9 HE9.out.fine HP9.out
     cases hs : (x14.isNone && seeP [44] q14) with
     | false =>
      rw [hs, if_neg (by decide)] at HT
      have HT1 := Lib.hid HT
      have HFC : Hid (∀ i l' x', Rl (inS4 at_ a2 (acc ++ [(⟨a11, kd⟩ : Cl)])) q14 x14 i l' x' → Rl inputP l x i l' x') := Lib.hid (fun i l' x' hq => HFA.out i l' x' hq (fun e => by subst e; exact hs))
      have HQL : Hid (q14.length ≤ q14.length) := Lib.hid (Nat.le_refl _)
      clear HT hs HFA HFB
      go_wp2_with fail
      refine HT1.out.mono ?_
      rintro ev w10 ⟨rfl, hp, hk⟩
      have HPa := Lib.hid hp
      have HXa := Lib.hid (far_rd HP9.out hk HXB9.out (by decide))
      have HRa := Lib.hid (far_rd HP9.out hk HRB9.out (by decide))
      have HOa := Lib.hid (own_rd' HO9.out HP9.out hk (by decide))
      have HKa := Lib.hid (HK9.out.trans hk)
      have HEa := Lib.hid (HE9.out.one hlo hk)
      clear hp hk HT1
      go_wp2
      go_roundw
      case rel => exact ⟨false, acc ++ [⟨a11, kd⟩], q14, x14, 0, u, rfl, Lib.hid (fun h => by cases h), Lib.hid (fun _ => HFC.out), Lib.hid (by have := HLQ.out; have := HQQ.out; have := HQL.out; omega), HPa, HXa, HRa, HOa, HKa, HEa⟩
      case measure => have := HLQ.out; rw [HPa.out.left, HM.out]; simp; omega
     | true =>
      rw [hs, if_pos rfl] at HT
      have HT1 := Lib.hid HT
      have hxn : x14 = none ∧ seeP [44] q14 = true := by
       cases x14 with
       | some y => cases hs
       | none => exact ⟨rfl, hs⟩
      have HFC := Lib.hid (HFB.out hxn.1 hxn.2)
      have hqs := HQS.out hxn.1
      have hq1 : 1 ≤ q14.tail.length := by have := (HP9.out.endT.tail (seeP_kind hxn.2)).pos; exact this
      have HQL : Hid (q14.tail.length + 1 ≤ q14.length) := Lib.hid (by rw [List.length_tail] at *; omega)
      have HXN := Lib.hid hxn.1
      clear HT hs HFA HFB hxn hqs hq1
      go_wp2_with fail
      refine HT1.out.mono ?_
      rintro ev w10 ⟨rfl, hp, hk⟩
      have HPa := Lib.hid hp
      have HXa := Lib.hid (far_rd HP9.out hk HXB9.out (by decide))
      have HRa := Lib.hid (far_rd HP9.out hk HRB9.out (by decide))
      have HOa := Lib.hid (own_rd' HO9.out HP9.out hk (by decide))
      have HKa := Lib.hid (HK9.out.trans hk)
      have HEa := Lib.hid (HE9.out.one hlo hk)
      clear hp hk HT1
      go_wp2
      go_roundw
      case rel => exact ⟨true, acc ++ [⟨a11, kd⟩], q14.tail, x14, n, u, rfl, Lib.hid (fun _ => ⟨HXN.out, by have := HQN.out; have := HLQ.out; have := HQL.out; omega, by have := HAC.out; have := HLQ.out; have := HQL.out; simp; omega, HFC.out⟩), Lib.hid (fun h => by cases h), Lib.hid (by have := HLQ.out; have := HQQ.out; have := HQL.out; omega), HPa, HXa, HRa, HOa, HKa, HEa⟩
      case measure => have := HLQ.out; have := HQL.out; rw [HPa.out.left, HM.out]; simp; omega
end Go.Proofs.YtnjjajanfedjiaaGreatDoor
