/- What the reader leans on, below a block; what lies apart from a reader. The reference's arg. -/
import Derived.Test.YtbhejdljekmohaaGreatDoorFlrM17
import Derived.Test.YtbhejdljekmohaaGreatDoorFlrM9
import Derived.Deep.CutBlock
namespace Go.Proofs.YtbhejdljekmohaaGreatDoor
open Go.RowKit Go.BigFrame
attribute [local go_sem] bs_size bs_extract bs_append bs_toList
/-- The variables are laid, below block lo. -/
def RB (w : World) (lo : Nat) : Prop := ∃ w0, FEnv w0 ∧ REnv w0 ∧ Keeps [] w0 w ∧ w0.heap.size ≤ lo
section
variable {w w' W W' : World} {lo b g i : Nat} {l : List Tk} {x : Option (Int × Int)}
theorem RB.fb (h : RB w lo) : FB w lo := by
  obtain ⟨w0, h1, _, h3, h4⟩ := h
  exact ⟨w0, h1, h3, h4⟩
theorem RB.renv (h : RB w lo) : REnv w := by
  obtain ⟨w0, _, h2, h3, _⟩ := h
  exact h2.quiet h3
theorem RB.fine (h : RB w lo) : FineAt w := h.renv.fine
theorem RB.flt (h : RB w lo) : 0 < lo := by
  obtain ⟨w0, _, h2, _, h4⟩ := h
  have := World.block_lt_of_cell? _ _ h2.fine.1
  have h5 : 0 < w0.heap.size := this
  omega
theorem RB.mlt (h : RB w lo) : 3 < lo := by
  obtain ⟨w0, _, h2, _, h4⟩ := h
  obtain ⟨m, hm⟩ := h2.mlen
  have h5 : 3 < w0.heap.size := World.block_lt_of_cell? _ _ hm
  omega
theorem RB.fne (h : RB w lo) (hb : lo ≤ b) : 0 ≠ b := by have := h.flt; omega
theorem RB.mne (h : RB w lo) (hb : lo ≤ b) : 3 ≠ b := by have := h.mlt; omega
theorem RB.go {L : List Nat} (h : RB w lo) (hk : Keeps L w w') (hL : ∀ y ∈ L, lo ≤ y) : RB w' lo := by
  obtain ⟨w0, h1, h1', h2, h3⟩ := h
  exact ⟨w0, h1, h1', h2.trans' hk (fun x hx hl => by have := hL x hx; omega), h3⟩
theorem RB.quiet (h : RB w lo) (hk : Keeps [] w w') : RB w' lo := h.go hk (fun x hx => by cases hx)
theorem RB.one (h : RB w lo) (hb : lo ≤ b) (hk : Keeps [b] w w') : RB w' lo := h.go hk (fun x hx => by simp at hx; omega)
theorem far_rd (h : RdIs w b l x) (hk : Keeps [b] w w') {t : TypeId} {cs : Array Value} (hg : Blk w g t cs) (ht : t ≠ 58) : Blk w' g t cs :=
  hg.keep hk (fun hm => by
    have : g = b := by simpa using hm
    subst this
    exact hg.ty.ne h.ty ht rfl)
theorem RdIs.set {t : TypeId} {cs : Array Value} (h : RdIs W b l x) (hg : Blk W g t cs) (h1 : t ≠ 58) (h2 : t ≠ 66) (u : Value) : RdIs (W.setCell ⟨g, i, none⟩ u) b l x :=
  h.far (L := [g]) (Keeps.setCell (Keeps.refl _ _) (.inl (by simp)) _) (fun x hx => ⟨t, by rw [List.mem_singleton.1 hx]; exact hg.ty, h1, h2⟩)
theorem Rl.dead {α : Type} {P : List Tk → Except (Int × Int) (α × List Tk)} {y : Int × Int} {a : α} {l' : List Tk} {x' : Option (Int × Int)} (h : Rl P l (some y) a l' x') : x' = some y := by
  cases x' with
  | none => exact absurd h.1 (by simp)
  | some z =>
    have : (Except.error y : Except (Int × Int) (α × List Tk)) = .error z := h
    injection this with e
    rw [e]
theorem Rl.any {α : Type} {P : List Tk → Except (Int × Int) (α × List Tk)} {y : Int × Int} {a : α} {l' : List Tk} (h : Rl P l x a l' (some y)) (c : α) (q : List Tk) : Rl P l x c q (some y) := h
end
end Go.Proofs.YtbhejdljekmohaaGreatDoor
namespace Go.Proofs.YtbhejdljekmohaaGreatDoor
open Go.RowKit Go.BigFrame
attribute [local go_sem] bs_size bs_extract bs_append bs_toList
theorem trim_env (s : Bs) (hs : s.length ≤ 1000000) (w : World) : Calls Tryz.prog 90 #[.string (bs s), .string (bs [39])] w fun e w' => e = .returned (.string (bs (Lib.trimB s 39))) ∧ Keeps [] w w' := by
  refine (Tryz.strings_Trim_one (bs s) 39 (by decide) w (by rw [bs_size]; omega)).mono ?_
  rintro e w' ⟨rfl, hw⟩
  refine ⟨by rw [show (bs s).data.toList = s from by simp [bs]]; rfl, ?_⟩
  rcases hw with rfl | rfl
  · exact Keeps.refl _ _
  · exact (Keeps.refl _ _).drew
theorem finX_some (y : Int × Int) (v : Vl) (q : List Tk) : finX (some y) v q = some y := by
  unfold finX
  split <;> rfl
theorem val_rl {neg : Bool} {q : List Tk} {x : Option (Int × Int)} {v : Vl} (h : x = none → val1P neg q = finP q v) : Rl (val1P neg) q x v (finL (finX x v q) q) (finX x v q) := by
  cases x with
  | none => exact fin_rl (h rfl)
  | some y => exact val_some (finX_some y v q)
theorem badv_rl {neg : Bool} {q : List Tk} {x : Option (Int × Int)} {v : Vl} {e : Int} (h : x = none → val1P neg q = failP e q) : Rl (val1P neg) q x v (finL (finX (badX x e q) v q) q) (finX (badX x e q) v q) := by
  cases x with
  | none => exact bad_rl (h rfl)
  | some y => exact val_some (finX_some y v q)
theorem badX_no {x : Option (Int × Int)} {e : Int} {l : List Tk} {p : Prop} (h : badX x e l = none) : p := by
  obtain ⟨y, hy⟩ := badX_ne x e l
  rw [hy] at h
  cases h
theorem mid_trim {s : Bs} (h : ∃ w : Bs, s = 39 :: (w ++ [39]) ∧ (39 : UInt8) ∉ w) : midB s = Lib.trimB s 39 ∧ (Lib.trimB s 39).length ≤ s.length := by
  obtain ⟨w, rfl, hw⟩ := h
  rw [mid_quoted, trim_quoted hw]
  exact ⟨rfl, by simp; omega⟩
theorem put_val {w w3 : World} {b M V lo : Nat} {q : List Tk} {x2 : Option (Int × Int)} {a0 a1 a2 : Value} {cs : Array Value} (hp : RdIs w3 b q x2) (hv : Blk w3 V 46 #[a0, a1, a2]) (hb : Blk w3 M 48 cs) (hM : M ≠ V) (hk : Keeps [b] w w3) (hV : w.heap.size ≤ V) (he : RB w3 lo) (hlo : lo ≤ V) (k n u : Value) :
    RdIs (((w3.setCell ⟨V, 0, none⟩ k).setCell ⟨V, 1, none⟩ n).setCell ⟨V, 2, none⟩ u) b q x2 ∧ Blk (((w3.setCell ⟨V, 0, none⟩ k).setCell ⟨V, 1, none⟩ n).setCell ⟨V, 2, none⟩ u) V 46 #[k, n, u] ∧ Blk (((w3.setCell ⟨V, 0, none⟩ k).setCell ⟨V, 1, none⟩ n).setCell ⟨V, 2, none⟩ u) M 48 cs ∧ Keeps [b] w (((w3.setCell ⟨V, 0, none⟩ k).setCell ⟨V, 1, none⟩ n).setCell ⟨V, 2, none⟩ u) ∧ RB (((w3.setCell ⟨V, 0, none⟩ k).setCell ⟨V, 1, none⟩ n).setCell ⟨V, 2, none⟩ u) lo :=
  ⟨((hp.set hv (by decide) (by decide) _).set (hv.set 0 _) (by decide) (by decide) _).set ((hv.set 0 _).set 1 _) (by decide) (by decide) _,
   (((hv.set 0 k).set 1 n).set 2 u).congr rfl,
   ((hb.far (p := ⟨V, 0, none⟩) hM k).far (p := ⟨V, 1, none⟩) hM n).far (p := ⟨V, 2, none⟩) hM u,
   ((hk.setCell (.inr hV) _).setCell (.inr hV) _).setCell (.inr hV) _,
   he.go (L := [V]) ((((Keeps.refl _ _).setCell (.inl (by simp)) _).setCell (.inl (by simp)) _).setCell (.inl (by simp)) _) (fun y hy => by rw [List.mem_singleton.1 hy]; exact hlo)⟩
set_option maxRecDepth 100000 in
set_option maxHeartbeats 8000000 in
theorem rarg_any {l : List Tk} {b lo : Nat} {x : Option (Int × Int)} (w : World) (hE : RB w lo) (hlo : lo ≤ b) (h : RdIs w b l x) (hll : l.length ≤ 1000000) :
    Calls Tryz.prog 64 #[.pointer (some ⟨b, 0, none⟩)] w fun e w' => ∃ a l' x', e = .returned (arAgg a) ∧ RdIs w' b l' x' ∧ Rl argP l x a l' x' ∧ l'.length ≤ l.length ∧ Keeps [b] w w' := by
  obtain ⟨M, hM⟩ : ∃ M, w.heap.size = M := ⟨_, rfl⟩
  have hb0 := Blk.new w 48 #[.string ⟨#[]⟩, .int .i64 0, .int .i64 0, .string ⟨#[]⟩]
  have hk0 := (Keeps.refl [] w).alloc (.cells #[.string ⟨#[]⟩, .int .i64 0, .int .i64 0, .string ⟨#[]⟩] 48)
  have hp0 := h.keep hk0
  have he0 := hE.quiet hk0
  have HMb : Hid (M ≠ b) := Lib.hid (by have := h.lt; omega)
  have HMw : Hid (w.heap.size ≤ M) := Lib.hid (by omega)
  rw [hM] at hb0
  clear h hE
  go_enter Tryz.func64, Tryz.ntmps64
  go_upto_region 1 with (fail)
  try rw [hM]
  obtain ⟨y0, hy0⟩ : ∃ y, w.alloc (.cells #[.string ⟨#[]⟩, .int .i64 0, .int .i64 0, .string ⟨#[]⟩] 48) = y := ⟨_, rfl⟩
  rw [hy0] at hb0 hk0 hp0 he0 ⊢
  have HB := Lib.hid hb0
  have HK := Lib.hid (Keeps.of_nil (L := [b]) hk0)
  have HP := Lib.hid hp0
  have HE := Lib.hid he0
  clear hb0 hk0 hp0 he0 hy0 hM
  have HO := Lib.hid (ok_any y0 HE.out.fine HP.out)
  by_cases hA : x = none ∧ (hdT l).kind = 1
  · obtain ⟨rfl, hkd⟩ := hA
    have HKD := Lib.hid hkd
    clear hkd
    go_wp2_with fail
    refine HO.out.mono ?_
    rintro ev w1 ⟨hev, hk⟩
    have hev' : ev = .returned (.bool true) := hev
    subst hev'
    have HK1 := Lib.hid (HK.out.trans hk.of_nil)
    have HP1 := Lib.hid (HP.out.keep hk)
    have HB1 := Lib.hid (HB.out.keep hk (by simp))
    have HE1 := Lib.hid (HE.out.quiet hk)
    obtain ⟨g, o, c, c0, c1, c2, -, lb, lg, -, hn, hc, hc2, k0, k1, k2, -⟩ := HP1.out.open'
    rw [HKD.out] at k0
    have hn2 : (0 : Int) < (l.length : Int) := by omega
    clear hev hk HK HP HB HE HO
    go_wp2_with fail
    refine (rname_any w1 HE1.out.fine (HE1.out.fne hlo) HP1.out).mono ?_
    rintro ev w2 ⟨s, l', x', rfl, hp, hr, hs, hll', hk⟩
    have hb2 := far_rd HP1.out hk HB1.out (by decide)
    have HK2 := Lib.hid (HK1.out.trans hk)
    have HP2 := Lib.hid hp
    have HB2 := Lib.hid hb2
    have HR := Lib.hid (arg_name HKD.out hr)
    have HLL := Lib.hid hll'
    have f0 := hb2.frozen 0
    have f1 := hb2.frozen 1
    have f2 := hb2.frozen 2
    have f3 := hb2.frozen 3
    have r0 : w2.cell? ⟨M, 0, none⟩ = some (.string ⟨#[]⟩) := hb2.cell 0
    have r1 : w2.cell? ⟨M, 1, none⟩ = some (.int .i64 0) := hb2.cell 1
    have r2 : w2.cell? ⟨M, 2, none⟩ = some (.int .i64 0) := hb2.cell 2
    have r3 : w2.cell? ⟨M, 3, none⟩ = some (.string ⟨#[]⟩) := hb2.cell 3
    have lr := hb2.lt
    clear hb2 hp hr hs hll' hk c0 c1 c2 lb lg hn hc hc2 k0 k1 k2 hn2 HK1 HP1 HB1 HE1
    go_wp2
    have hb7 := (((HB2.out.set 0 (.string (bs s))).set 1 (.int .i64 0)).set 2 (.int .i64 0)).set 3 (.string ⟨#[]⟩)
    have y0 := hb7.cell 0
    have y1 := hb7.cell 1
    have y2 := hb7.cell 2
    have y3 := hb7.cell 3
    refine bodyPost_ret (v := .agg #[.string (bs s), .int .i64 0, .int .i64 0, .string ⟨#[]⟩]) (by simp [results, Tryz.results64, go_sem, y0, y1, y2, y3]) rfl ?_
    exact ⟨⟨s, zV⟩, l', x', rfl, (((HP2.out.set HB2.out (by decide) (by decide) _).set (HB2.out.set 0 _) (by decide) (by decide) _).set ((HB2.out.set 0 _).set 1 _) (by decide) (by decide) _).set (((HB2.out.set 0 _).set 1 _).set 2 _) (by decide) (by decide) _, HR.out, HLL.out, (((HK2.out.setCell (.inr HMw.out) _).setCell (.inr HMw.out) _).setCell (.inr HMw.out) _).setCell (.inr HMw.out) _⟩
  · have HA : Hid (x = none → (hdT l).kind ≠ 1) := Lib.hid (fun e h1 => hA ⟨e, h1⟩)
    have HBOX : Hid True := Lib.hid trivial
    go_cut [19] (fun v wx => v = .bool false ∧ Hid (RdIs wx b l x) ∧ Hid (Blk wx M 48 #[.string ⟨#[]⟩, .int .i64 0, .int .i64 0, .string ⟨#[]⟩]) ∧ Hid (Keeps [b] w wx) ∧ Hid (RB wx lo))
    case first =>
      cases x with
      | some y =>
        clear hA
        go_wp2_with fail
        refine HO.out.mono ?_
        rintro ev w1 ⟨hev, hk⟩
        have hev' : ev = .returned (.bool false) := hev
        subst hev'
        have HK1 := Lib.hid (HK.out.trans hk.of_nil)
        have HP1 := Lib.hid (HP.out.keep hk)
        have HB1 := Lib.hid (HB.out.keep hk (by simp))
        have HE1 := Lib.hid (HE.out.quiet hk)
        clear hev hk HK HP HB HE HO
        go_wp2
        go_meet
        exact ⟨rfl, HP1, HB1, HK1, HE1⟩
      | none =>
        have hkb : ((hdT l).kind == 1) = false := by rw [beq_eq_false_iff_ne]; exact HA.out rfl
        clear hA
        go_wp2_with fail
        refine HO.out.mono ?_
        rintro ev w1 ⟨hev, hk⟩
        have hev' : ev = .returned (.bool true) := hev
        subst hev'
        have HK1 := Lib.hid (HK.out.trans hk.of_nil)
        have HP1 := Lib.hid (HP.out.keep hk)
        have HB1 := Lib.hid (HB.out.keep hk (by simp))
        have HE1 := Lib.hid (HE.out.quiet hk)
        obtain ⟨g, o, c, c0, c1, c2, -, lb, lg, -, hn, hc, hc2, k0, k1, k2, -⟩ := HP1.out.open'
        have hn2 : (0 : Int) < (l.length : Int) := by omega
        clear hev hk HK HP HB HE HO
        go_wp2
        go_meet
        exact ⟨rfl, HP1, HB1, HK1, HE1⟩
    case rest =>
      obtain ⟨rfl, HP, HB, HK, HE⟩ := hcut
      obtain ⟨w1, rfl⟩ : ∃ y : World, y = wc := ⟨_, rfl⟩
      clear hA HO
      have hT := rtake_any [45] w1 HE.out.fine HP.out
      have HV : Hid (∀ v l' x', Rl (val1P (x.isNone && seeP [45] l)) (if x.isNone && seeP [45] l then l.tail else l) x v l' x' → Rl argP l x ⟨[], v⟩ l' x') := Lib.hid (fun v l' x' hq => arg_rl HA.out (value_rl hq))
      obtain ⟨mn, hmn⟩ : ∃ mn, (x.isNone && seeP [45] l) = mn := ⟨_, rfl⟩
      rw [hmn] at hT HV
      obtain ⟨q, hq⟩ : ∃ q, (if mn then l.tail else l) = q := ⟨_, rfl⟩
      rw [hq] at hT HV
      have HQL : Hid (q.length ≤ l.length) := Lib.hid (by rw [← hq]; split <;> first | omega | (rw [List.length_tail]; omega))
      have HT := Lib.hid hT
      clear hT hmn hq HA
      go_wp2_with fail
      refine HT.out.mono ?_
      rintro ev w2 ⟨rfl, hp, hk⟩
      have HB2 := Lib.hid (far_rd HP.out hk HB.out (by decide))
      have HK2 := Lib.hid (HK.out.trans hk)
      have HE2 := Lib.hid (HE.out.one hlo hk)
      have HP2 := Lib.hid hp
      clear HP HB HK HE HT hp hk
      obtain ⟨kd, hkd⟩ : ∃ kd, (hdT q).kind = kd := ⟨_, rfl⟩
      obtain ⟨tx, htx⟩ : ∃ tx, (hdT q).text = tx := ⟨_, rfl⟩
      obtain ⟨at_, hat⟩ : ∃ at_, (hdT q).at_ = at_ := ⟨_, rfl⟩
      obtain ⟨g, o, c, c0, c1, c2, -, lb, lg, -, hn, hc, hc2, k0, k1, k2, htk⟩ := HP2.out.open'
      rw [hkd] at k0
      rw [htx] at k1
      rw [hat] at k2
      have hn2 : (0 : Int) < (q.length : Int) := by omega
      have HKD := Lib.hid hkd
      have HTX := Lib.hid htx
      have HTK := Lib.hid htk
      have htb := (Blk.new w2 66 #[.int .i64 kd, .string (bs tx), .int .i64 at_]).alloc (.cells #[.int .i64 0, .int .i64 0, .string ⟨#[]⟩] 46)
      have hvb := Blk.new (w2.alloc (.cells #[.int .i64 kd, .string (bs tx), .int .i64 at_] 66)) 46 #[.int .i64 0, .int .i64 0, .string ⟨#[]⟩]
      rw [fsz] at hvb
      have hal : Keeps [] w2 ((w2.alloc (.cells #[.int .i64 kd, .string (bs tx), .int .i64 at_] 66)).alloc (.cells #[.int .i64 0, .int .i64 0, .string ⟨#[]⟩] 46)) := ((Keeps.refl _ _).alloc _).alloc _
      have HP3' := Lib.hid (HP2.out.keep hal)
      have HB3' := Lib.hid (HB2.out.keep hal (by simp))
      have HK3' := Lib.hid (HK2.out.trans hal.of_nil)
      have HE3' := Lib.hid (HE2.out.quiet hal)
      obtain ⟨T, hT⟩ : ∃ T, w2.heap.size = T := ⟨_, rfl⟩
      have HTM : Hid (M ≠ T ∧ M ≠ T + 1 ∧ b ≠ T + 1 ∧ w.heap.size ≤ T + 1) := Lib.hid (by have := HB2.out.lt; have := HP2.out.lt; have := HK2.out.size; omega)
      have HLV : Hid (lo ≤ T + 1) := Lib.hid (by have := HP2.out.lt; omega)
      go_upto_block 0 with (fail)
      rw [hT] at htb hvb
      try rw [hT]
      obtain ⟨y, hy⟩ : ∃ y, ((w2.alloc (.cells #[.int .i64 kd, .string (bs tx), .int .i64 at_] 66)).alloc (.cells #[.int .i64 0, .int .i64 0, .string ⟨#[]⟩] 46)) = y := ⟨_, rfl⟩
      rw [hy] at htb hvb HP3' HB3' HK3' HE3' ⊢
      have HTB := Lib.hid htb
      have HVB := Lib.hid hvb
      have HP := HP3'
      have HB := HB3'
      have HK := HK3'
      have HE := HE3'
      have t0 : y.cell? ⟨T, 0, none⟩ = some (.int .i64 kd) := htb.cell 0
      have t1 : y.cell? ⟨T, 1, none⟩ = some (.string (bs tx)) := htb.cell 1
      have lt := htb.lt
      have v0 : y.cell? ⟨T + 1, 0, none⟩ = some (.int .i64 0) := hvb.cell 0
      have v1 : y.cell? ⟨T + 1, 1, none⟩ = some (.int .i64 0) := hvb.cell 1
      have v2 : y.cell? ⟨T + 1, 2, none⟩ = some (.string ⟨#[]⟩) := hvb.cell 2
      have g0 := hvb.frozen 0
      have g1 := hvb.frozen 1
      have g2 := hvb.frozen 2
      have lv := hvb.lt
      clear HP3' HB3' HK3' HE3' HP2 HB2 HK2 HE2 hy hT hal htb hvb hkd htx hat htk c0 c1 c2 lb lg hn hc hc2 k0 k1 k2 hn2
      go_cut [] (fun wx => ∃ (v : Vl) (x2 : Option (Int × Int)), Hid (RdIs wx b q x2) ∧ Hid (Blk wx (T + 1) 46 #[.int .i64 v.kind, .int .i64 v.num, .string (bs v.word)]) ∧ Hid (Blk wx M 48 #[.string ⟨#[]⟩, .int .i64 0, .int .i64 0, .string ⟨#[]⟩]) ∧ Hid (Keeps [b] w wx) ∧ Hid (RB wx lo) ∧ Hid (v.word.length ≤ 1000000) ∧ Hid (Rl (val1P mn) q x v (finL (finX x2 v q) q) (finX x2 v q)) ∧ Hid (x2 = none → (hdT q).kind ≠ 5))
      case first =>
        by_cases hk2 : kd = 2
        · subst hk2
          have hw1 : tx.length ≤ 1000000 := by have := HTK.out.1.1.1; rw [HTX.out] at this; exact this
          have hdg : ∀ c ∈ tx, digC c = true := by have := HTK.out.1.1.2.1 HKD.out; rw [HTX.out] at this; exact this
          have HNE5 : Hid (x = none → (hdT q).kind ≠ 5) := Lib.hid (fun _ => by rw [HKD.out]; decide)
          rcases ha : Lib.atoiAll tx with n | _ | _
          · have hpos := atoi_pos ha hdg
            have hp1 := hpos.1
            have hp2 := hpos.2
            have HAT := Lib.hid (fun W hW => atoi_yes ha hw1 W hW)
            have HRL : Hid (Rl (val1P mn) q x ⟨1, if mn then -n else n, []⟩ (finL (finX x ⟨1, if mn then -n else n, []⟩ q) q) (finX x ⟨1, if mn then -n else n, []⟩ q)) := Lib.hid (val_rl (fun _ => val_num HKD.out (by rw [HTX.out]; exact ha)))
            clear ha hpos hdg hw1
            go_wp2_with fail
            refine (HAT.out y HE.out.fb.env).mono ?_
            rintro ev w3 ⟨rfl, hk⟩
            clear t0 t1 lt HTB HAT
            clear v0 v1 v2 g0 g1 g2 lv
            have HP' := Lib.hid (HP.out.keep hk)
            have HB' := Lib.hid (HB.out.keep hk (by simp))
            have HVB' := Lib.hid (HVB.out.keep hk (by simp))
            have HK' := Lib.hid (HK.out.trans hk.of_nil)
            have HE' := Lib.hid (HE.out.quiet hk)
            clear HP HB HVB HK HE hk
            have HP := HP'
            have HB := HB'
            have HVB := HVB'
            have HK := HK'
            have HE := HE'
            clear HP' HB' HVB' HK' HE'
            have v0 : w3.cell? ⟨T + 1, 0, none⟩ = some (.int .i64 (0)) := HVB.out.cell 0
            have v1 : w3.cell? ⟨T + 1, 1, none⟩ = some (.int .i64 (0)) := HVB.out.cell 1
            have v2 : w3.cell? ⟨T + 1, 2, none⟩ = some (.string (⟨#[]⟩)) := HVB.out.cell 2
            have g0 := HVB.out.frozen 0
            have g1 := HVB.out.frozen 1
            have g2 := HVB.out.frozen 2
            have lv := HVB.out.lt
            cases mn with
            | false =>
              go_wp2
              go_meet
              refine ⟨⟨1, n, []⟩, x, Lib.hid (put_val HP.out HVB.out HB.out HTM.out.2.1 HK.out HTM.out.2.2.2 HE.out HLV.out _ _ _).1, Lib.hid (put_val HP.out HVB.out HB.out HTM.out.2.1 HK.out HTM.out.2.2.2 HE.out HLV.out _ _ _).2.1, Lib.hid (put_val HP.out HVB.out HB.out HTM.out.2.1 HK.out HTM.out.2.2.2 HE.out HLV.out _ _ _).2.2.1, Lib.hid (put_val HP.out HVB.out HB.out HTM.out.2.1 HK.out HTM.out.2.2.2 HE.out HLV.out _ _ _).2.2.2.1, Lib.hid (put_val HP.out HVB.out HB.out HTM.out.2.1 HK.out HTM.out.2.2.2 HE.out HLV.out _ _ _).2.2.2.2, Lib.hid (Nat.zero_le _), HRL, HNE5⟩
            | true =>
              go_wp2
              go_meet
              refine ⟨⟨1, -n, []⟩, x, Lib.hid (put_val HP.out HVB.out HB.out HTM.out.2.1 HK.out HTM.out.2.2.2 HE.out HLV.out _ _ _).1, Lib.hid (put_val HP.out HVB.out HB.out HTM.out.2.1 HK.out HTM.out.2.2.2 HE.out HLV.out _ _ _).2.1, Lib.hid (put_val HP.out HVB.out HB.out HTM.out.2.1 HK.out HTM.out.2.2.2 HE.out HLV.out _ _ _).2.2.1, Lib.hid (put_val HP.out HVB.out HB.out HTM.out.2.1 HK.out HTM.out.2.2.2 HE.out HLV.out _ _ _).2.2.2.1, Lib.hid (put_val HP.out HVB.out HB.out HTM.out.2.1 HK.out HTM.out.2.2.2 HE.out HLV.out _ _ _).2.2.2.2, Lib.hid (Nat.zero_le _), HRL, HNE5⟩
          all_goals
            have HAT := Lib.hid (fun W hW => atoi_none (s := tx) (fun n h => by rw [ha] at h; cases h) hw1 W hW)
            have HRL : Hid (∀ v, Rl (val1P mn) q x v (finL (finX (badX x 4 q) v q) q) (finX (badX x 4 q) v q)) := Lib.hid (fun v => badv_rl (fun _ => val_ill HKD.out (by rw [HTX.out, ha]; intro n h; cases h)))
            clear ha hdg hw1
            go_wp2_with fail
            refine (HAT.out y HE.out.fb.env).mono ?_
            rintro ev w3 ⟨⟨n0, et, ep, rfl⟩, hk⟩
            clear t0 t1 lt HTB HAT
            clear v0 v1 v2 g0 g1 g2 lv
            have HP' := Lib.hid (HP.out.keep hk)
            have HB' := Lib.hid (HB.out.keep hk (by simp))
            have HVB' := Lib.hid (HVB.out.keep hk (by simp))
            have HK' := Lib.hid (HK.out.trans hk.of_nil)
            have HE' := Lib.hid (HE.out.quiet hk)
            clear HP HB HVB HK HE hk
            have HP := HP'
            have HB := HB'
            have HVB := HVB'
            have HK := HK'
            have HE := HE'
            clear HP' HB' HVB' HK' HE'
            go_wp2_with fail
            refine (rfails_any 4 (by decide) w3 HE.out.fine HP.out).mono ?_
            rintro ev w4 ⟨rfl, hp, hk⟩
            have HB' := Lib.hid (far_rd HP.out hk HB.out (by decide))
            have HVB' := Lib.hid (far_rd HP.out hk HVB.out (by decide))
            have HK' := Lib.hid (HK.out.trans hk)
            have HE' := Lib.hid (HE.out.one hlo hk)
            have HP' := Lib.hid hp
            clear HP HB HVB HK HE hk hp
            have HP := HP'
            have HB := HB'
            have HVB := HVB'
            have HK := HK'
            have HE := HE'
            clear HP' HB' HVB' HK' HE'
            have v0 : w4.cell? ⟨T + 1, 0, none⟩ = some (.int .i64 (0)) := HVB.out.cell 0
            have v1 : w4.cell? ⟨T + 1, 1, none⟩ = some (.int .i64 (0)) := HVB.out.cell 1
            have v2 : w4.cell? ⟨T + 1, 2, none⟩ = some (.string (⟨#[]⟩)) := HVB.out.cell 2
            have g0 := HVB.out.frozen 0
            have g1 := HVB.out.frozen 1
            have g2 := HVB.out.frozen 2
            have lv := HVB.out.lt
            cases mn with
            | false =>
              go_wp2
              go_meet
              refine ⟨⟨1, _, []⟩, badX x 4 q, Lib.hid (put_val HP.out HVB.out HB.out HTM.out.2.1 HK.out HTM.out.2.2.2 HE.out HLV.out _ _ _).1, Lib.hid (put_val HP.out HVB.out HB.out HTM.out.2.1 HK.out HTM.out.2.2.2 HE.out HLV.out _ _ _).2.1, Lib.hid (put_val HP.out HVB.out HB.out HTM.out.2.1 HK.out HTM.out.2.2.2 HE.out HLV.out _ _ _).2.2.1, Lib.hid (put_val HP.out HVB.out HB.out HTM.out.2.1 HK.out HTM.out.2.2.2 HE.out HLV.out _ _ _).2.2.2.1, Lib.hid (put_val HP.out HVB.out HB.out HTM.out.2.1 HK.out HTM.out.2.2.2 HE.out HLV.out _ _ _).2.2.2.2, Lib.hid (Nat.zero_le _), Lib.hid (HRL.out _), Lib.hid badX_no⟩
            | true =>
              go_wp2
              go_meet
              refine ⟨⟨1, _, []⟩, badX x 4 q, Lib.hid (put_val HP.out HVB.out HB.out HTM.out.2.1 HK.out HTM.out.2.2.2 HE.out HLV.out _ _ _).1, Lib.hid (put_val HP.out HVB.out HB.out HTM.out.2.1 HK.out HTM.out.2.2.2 HE.out HLV.out _ _ _).2.1, Lib.hid (put_val HP.out HVB.out HB.out HTM.out.2.1 HK.out HTM.out.2.2.2 HE.out HLV.out _ _ _).2.2.1, Lib.hid (put_val HP.out HVB.out HB.out HTM.out.2.1 HK.out HTM.out.2.2.2 HE.out HLV.out _ _ _).2.2.2.1, Lib.hid (put_val HP.out HVB.out HB.out HTM.out.2.1 HK.out HTM.out.2.2.2 HE.out HLV.out _ _ _).2.2.2.2, Lib.hid (Nat.zero_le _), Lib.hid (HRL.out _), Lib.hid badX_no⟩
        · have e2 : (kd == 2) = false := by rw [beq_eq_false_iff_ne]; exact hk2
          by_cases hk3 : kd = 3 ∧ mn = false
          · obtain ⟨rfl, rfl⟩ := hk3
            clear hk2 e2
            have hw1 : tx.length ≤ 1000000 := by have := HTK.out.1.1.1; rw [HTX.out] at this; exact this
            have hmt := mid_trim (s := tx) (by have := HTK.out.2.1 HKD.out; rw [HTX.out] at this; exact this)
            have HNE5 : Hid (x = none → (hdT q).kind ≠ 5) := Lib.hid (fun _ => by rw [HKD.out]; decide)
            have HRL : Hid (Rl (val1P false) q x ⟨2, 0, Lib.trimB tx 39⟩ (finL (finX x ⟨2, 0, Lib.trimB tx 39⟩ q) q) (finX x ⟨2, 0, Lib.trimB tx 39⟩ q)) := Lib.hid (val_rl (fun _ => by rw [val_txt3 HKD.out, HTX.out, hmt.1]))
            have HWL : Hid ((Lib.trimB tx 39).length ≤ 1000000) := Lib.hid (Nat.le_trans hmt.2 hw1)
            have HAT := Lib.hid (trim_env tx hw1 y)
            clear hw1 hmt
            obtain ⟨u, hu⟩ : ∃ u, Lib.trimB tx 39 = u := ⟨_, rfl⟩
            rw [hu] at HRL HWL HAT
            clear hu
            go_wp2_with fail
            refine HAT.out.mono ?_
            rintro ev w3 ⟨rfl, hk⟩
            clear t0 t1 lt HTB HAT
            clear v0 v1 v2 g0 g1 g2 lv
            have HP' := Lib.hid (HP.out.keep hk)
            have HB' := Lib.hid (HB.out.keep hk (by simp))
            have HVB' := Lib.hid (HVB.out.keep hk (by simp))
            have HK' := Lib.hid (HK.out.trans hk.of_nil)
            have HE' := Lib.hid (HE.out.quiet hk)
            clear HP HB HVB HK HE hk
            have HP := HP'
            have HB := HB'
            have HVB := HVB'
            have HK := HK'
            have HE := HE'
            clear HP' HB' HVB' HK' HE'
            have v0 : w3.cell? ⟨T + 1, 0, none⟩ = some (.int .i64 (0)) := HVB.out.cell 0
            have v1 : w3.cell? ⟨T + 1, 1, none⟩ = some (.int .i64 (0)) := HVB.out.cell 1
            have v2 : w3.cell? ⟨T + 1, 2, none⟩ = some (.string (⟨#[]⟩)) := HVB.out.cell 2
            have g0 := HVB.out.frozen 0
            have g1 := HVB.out.frozen 1
            have g2 := HVB.out.frozen 2
            have lv := HVB.out.lt
            go_wp2
            go_meet
            refine ⟨⟨2, 0, u⟩, x, Lib.hid (put_val HP.out HVB.out HB.out HTM.out.2.1 HK.out HTM.out.2.2.2 HE.out HLV.out _ _ _).1, Lib.hid (put_val HP.out HVB.out HB.out HTM.out.2.1 HK.out HTM.out.2.2.2 HE.out HLV.out _ _ _).2.1, Lib.hid (put_val HP.out HVB.out HB.out HTM.out.2.1 HK.out HTM.out.2.2.2 HE.out HLV.out _ _ _).2.2.1, Lib.hid (put_val HP.out HVB.out HB.out HTM.out.2.1 HK.out HTM.out.2.2.2 HE.out HLV.out _ _ _).2.2.2.1, Lib.hid (put_val HP.out HVB.out HB.out HTM.out.2.1 HK.out HTM.out.2.2.2 HE.out HLV.out _ _ _).2.2.2.2, Lib.hid (HWL.out), HRL, HNE5⟩
          · have HRL : Hid (∀ v, Rl (val1P mn) q x v (finL (finX (badX x 3 q) v q) q) (finX (badX x 3 q) v q)) := Lib.hid (fun v => badv_rl (fun _ => val_else (by rw [HKD.out]; exact hk2) (by
              rw [HKD.out]
              intro h3
              cases mn with
              | true => rfl
              | false => exact absurd ⟨h3, rfl⟩ hk3)))
            by_cases h3 : kd = 3
            · have hm : mn = true := by
                cases mn with
                | true => rfl
                | false => exact absurd ⟨h3, rfl⟩ hk3
              subst h3 hm
              clear hk2 hk3 e2
              go_wp2_with fail
              refine (rfails_any 3 (by decide) y HE.out.fine HP.out).mono ?_
              rintro ev w4 ⟨rfl, hp, hk⟩
              clear t0 t1 lt HTB
              clear v0 v1 v2 g0 g1 g2 lv
              have HB' := Lib.hid (far_rd HP.out hk HB.out (by decide))
              have HVB' := Lib.hid (far_rd HP.out hk HVB.out (by decide))
              have HK' := Lib.hid (HK.out.trans hk)
              have HE' := Lib.hid (HE.out.one hlo hk)
              have HP' := Lib.hid hp
              clear HP HB HVB HK HE hk hp
              have HP := HP'
              have HB := HB'
              have HVB := HVB'
              have HK := HK'
              have HE := HE'
              clear HP' HB' HVB' HK' HE'
              go_wp2
              go_meet
              exact ⟨zV, badX x 3 q, HP, HVB, HB, HK, HE, Lib.hid (Nat.zero_le _), Lib.hid (HRL.out _), Lib.hid badX_no⟩
            · have e3 : (kd == 3) = false := by rw [beq_eq_false_iff_ne]; exact h3
              clear hk2 hk3 h3
              go_wp2_with fail
              refine (rfails_any 3 (by decide) y HE.out.fine HP.out).mono ?_
              rintro ev w4 ⟨rfl, hp, hk⟩
              clear t0 t1 lt HTB
              clear v0 v1 v2 g0 g1 g2 lv
              have HB' := Lib.hid (far_rd HP.out hk HB.out (by decide))
              have HVB' := Lib.hid (far_rd HP.out hk HVB.out (by decide))
              have HK' := Lib.hid (HK.out.trans hk)
              have HE' := Lib.hid (HE.out.one hlo hk)
              have HP' := Lib.hid hp
              clear HP HB HVB HK HE hk hp
              have HP := HP'
              have HB := HB'
              have HVB := HVB'
              have HK := HK'
              have HE := HE'
              clear HP' HB' HVB' HK' HE'
              go_wp2
              go_meet
              exact ⟨zV, badX x 3 q, HP, HVB, HB, HK, HE, Lib.hid (Nat.zero_le _), Lib.hid (HRL.out _), Lib.hid badX_no⟩
      case rest =>
        obtain ⟨⟨kv, nv, wv⟩, x2, HP, HVB, HB, HK, HE, HW, HRL, HN5⟩ := hcut
        obtain ⟨w5, rfl⟩ : ∃ y : World, y = wc := ⟨_, rfl⟩
        clear t0 t1 lt v0 v1 v2 g0 g1 g2 lv HTB
        have v0 : w5.cell? ⟨T + 1, 0, none⟩ = some (.int .i64 (kv)) := HVB.out.cell 0
        have v1 : w5.cell? ⟨T + 1, 1, none⟩ = some (.int .i64 (nv)) := HVB.out.cell 1
        have v2 : w5.cell? ⟨T + 1, 2, none⟩ = some (.string (bs wv)) := HVB.out.cell 2
        have g0 := HVB.out.frozen 0
        have g1 := HVB.out.frozen 1
        have g2 := HVB.out.frozen 2
        have lv := HVB.out.lt
        obtain ⟨rv, hrv⟩ : ∃ rv, rvB (⟨kv, nv, wv⟩ : Vl) = rv := ⟨_, rfl⟩
        have HRV : Hid (Calls Tryz.prog 91 #[.agg #[.int .i64 kv, .int .i64 nv, .string (bs wv)]] w5 fun e w' => e = .returned (.bool rv) ∧ Keeps [] w5 w') := Lib.hid (by have := rRightValue_any (⟨kv, nv, wv⟩ : Vl) (Nat.le_trans HW.out (by decide)) w5; rw [hrv] at this; exact this)
        have hfx : finX x2 ⟨kv, nv, wv⟩ q = if rv then x2 else badX x2 4 q := by unfold finX; rw [hrv]
        have HFX := Lib.hid hfx
        clear hrv hfx
        cases rv with
        | false =>
          go_wp2_with fail
          refine HRV.out.mono ?_
          rintro ev w6 ⟨rfl, hk⟩
          clear v0 v1 v2 g0 g1 g2 lv
          have HP' := Lib.hid (HP.out.keep hk)
          have HB' := Lib.hid (HB.out.keep hk (by simp))
          have HVB' := Lib.hid (HVB.out.keep hk (by simp))
          have HK' := Lib.hid (HK.out.trans hk.of_nil)
          have HE' := Lib.hid (HE.out.quiet hk)
          clear HP HB HVB HK HE hk
          have HP := HP'
          have HB := HB'
          have HVB := HVB'
          have HK := HK'
          have HE := HE'
          clear HP' HB' HVB' HK' HE'
          go_wp2_with fail
          refine (rfails_any 4 (by decide) w6 HE.out.fine HP.out).mono ?_
          rintro ev w7 ⟨rfl, hp, hk⟩
          have HB' := Lib.hid (far_rd HP.out hk HB.out (by decide))
          have HVB' := Lib.hid (far_rd HP.out hk HVB.out (by decide))
          have HK' := Lib.hid (HK.out.trans hk)
          have HE' := Lib.hid (HE.out.one hlo hk)
          have HP' := Lib.hid hp
          clear HP HB HVB HK HE hk hp
          have HP := HP'
          have HB := HB'
          have HVB := HVB'
          have HK := HK'
          have HE := HE'
          clear HP' HB' HVB' HK' HE'
          obtain ⟨z, hz⟩ := badX_ne x2 4 q
          have hfx : finX x2 ⟨kv, nv, wv⟩ q = some z := by rw [← hz]; simpa using HFX.out
          have HFIN : Hid (Rl argP l x ⟨[], ⟨kv, nv, wv⟩⟩ q (some z)) := Lib.hid (by
            have := HV.out _ _ _ HRL.out
            rw [hfx] at this
            exact this)
          rw [hz] at HP
          clear hz hfx HFX
          have HO := Lib.hid (ok_any w7 HE.out.fine HP.out)
          go_wp2_with fail
          refine HO.out.mono ?_
          rintro ev w8 ⟨hev, hk⟩
          have hev' : ev = .returned (.bool false) := hev
          subst hev'
          clear hev HO
          have HP' := Lib.hid (HP.out.keep hk)
          have HB' := Lib.hid (HB.out.keep hk (by simp))
          have HVB' := Lib.hid (HVB.out.keep hk (by simp))
          have HK' := Lib.hid (HK.out.trans hk.of_nil)
          have HE' := Lib.hid (HE.out.quiet hk)
          clear HP HB HVB HK HE hk
          have HP := HP'
          have HB := HB'
          have HVB := HVB'
          have HK := HK'
          have HE := HE'
          clear HP' HB' HVB' HK' HE'
          have v0 : w8.cell? ⟨T + 1, 0, none⟩ = some (.int .i64 (kv)) := HVB.out.cell 0
          have v1 : w8.cell? ⟨T + 1, 1, none⟩ = some (.int .i64 (nv)) := HVB.out.cell 1
          have v2 : w8.cell? ⟨T + 1, 2, none⟩ = some (.string (bs wv)) := HVB.out.cell 2
          have g0 := HVB.out.frozen 0
          have g1 := HVB.out.frozen 1
          have g2 := HVB.out.frozen 2
          have lv := HVB.out.lt
          have f0 := HB.out.frozen 0
          have f1 := HB.out.frozen 1
          have f2 := HB.out.frozen 2
          have f3 := HB.out.frozen 3
          have r0 : w8.cell? ⟨M, 0, none⟩ = some (.string ⟨#[]⟩) := HB.out.cell 0
          have r1 : w8.cell? ⟨M, 1, none⟩ = some (.int .i64 0) := HB.out.cell 1
          have r2 : w8.cell? ⟨M, 2, none⟩ = some (.int .i64 0) := HB.out.cell 2
          have r3 : w8.cell? ⟨M, 3, none⟩ = some (.string ⟨#[]⟩) := HB.out.cell 3
          have lr := HB.out.lt
          have nvm := HTM.out.2.1
          go_wp2
          have hb7 := ((((HB.out).set 0 (.string ⟨#[]⟩)).set 1 (.int .i64 kv)).set 2 (.int .i64 nv)).set 3 (.string (bs wv))
          have z0 := hb7.cell 0
          have z1 := hb7.cell 1
          have z2 := hb7.cell 2
          have z3 := hb7.cell 3
          refine bodyPost_ret (v := .agg #[.string ⟨#[]⟩, .int .i64 kv, .int .i64 nv, .string (bs wv)]) (by simp [results, Tryz.results64, go_sem, z0, z1, z2, z3]) rfl ?_
          exact ⟨⟨[], ⟨kv, nv, wv⟩⟩, q, some z, rfl, (((HP.out.set HB.out (by decide) (by decide) _).set ((HB.out).set 0 _) (by decide) (by decide) _).set (((HB.out).set 0 _).set 1 _) (by decide) (by decide) _).set ((((HB.out).set 0 _).set 1 _).set 2 _) (by decide) (by decide) _, HFIN.out, HQL.out, (((HK.out.setCell (.inr HMw.out) _).setCell (.inr HMw.out) _).setCell (.inr HMw.out) _).setCell (.inr HMw.out) _⟩
        | true =>
          go_wp2_with fail
          refine HRV.out.mono ?_
          rintro ev w6 ⟨rfl, hk⟩
          clear v0 v1 v2 g0 g1 g2 lv
          have HP' := Lib.hid (HP.out.keep hk)
          have HB' := Lib.hid (HB.out.keep hk (by simp))
          have HVB' := Lib.hid (HVB.out.keep hk (by simp))
          have HK' := Lib.hid (HK.out.trans hk.of_nil)
          have HE' := Lib.hid (HE.out.quiet hk)
          clear HP HB HVB HK HE hk
          have HP := HP'
          have HB := HB'
          have HVB := HVB'
          have HK := HK'
          have HE := HE'
          clear HP' HB' HVB' HK' HE'
          have hfx : finX x2 ⟨kv, nv, wv⟩ q = x2 := by simpa using HFX.out
          have HO := Lib.hid (ok_any w6 HE.out.fine HP.out)
          cases x2 with
          | some z =>
            have HFIN : Hid (Rl argP l x ⟨[], ⟨kv, nv, wv⟩⟩ q (some z)) := Lib.hid (by
              have := HV.out _ _ _ HRL.out
              rw [hfx] at this
              exact this)
            clear hfx HFX
            go_wp2_with fail
            refine HO.out.mono ?_
            rintro ev w8 ⟨hev, hk⟩
            have hev' : ev = .returned (.bool false) := hev
            subst hev'
            clear hev HO
            have HP' := Lib.hid (HP.out.keep hk)
            have HB' := Lib.hid (HB.out.keep hk (by simp))
            have HVB' := Lib.hid (HVB.out.keep hk (by simp))
            have HK' := Lib.hid (HK.out.trans hk.of_nil)
            have HE' := Lib.hid (HE.out.quiet hk)
            clear HP HB HVB HK HE hk
            have HP := HP'
            have HB := HB'
            have HVB := HVB'
            have HK := HK'
            have HE := HE'
            clear HP' HB' HVB' HK' HE'
            have v0 : w8.cell? ⟨T + 1, 0, none⟩ = some (.int .i64 (kv)) := HVB.out.cell 0
            have v1 : w8.cell? ⟨T + 1, 1, none⟩ = some (.int .i64 (nv)) := HVB.out.cell 1
            have v2 : w8.cell? ⟨T + 1, 2, none⟩ = some (.string (bs wv)) := HVB.out.cell 2
            have g0 := HVB.out.frozen 0
            have g1 := HVB.out.frozen 1
            have g2 := HVB.out.frozen 2
            have lv := HVB.out.lt
            have f0 := HB.out.frozen 0
            have f1 := HB.out.frozen 1
            have f2 := HB.out.frozen 2
            have f3 := HB.out.frozen 3
            have r0 : w8.cell? ⟨M, 0, none⟩ = some (.string ⟨#[]⟩) := HB.out.cell 0
            have r1 : w8.cell? ⟨M, 1, none⟩ = some (.int .i64 0) := HB.out.cell 1
            have r2 : w8.cell? ⟨M, 2, none⟩ = some (.int .i64 0) := HB.out.cell 2
            have r3 : w8.cell? ⟨M, 3, none⟩ = some (.string ⟨#[]⟩) := HB.out.cell 3
            have lr := HB.out.lt
            have nvm := HTM.out.2.1
            go_wp2
            have hb7 := ((((HB.out).set 0 (.string ⟨#[]⟩)).set 1 (.int .i64 kv)).set 2 (.int .i64 nv)).set 3 (.string (bs wv))
            have z0 := hb7.cell 0
            have z1 := hb7.cell 1
            have z2 := hb7.cell 2
            have z3 := hb7.cell 3
            refine bodyPost_ret (v := .agg #[.string ⟨#[]⟩, .int .i64 kv, .int .i64 nv, .string (bs wv)]) (by simp [results, Tryz.results64, go_sem, z0, z1, z2, z3]) rfl ?_
            exact ⟨⟨[], ⟨kv, nv, wv⟩⟩, q, some z, rfl, (((HP.out.set HB.out (by decide) (by decide) _).set ((HB.out).set 0 _) (by decide) (by decide) _).set (((HB.out).set 0 _).set 1 _) (by decide) (by decide) _).set ((((HB.out).set 0 _).set 1 _).set 2 _) (by decide) (by decide) _, HFIN.out, HQL.out, (((HK.out.setCell (.inr HMw.out) _).setCell (.inr HMw.out) _).setCell (.inr HMw.out) _).setCell (.inr HMw.out) _⟩
          | none =>
            have HFIN : Hid (Rl argP l x ⟨[], ⟨kv, nv, wv⟩⟩ q.tail none) := Lib.hid (by
              have := HV.out _ _ _ HRL.out
              rw [hfx] at this
              exact this)
            clear hfx HFX
            have HQ5 := Lib.hid (HN5.out rfl)
            go_wp2_with fail
            refine HO.out.mono ?_
            rintro ev w8 ⟨hev, hk⟩
            have hev' : ev = .returned (.bool true) := hev
            subst hev'
            clear hev HO
            have HP' := Lib.hid (HP.out.keep hk)
            have HB' := Lib.hid (HB.out.keep hk (by simp))
            have HVB' := Lib.hid (HVB.out.keep hk (by simp))
            have HK' := Lib.hid (HK.out.trans hk.of_nil)
            have HE' := Lib.hid (HE.out.quiet hk)
            clear HP HB HVB HK HE hk
            have HP := HP'
            have HB := HB'
            have HVB := HVB'
            have HK := HK'
            have HE := HE'
            clear HP' HB' HVB' HK' HE'
            have v0 : w8.cell? ⟨T + 1, 0, none⟩ = some (.int .i64 (kv)) := HVB.out.cell 0
            have v1 : w8.cell? ⟨T + 1, 1, none⟩ = some (.int .i64 (nv)) := HVB.out.cell 1
            have v2 : w8.cell? ⟨T + 1, 2, none⟩ = some (.string (bs wv)) := HVB.out.cell 2
            have g0 := HVB.out.frozen 0
            have g1 := HVB.out.frozen 1
            have g2 := HVB.out.frozen 2
            have lv := HVB.out.lt
            have f0 := HB.out.frozen 0
            have f1 := HB.out.frozen 1
            have f2 := HB.out.frozen 2
            have f3 := HB.out.frozen 3
            have r0 : w8.cell? ⟨M, 0, none⟩ = some (.string ⟨#[]⟩) := HB.out.cell 0
            have r1 : w8.cell? ⟨M, 1, none⟩ = some (.int .i64 0) := HB.out.cell 1
            have r2 : w8.cell? ⟨M, 2, none⟩ = some (.int .i64 0) := HB.out.cell 2
            have r3 : w8.cell? ⟨M, 3, none⟩ = some (.string ⟨#[]⟩) := HB.out.cell 3
            have lr := HB.out.lt
            have nvm := HTM.out.2.1
            obtain ⟨g, o, c, c0, c1, c2, ⟨z0, -⟩, lb, lg, -, hn, hc, hc2, -⟩ := HP.out.open'
            have hmore : 1 < q.length := by have := (HP.out.endT.tail HQ5.out).pos; rw [List.length_tail] at this; omega
            have h3 : (1 : Int) ≤ (q.length : Int) := by omega
            have h4 : (1 : Int) < (c : Int) := by omega
            have HST := Lib.hid (fun n a d => @RdIs.step w8 b q none g o c HP.out c0 HQ5.out n a d)
            have nmb := HMb.out
            have nvb := HTM.out.2.2.1
            have HLQ : Hid (q.tail.length ≤ l.length) := Lib.hid (by have := HQL.out; rw [List.length_tail]; omega)
            go_wp2
            have hst := HST.out (q.length - 1) ⟨g, o + 3, none⟩ (c - 1) rfl rfl rfl
            have hB6 := HB.out.far (p := ⟨b, 0, none⟩) HMb.out (.slice (some ⟨g, o + 3, none⟩) (q.length - 1) (c - 1))
            have hb7 := ((((hB6).set 0 (.string ⟨#[]⟩)).set 1 (.int .i64 kv)).set 2 (.int .i64 nv)).set 3 (.string (bs wv))
            have z0 := hb7.cell 0
            have z1 := hb7.cell 1
            have z2 := hb7.cell 2
            have z3 := hb7.cell 3
            refine bodyPost_ret (v := .agg #[.string ⟨#[]⟩, .int .i64 kv, .int .i64 nv, .string (bs wv)]) (by simp [results, Tryz.results64, go_sem, z0, z1, z2, z3]) rfl ?_
            exact ⟨⟨[], ⟨kv, nv, wv⟩⟩, q.tail, none, rfl, (((hst.1.set hB6 (by decide) (by decide) _).set ((hB6).set 0 _) (by decide) (by decide) _).set (((hB6).set 0 _).set 1 _) (by decide) (by decide) _).set ((((hB6).set 0 _).set 1 _).set 2 _) (by decide) (by decide) _, HFIN.out, HLQ.out, ((((HK.out.trans hst.2).setCell (.inr HMw.out) _).setCell (.inr HMw.out) _).setCell (.inr HMw.out) _).setCell (.inr HMw.out) _⟩
end Go.Proofs.YtbhejdljekmohaaGreatDoor
