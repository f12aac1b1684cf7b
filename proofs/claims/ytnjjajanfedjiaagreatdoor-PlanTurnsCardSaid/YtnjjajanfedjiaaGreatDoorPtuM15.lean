/- Parse. What the program's Parse hands back, in one form, whether the text is a flow or none. Slices of whatever elements in memory: one of them. -/
import Derived.Test.YtnjjajanfedjiaaGreatDoorPtuM14
import Derived.Test.YtnjjajanfedjiaaGreatDoorPtuM12
set_option linter.unusedSimpArgs false
set_option linter.unusedVariables false
namespace Go.Proofs.YtnjjajanfedjiaaGreatDoor
open Go.RowKit Go.BigFrame
attribute [local go_sem] bs_size bs_extract bs_append bs_toList
theorem InEl.low {W : World} {base base' : Nat} (hb : base ≤ base') : ∀ cs x, InEl W base' cs x → InEl W base cs x := fun _ _ ⟨v, h1, h2⟩ => ⟨v, h1, own_low h2 hb⟩
theorem JbEl.low {W : World} {base base' : Nat} (hb : base ≤ base') : ∀ cs x, JbEl W base' cs x → JbEl W base cs x := fun _ _ ⟨v2, v3, v4, h1, h2⟩ => ⟨v2, v3, v4, h1, ⟨own_low h2.o2 hb, own_low h2.o3 hb, own_low h2.o4 hb⟩⟩
theorem LstIs.low {α : Type} {El : World → Nat → List Value → α → Prop} {e : TypeId} {size base base' : Nat} {W : World} {v : Value} {l : List α} (hb : base ≤ base') (hE : ∀ cs x, El W base' cs x → El W base cs x) (h : LstIs El e size W base' v l) : LstIs El e size W base v l := by
 obtain ⟨us, h1, h2, h3⟩ := h
 exact ⟨us, h1, own_low h2 hb, fun j h h' => hE _ _ (h3 j h h')⟩
def FParseOut (R : Except (Int × Int) Fl) (base : Nat) (e : Ending) (w' : World) : Prop := match R with
 | .ok f => ∃ v0 v1 v2, e = .returned (.tuple #[.agg #[v0, v1, v2], .nilIface]) ∧ InsIs w' base v0 f.ins ∧ JobsIs w' base v1 f.jobs ∧ OutsIs w' base v2 f.outs
 | .error x => ∃ gi, e = .returned (.tuple #[.agg #[.slice none 0 0, .slice none 0 0, .slice none 0 0], .iface 122 (.pointer (some ⟨gi, 0, none⟩))]) ∧ Blk w' gi 123 #[.int .i64 x.1, .int .i64 x.2]
theorem ps_new {y : World} {base : Nat} {v : Value} {l : List Tk} (h : y.ownsRow base 97 3 v l.length (tsCells l)) (he : EndT l) (hw : ∀ t ∈ l, TkW t) : Ps (y.alloc (.cells #[v] 94)) y.heap.size l := by
 rcases h.2 with ⟨_, h0⟩ | ⟨g, cap, cur, rfl, hb, hh, h1, h2, h3, h4⟩
 ·have := he.pos; omega
 have hg : g < y.heap.size := (Array.getElem?_eq_some_iff.1 hh).1
 have hk := (Keeps.refl [] y).alloc (.cells #[.slice (some ⟨g, 0, none⟩) l.length cap] 94)
 obtain ⟨A, c, e, hx⟩ := own_form h
 injection e with e1 e2 e3
 subst e1 e3
 obtain ⟨g', e4, _, hx⟩ := hx he.pos
 injection e4 with e4
 injection e4 with e4
 subst e4
 exact ⟨g, 0, cap, Blk.new _ _ _, ⟨OfTy.keep ⟨_, _, hh⟩ hk (by simp), hg⟩, h1, h2, he, hw, fun j u hu => by rw [Nat.zero_add]; exact hk.cell_of (hx j u hu) (by simp)⟩
theorem blk_put {W : World} {g b k : Nat} {e : TypeId} {cs : Array Value} {u : Value} (h : Blk W g e cs) (hne : g ≠ b) : Blk (W.setCell ⟨b, k, none⟩ u) g e cs := h.keep ((Keeps.refl [b] _).setCell (.inl (by simp)) _) (by simpa using hne)
theorem set1_0 {W : World} {g : Nat} {e : TypeId} {a u : Value} (h : Blk W g e #[a]) : Blk (W.setCell ⟨g, 0, none⟩ u) g e #[u] := (h.set 0 u).congr rfl
theorem blk_drew {W : World} {g : Nat} {e : TypeId} {cs : Array Value} (h : Blk W g e cs) : Blk W.drew g e cs := h
theorem leaves_nil {P : Program} {fn : Func} {tmps : Array Value} {R : Ending → World → Prop} {w : World} {v : Value} (h1 : (results fn tmps).run P w = .ok v w) (h2 : R (.returned v) w) : Leaves P fn tmps R [] .returning w := ⟨v, h1, h2⟩
set_option maxRecDepth 100000 in
set_option maxHeartbeats 8000000 in
theorem parse_any (s : Bs) (hs : s.length ≤ 1000000) (w : World) (hE : FEnv w) :
  Calls Tryz.prog 7 #[.string (bs s)] w fun e w' => FParseOut (parseF s) w.heap.size e w' ∧ Keeps [] w w' := by
 have hmf : ∀ (fn : Fn) (first cap : Array Value) (w : World), (Instr.makeFunc fn first cap).run Tryz.prog w = .ok (.func fn first cap) w := fun _ _ _ _ => rfl
 obtain ⟨R, hR⟩ : ∃ R, parseF s = R := ⟨_, rfl⟩
 rw [hR]
 unfold parseF at hR
 have HR := Lib.hid hR
 have HE := Lib.hid hE
 have HSL := Lib.hid hs
 clear hR hE hs
 go_enter_defers Tryz.func7, Tryz.ntmps7
 go_upto_region 2 with (fail)
 obtain ⟨W1, hW1⟩ : ∃ x, w.alloc (.cells #[.slice none 0 0, .slice none 0 0, .slice none 0 0] 26) = x := ⟨_, rfl⟩
 have z1 : W1.heap.size = w.heap.size + 1 := by rw [← hW1]; exact fsz _ _
 obtain ⟨y0, hW2⟩ : ∃ x, W1.alloc (.cells #[.nilIface] 33) = x := ⟨_, rfl⟩
 have k1 : Keeps [] w W1 := by rw [← hW1]; exact (Keeps.refl _ _).alloc _
 have k2 : Keeps [] W1 y0 := by rw [← hW2]; exact (Keeps.refl _ _).alloc _
 have b1 : Blk W1 w.heap.size 26 #[.slice none 0 0, .slice none 0 0, .slice none 0 0] := by rw [← hW1]; exact Blk.new _ _ _
 have b2 : Blk y0 (w.heap.size + 1) 33 #[.nilIface] := by rw [← hW2, ← z1]; exact Blk.new _ _ _
 have b1' := b1.keep k2 (by simp)
 rw [hW1, hW2]
 obtain ⟨eb, heb⟩ : ∃ x, w.heap.size + 1 = x := ⟨_, rfl⟩
 rw [heb] at b2 ⊢
 obtain ⟨rb, hrb⟩ : ∃ x, w.heap.size = x := ⟨_, rfl⟩
 have HRN := Lib.hid hrb
 rw [hrb] at b1' heb ⊢
 have HRB := Lib.hid b1'
 have HEB := Lib.hid b2
 have HK := Lib.hid (k1.trans k2)
 have HNE : Hid (rb ≠ eb) := Lib.hid (by omega)
 have HWR : Hid (w.heap.size ≤ rb) := Lib.hid (by have := HRN.out; omega)
 have HWE : Hid (w.heap.size ≤ eb) := Lib.hid (by have := HRN.out; omega)
 have ne1 : ¬ rb = eb := by omega
 have ne2 : ¬ eb = rb := by omega
 have HLO : Hid (rb < eb) := Lib.hid (by omega)
 clear b1 b1' b2 k1 k2 z1 hW1 hW2 heb hrb
 have f0 : y0.cell? ⟨eb, 0, none⟩ = some .nilIface := HEB.out.cell 0
 have hT := tokens_any s HSL.out y0 (HE.out.quiet HK.out)
 rcases hL : lexL s with x | l
 ·have HX : Hid (R = .error x) := Lib.hid (by rw [← HR.out, hL]; rfl)
  rw [hL] at hT
  have HT := Lib.hid hT
  clear hT hL f0
  go_wp2_with fail
  refine HT.out.mono ?_
  rintro ev y1 ⟨⟨gi, rfl, hb⟩, hk⟩
  have HRB1 := Lib.hid (HRB.out.keep hk (by simp))
  have HEB1 := Lib.hid (HEB.out.keep hk (by simp))
  have HK1 := Lib.hid (HK.out.trans hk)
  have HB1 := Lib.hid hb
  clear hb hk HT
  have f0 : y1.cell? ⟨eb, 0, none⟩ = some .nilIface := HEB1.out.cell 0
  have ez := HEB1.out.frozen 0
  have le := HEB1.out.lt
  have r0 : y1.cell? ⟨rb, 0, none⟩ = some (.slice none 0 0) := HRB1.out.cell 0
  have r1 : y1.cell? ⟨rb, 1, none⟩ = some (.slice none 0 0) := HRB1.out.cell 1
  have r2 : y1.cell? ⟨rb, 2, none⟩ = some (.slice none 0 0) := HRB1.out.cell 2
  have z0 := HRB1.out.frozen 0
  have z1 := HRB1.out.frozen 1
  have z2 := HRB1.out.frozen 2
  have lr := HRB1.out.lt
  go_upto_region 4 with (fail)
  go_region
  go_wp2
  refine leaves_cons (f := 34) (args := #[.pointer (some ⟨rb, 0, none⟩), .pointer (some ⟨eb, 0, none⟩)]) (by simp) (by simp [go_sem]) ?_
  refine (catch_idle ⟨rb, 0, none⟩ ⟨eb, 0, none⟩ _).mono ?_
  rintro e u' w'' ⟨rfl, rfl, rfl⟩
  have hRB := blk_drew (blk_put (k := 0) (u := .iface 122 (.pointer (some ⟨gi, 0, none⟩))) (set3_2 (u := .slice none 0 0) (set3_1 (u := .slice none 0 0) (set3_0 (u := .slice none 0 0) (blk_put (k := 0) (u := .iface 122 (.pointer (some ⟨gi, 0, none⟩))) HRB1.out HNE.out)))) HNE.out)
  have hEB := blk_drew (set1_0 (u := .iface 122 (.pointer (some ⟨gi, 0, none⟩))) (blk_put (k := 2) (u := .slice none 0 0) (blk_put (k := 1) (u := .slice none 0 0) (blk_put (k := 0) (u := .slice none 0 0) (set1_0 (u := .iface 122 (.pointer (some ⟨gi, 0, none⟩))) HEB1.out) HNE.out.symm) HNE.out.symm) HNE.out.symm))
  have q0 := hRB.cell 0
  have q1 := hRB.cell 1
  have q2 := hRB.cell 2
  have q3 := hEB.cell 0
  refine leaves_nil (v := .tuple #[.agg #[.slice none 0 0, .slice none 0 0, .slice none 0 0], .iface 122 (.pointer (some ⟨gi, 0, none⟩))]) (by simp [results, Tryz.results7, go_sem, q0, q1, q2, q3]) ?_
  have g1 := HB1.out.ty.ne HRB1.out.ty (by decide)
  have g2 := HB1.out.ty.ne HEB1.out.ty (by decide)
  refine ⟨?_, ((((((HK1.out.setCell (.inr HWE.out) _).setCell (.inr HWR.out) _).setCell (.inr HWR.out) _).setCell (.inr HWR.out) _).setCell (.inr HWE.out) _).drew)⟩
  rw [HX.out]
  exact ⟨gi, rfl, blk_drew (blk_put (blk_put (blk_put (blk_put (blk_put HB1.out g2) g1) g1) g1) g2)⟩
 ·rw [hL] at hT
  obtain ⟨hEND, hTW, hLN⟩ := lexL_ok HSL.out hL
  have HR1 : Hid (parseT l = R) := Lib.hid (by rw [← HR.out, hL]; rfl)
  have HT := Lib.hid hT
  have HEN := Lib.hid hEND
  have HTWH := Lib.hid hTW
  have HLL : Hid (l.length ≤ 1000000) := Lib.hid (by omega)
  have hpos := hEND.pos
  clear hT hL f0 HR hEND hTW hLN
  go_wp2_with fail
  refine HT.out.mono ?_
  rintro ev y1 ⟨⟨A, c, rfl, hov⟩, hk⟩
  obtain ⟨b0, hb0⟩ : ∃ g, A = some ⟨g, 0, none⟩ := by
   obtain ⟨A', c', e, hx⟩ := own_form hov
   injection e with e1 e2 e3
   subst e1
   obtain ⟨g, h1, _⟩ := hx hpos
   exact ⟨g, h1⟩
  subst hb0
  have HRB1 := Lib.hid (HRB.out.keep hk (by simp))
  have HEB1 := Lib.hid (HEB.out.keep hk (by simp))
  have HK1 := Lib.hid (HK.out.trans hk)
  have HOV := Lib.hid hov
  clear hov hk HT
  have f0 : y1.cell? ⟨eb, 0, none⟩ = some .nilIface := HEB1.out.cell 0
  have ez := HEB1.out.frozen 0
  have le := HEB1.out.lt
  have hyk : Keeps [eb] y1 (y1.setCell ⟨eb, 0, none⟩ .nilIface) := (Keeps.refl _ _).setCell (.inl (by simp)) _
  have HRB2 := Lib.hid (HRB1.out.keep hyk (by simpa using HNE.out))
  have HEB2 := Lib.hid (set1_0 (u := .nilIface) HEB1.out)
  have HK2 := Lib.hid (HK1.out.setCell (p := ⟨eb, 0, none⟩) (.inr HWE.out) .nilIface)
  have HOV2 : Hid ((y1.setCell ⟨eb, 0, none⟩ .nilIface).ownsRow y0.heap.size 97 3 (.slice (some ⟨b0, 0, none⟩) l.length c) l.length (tsCells l)) := Lib.hid (own_far' HOV.out hyk (fun x hx => by rw [List.mem_singleton.1 hx]; exact ⟨_, HEB1.out.ty, by decide⟩))
  clear hyk
  go_upto_region 5 with (fail)
  obtain ⟨y2, hy2⟩ : ∃ x, y1.setCell ⟨eb, 0, none⟩ .nilIface = x := ⟨_, rfl⟩
  rw [hy2] at HRB2 HEB2 HK2 HOV2 ⊢
  clear hy2 f0 ez le HRB1 HEB1 HK1 HOV
  go_upto_region 6 with (fail)
  have hps := ps_new HOV2.out HEN.out HTWH.out
  have hk3 := (Keeps.refl [] y2).alloc (.cells #[.slice (some ⟨b0, 0, none⟩) l.length c] 94)
  obtain ⟨y3, hy3⟩ : ∃ x, y2.alloc (.cells #[.slice (some ⟨b0, 0, none⟩) l.length c] 94) = x := ⟨_, rfl⟩
  rw [hy3] at hps hk3 ⊢
  have hyw : w.heap.size ≤ y2.heap.size := HK2.out.size
  obtain ⟨b, hb⟩ : ∃ x, y2.heap.size = x := ⟨_, rfl⟩
  rw [hb] at hps hyw ⊢
  have HP := Lib.hid hps
  have HRB3 := Lib.hid (HRB2.out.keep hk3 (by simp))
  have HEB3 := Lib.hid (HEB2.out.keep hk3 (by simp))
  have HK3 := Lib.hid (HK2.out.trans hk3)
  have HWB := Lib.hid hyw
  have HFB : Hid (FB y3 w.heap.size) := Lib.hid ⟨w, HE.out, HK3.out, Nat.le_refl _⟩
  have hnr := HP.out.ty.ne HRB3.out.ty (by decide)
  have hnee := HP.out.ty.ne HEB3.out.ty (by decide)
  have HNR : Hid (rb ∉ [b]) := Lib.hid (by simpa using hnr.symm)
  have HNB : Hid (eb ∉ [b]) := Lib.hid (by simpa using hnee.symm)
  clear hps hk3 hy3 hyw hb HRB2 HEB2 HK2 HOV2 hnr hnee
  have hF := flow_any y3 HFB.out HWB.out HP.out HLL.out
  rcases hFl : flowP l with x | ⟨f, r⟩
  ·have HX : Hid (R = .error x) := Lib.hid (by rw [← HR1.out]; unfold parseT; rw [hFl]; rfl)
   rw [hFl] at hF
   have HF := Lib.hid hF
   clear hF hFl
   go_wp2_with fail
   refine HF.out.mono ?_
   rintro ev y4 ⟨⟨gi, rfl, hb⟩, hk⟩
   have HRB4 := Lib.hid (HRB3.out.keep hk HNR.out)
   have HEB4 := Lib.hid (HEB3.out.keep hk HNB.out)
   have HK4 : Hid (Keeps [] w y4) := Lib.hid (HK3.out.trans' hk (fun x hx hl => by have := HWB.out; rw [List.mem_singleton.1 hx] at hl; omega))
   have HB4 := Lib.hid hb
   clear hb hk
   refine leaves_cons (f := 34) (args := #[.pointer (some ⟨rb, 0, none⟩), .pointer (some ⟨eb, 0, none⟩)]) (by simp) (by simp [go_sem]) ?_
   have g1 := HB4.out.ty.ne HRB4.out.ty (by decide)
   have g2 := HB4.out.ty.ne HEB4.out.ty (by decide)
   refine (catch_panicking rb eb gi (.slice none 0 0) (.slice none 0 0) (.slice none 0 0) [] y4 HRB4.out HEB4.out HNE.out).mono ?_
   rintro e u' w9 ⟨rfl, rfl, hRB, hEB, hk⟩
   have q0 := hRB.cell 0
   have q1 := hRB.cell 1
   have q2 := hRB.cell 2
   have q3 := hEB.cell 0
   refine leaves_nil (v := .tuple #[.agg #[.slice none 0 0, .slice none 0 0, .slice none 0 0], .iface 122 (.pointer (some ⟨gi, 0, none⟩))]) (by simp [results, Tryz.results7, go_sem, q0, q1, q2, q3]) ?_
   refine ⟨?_, (HK4.out).trans' hk (fun x hx hl => by have := HWE.out; have := HWR.out; simp at hx; omega)⟩
   rw [HX.out]
   exact ⟨gi, rfl, HB4.out.keep hk (by simp [g1, g2])⟩
  ·rw [hFl] at hF
   have HR2 : Hid ((if (hdT r).kind ≠ 5 then failP 3 r else .ok f) = R) := Lib.hid (by rw [← HR1.out]; unfold parseT; rw [hFl]; rfl)
   have HF := Lib.hid hF
   clear hF hFl
   go_wp2_with fail
   refine HF.out.mono ?_
   rintro ev y4 ⟨⟨v0, v1, v2, rfl, hi0, hi1, hi2, hp⟩, hk⟩
   obtain ⟨A0, c0, rfl⟩ : ∃ A c, v0 = .slice A f.ins.length c := by obtain ⟨_, _, h, _⟩ := hi0; obtain ⟨A, c, h, _⟩ := own_form h; exact ⟨A, c, h⟩
   obtain ⟨A1, c1, rfl⟩ : ∃ A c, v1 = .slice A f.jobs.length c := by obtain ⟨_, _, h, _⟩ := hi1; obtain ⟨A, c, h, _⟩ := own_form h; exact ⟨A, c, h⟩
   obtain ⟨A2, c2, rfl⟩ : ∃ A c, v2 = .slice A f.outs.length c := by obtain ⟨_, _, h, _⟩ := hi2; obtain ⟨A, c, h, _⟩ := own_form h; exact ⟨A, c, h⟩
   have HRB4 := Lib.hid (HRB3.out.keep hk HNR.out)
   have HEB4 := Lib.hid (HEB3.out.keep hk HNB.out)
   have HK4 : Hid (Keeps [] w y4) := Lib.hid (HK3.out.trans' hk (fun x hx hl => by have := HWB.out; rw [List.mem_singleton.1 hx] at hl; omega))
   have HY3 := Lib.hid HK3.out.size
   have hkr : Keeps [rb] y4 (((y4.setCell ⟨rb, 0, none⟩ (.slice A0 f.ins.length c0)).setCell ⟨rb, 1, none⟩ (.slice A1 f.jobs.length c1)).setCell ⟨rb, 2, none⟩ (.slice A2 f.outs.length c2)) := (((Keeps.refl _ _).setCell (.inl (by simp)) _).setCell (.inl (by simp)) _).setCell (.inl (by simp)) _
   have hfr : FarOf [9, 61, 63, 45, 83, 92] [rb] y4 _ := ⟨hkr, fun z hz => ⟨26, by rw [List.mem_singleton.1 hz]; exact HRB4.out.ty, by decide⟩⟩
   have HI0 := Lib.hid (hi0.far hfr (by decide) (by decide))
   have HI1 := Lib.hid (hi1.far hfr (by decide) (by decide))
   have HI2 := Lib.hid (hi2.far hfr (by decide))
   have HP5 := Lib.hid (hp.far hkr (fun z hz => ⟨26, by rw [List.mem_singleton.1 hz]; exact HRB4.out.ty, by decide, by decide⟩))
   have HEB5 := Lib.hid (HEB4.out.keep hkr (by simpa using HNE.out.symm))
   have HRB5 := Lib.hid (set3_2 (u := .slice A2 f.outs.length c2) (set3_1 (u := .slice A1 f.jobs.length c1) (set3_0 (u := .slice A0 f.ins.length c0) HRB4.out)))
   have HK5 : Hid (Keeps [] w _) := Lib.hid (((HK4.out.setCell (p := ⟨rb, 0, none⟩) (.inr HWR.out) (.slice A0 f.ins.length c0)).setCell (p := ⟨rb, 1, none⟩) (.inr HWR.out) (.slice A1 f.jobs.length c1)).setCell (p := ⟨rb, 2, none⟩) (.inr HWR.out) (.slice A2 f.outs.length c2))
   have r0 : y4.cell? ⟨rb, 0, none⟩ = some (.slice none 0 0) := HRB4.out.cell 0
   have r1 : y4.cell? ⟨rb, 1, none⟩ = some (.slice none 0 0) := HRB4.out.cell 1
   have r2 : y4.cell? ⟨rb, 2, none⟩ = some (.slice none 0 0) := HRB4.out.cell 2
   have z0 := HRB4.out.frozen 0
   have z1 := HRB4.out.frozen 1
   have z2 := HRB4.out.frozen 2
   have lr := HRB4.out.lt
   clear hi0 hi1 hi2 hp hk hkr hfr
   go_upto_region 7 with (fail)
   obtain ⟨y5, hy5⟩ : ∃ x, ((y4.setCell ⟨rb, 0, none⟩ (.slice A0 f.ins.length c0)).setCell ⟨rb, 1, none⟩ (.slice A1 f.jobs.length c1)).setCell ⟨rb, 2, none⟩ (.slice A2 f.outs.length c2) = x := ⟨_, rfl⟩
   rw [hy5] at HI0 HI1 HI2 HP5 HEB5 HRB5 HK5 ⊢
   clear hy5 r0 r1 r2 z0 z1 z2 lr HRB4 HEB4 HK4
   obtain ⟨g, o, c', c0', z0, lb, lg, -, hn, hc, hc2, k0, k1, k2, -⟩ := HP5.out.open'
   have hn2 : (0 : Int) < (r.length : Int) := by omega
   by_cases h5 : (hdT r).kind = 5
   ·have HX : Hid (R = .ok f) := Lib.hid (by rw [← HR2.out, if_neg (by rw [h5]; decide)])
    rw [h5] at k0
    have f0 : y5.cell? ⟨eb, 0, none⟩ = some .nilIface := HEB5.out.cell 0
    have ez := HEB5.out.frozen 0
    have le := HEB5.out.lt
    have r0 : y5.cell? ⟨rb, 0, none⟩ = some (.slice A0 f.ins.length c0) := HRB5.out.cell 0
    have r1 : y5.cell? ⟨rb, 1, none⟩ = some (.slice A1 f.jobs.length c1) := HRB5.out.cell 1
    have r2 : y5.cell? ⟨rb, 2, none⟩ = some (.slice A2 f.outs.length c2) := HRB5.out.cell 2
    have z0' := HRB5.out.frozen 0
    have z1' := HRB5.out.frozen 1
    have z2' := HRB5.out.frozen 2
    have lr := HRB5.out.lt
    clear h5
    go_wp2
    refine leaves_cons (f := 34) (args := #[.pointer (some ⟨rb, 0, none⟩), .pointer (some ⟨eb, 0, none⟩)]) (by simp) (by simp [go_sem]) ?_
    refine (catch_idle ⟨rb, 0, none⟩ ⟨eb, 0, none⟩ _).mono ?_
    rintro e u' w'' ⟨rfl, rfl, rfl⟩
    have hkr : Keeps [rb, eb] y5 ((((y5.setCell ⟨rb, 0, none⟩ (.slice A0 f.ins.length c0)).setCell ⟨rb, 1, none⟩ (.slice A1 f.jobs.length c1)).setCell ⟨rb, 2, none⟩ (.slice A2 f.outs.length c2)).setCell ⟨eb, 0, none⟩ .nilIface) := ((((Keeps.refl _ _).setCell (.inl (by simp)) _).setCell (.inl (by simp)) _).setCell (.inl (by simp)) _).setCell (.inl (by simp)) _
    have hfr : FarOf [9, 61, 63, 45, 83, 92] [rb, eb] y5 _ := ⟨hkr, fun z hz => by
     rcases List.mem_cons.1 hz with h | h
     ·exact ⟨26, by rw [h]; exact HRB5.out.ty, by decide⟩
     ·exact ⟨33, by rw [List.mem_singleton.1 h]; exact HEB5.out.ty, by decide⟩⟩
    have hRB := blk_put (b := eb) (k := 0) (u := .nilIface) (set3_2 (u := (.slice A2 f.outs.length c2)) (set3_1 (u := (.slice A1 f.jobs.length c1)) (set3_0 (u := (.slice A0 f.ins.length c0)) HRB5.out))) HNE.out
    have hEB := set1_0 (u := .nilIface) (blk_put (b := rb) (k := 2) (u := (.slice A2 f.outs.length c2)) (blk_put (b := rb) (k := 1) (u := (.slice A1 f.jobs.length c1)) (blk_put (b := rb) (k := 0) (u := (.slice A0 f.ins.length c0)) HEB5.out HNE.out.symm) HNE.out.symm) HNE.out.symm)
    have q0 := hRB.cell 0
    have q1 := hRB.cell 1
    have q2 := hRB.cell 2
    have q3 := hEB.cell 0
    refine leaves_nil (v := .tuple #[.agg #[.slice A0 f.ins.length c0, .slice A1 f.jobs.length c1, .slice A2 f.outs.length c2], .nilIface]) (by simp [results, Tryz.results7, go_sem, q0, q1, q2, q3]) ?_
    refine ⟨?_, HK5.out.trans' hkr (fun x hx hl => by have := HWE.out; have := HWR.out; simp at hx; omega)⟩
    rw [HX.out]
    have hlow : w.heap.size ≤ y3.heap.size := HY3.out
    exact ⟨_, _, _, rfl, LstIs.low hlow (InEl.low hlow) (HI0.out.far hfr (by decide) (by decide)), LstIs.low hlow (JbEl.low hlow) (HI1.out.far hfr (by decide) (by decide)), LstIs.low hlow (fun _ _ h => h) (HI2.out.far hfr (by decide))⟩
   ·have e5 : ((hdT r).kind != 5) = true := by rw [bne_iff_ne]; exact h5
    have HX : Hid (R = .error (3, (hdT r).at_)) := Lib.hid (by rw [← HR2.out, if_pos h5]; rfl)
    clear h5
    go_wp2_with fail
    refine (fail_any' 3 y5 HP5.out).mono ?_
    rintro ev y6 ⟨⟨gi, rfl, hb⟩, hk⟩
    have HRB6 := Lib.hid (HRB5.out.keep hk (by simp))
    have HEB6 := Lib.hid (HEB5.out.keep hk (by simp))
    have HK6 := Lib.hid (HK5.out.trans hk)
    have HB6 := Lib.hid hb
    clear hb hk
    refine leaves_cons (f := 34) (args := #[.pointer (some ⟨rb, 0, none⟩), .pointer (some ⟨eb, 0, none⟩)]) (by simp) (by simp [go_sem]) ?_
    have g1 := HB6.out.ty.ne HRB6.out.ty (by decide)
    have g2 := HB6.out.ty.ne HEB6.out.ty (by decide)
    refine (catch_panicking rb eb gi (.slice A0 f.ins.length c0) (.slice A1 f.jobs.length c1) (.slice A2 f.outs.length c2) [] y6 HRB6.out HEB6.out HNE.out).mono ?_
    rintro e u' w9 ⟨rfl, rfl, hRB, hEB, hk⟩
    have q0 := hRB.cell 0
    have q1 := hRB.cell 1
    have q2 := hRB.cell 2
    have q3 := hEB.cell 0
    refine leaves_nil (v := .tuple #[.agg #[.slice none 0 0, .slice none 0 0, .slice none 0 0], .iface 122 (.pointer (some ⟨gi, 0, none⟩))]) (by simp [results, Tryz.results7, go_sem, q0, q1, q2, q3]) ?_
    refine ⟨?_, (HK6.out).trans' hk (fun x hx hl => by have := HWE.out; have := HWR.out; simp at hx; omega)⟩
    rw [HX.out]
    exact ⟨gi, rfl, HB6.out.keep hk (by simp [g1, g2])⟩
end Go.Proofs.YtnjjajanfedjiaaGreatDoor
namespace Go.Proofs.YtnjjajanfedjiaaGreatDoor
open Go.RowKit Go.BigFrame
def resF : Except (Int × Int) Fl → Fl × Int × Int
 | .ok f => (f, 0, -1)
 | .error x => (⟨[], [], []⟩, x.1, x.2)
structure FlAt (W : World) (base : Nat) (v0 v1 v2 : Value) (f : Fl) : Prop where
 i0 : InsIs W base v0 f.ins
 i1 : JobsIs W base v1 f.jobs
 i2 : OutsIs W base v2 f.outs
theorem FarOf.nil (S : List TypeId) {W W' : World} (hk : Keeps [] W W') : FarOf S [] W W' := ⟨hk, fun x hx => by cases hx⟩
theorem FlAt.keep {W W' : World} {base : Nat} {v0 v1 v2 : Value} {f : Fl} (h : FlAt W base v0 v1 v2 f) (hk : Keeps [] W W') : FlAt W' base v0 v1 v2 f :=
 ⟨h.i0.far (FarOf.nil flTys hk) (by decide) (by decide), h.i1.far (FarOf.nil flTys hk) (by decide) (by decide), h.i2.far (FarOf.nil flTys hk) (by decide)⟩
theorem FlAt.forms {W : World} {base : Nat} {v0 v1 v2 : Value} {f : Fl} (h : FlAt W base v0 v1 v2 f) : ∃ A0 c0 A1 c1 A2 c2, v0 = .slice A0 f.ins.length c0 ∧ v1 = .slice A1 f.jobs.length c1 ∧ v2 = .slice A2 f.outs.length c2 := by
 obtain ⟨⟨_, _, h0, _⟩, ⟨_, _, h1, _⟩, ⟨_, _, h2, _⟩⟩ := h
 obtain ⟨A0, c0, e0, _⟩ := own_form h0
 obtain ⟨A1, c1, e1, _⟩ := own_form h1
 obtain ⟨A2, c2, e2, _⟩ := own_form h2
 exact ⟨A0, c0, A1, c1, A2, c2, e0, e1, e2⟩
theorem FlAt.nil (W : World) (base : Nat) : FlAt W base (.slice none 0 0) (.slice none 0 0) (.slice none 0 0) ⟨[], [], []⟩ := ⟨LstIs.nil, LstIs.nil, LstIs.nil⟩
def ErAt (W : World) (er : Value) (R : Except (Int × Int) Fl) : Prop := match R with
 | .ok _ => er = .nilIface
 | .error x => ∃ gi, er = .iface 122 (.pointer (some ⟨gi, 0, none⟩)) ∧ Blk W gi 123 #[.int .i64 x.1, .int .i64 x.2]
theorem ErAt.keep {W W' : World} {er : Value} {R : Except (Int × Int) Fl} (h : ErAt W er R) (hk : Keeps [] W W') : ErAt W' er R := by
 cases R with
 | ok f => exact h
 | error x => obtain ⟨gi, h1, h2⟩ := h; exact ⟨gi, h1, h2.keep hk (by simp)⟩
theorem ErAt.form {W : World} {er : Value} {R : Except (Int × Int) Fl} (h : ErAt W er R) : er = .nilIface ∨ ∃ gi, er = .iface 122 (.pointer (some ⟨gi, 0, none⟩)) := by
 cases R with
 | ok f => exact .inl h
 | error x => obtain ⟨gi, rfl, _⟩ := h; exact .inr ⟨gi, rfl⟩
theorem parseOut_form {R : Except (Int × Int) Fl} {base : Nat} {e : Ending} {w' : World} (h : FParseOut R base e w') :
  ∃ A0 n0 c0 A1 n1 c1 A2 n2 c2 er, e = .returned (.tuple #[.agg #[.slice A0 n0 c0, .slice A1 n1 c1, .slice A2 n2 c2], er]) ∧ FlAt w' base (.slice A0 n0 c0) (.slice A1 n1 c1) (.slice A2 n2 c2) (resF R).1 ∧ ErAt w' er R := by
 cases R with
 | ok f =>
  obtain ⟨v0, v1, v2, rfl, h0, h1, h2⟩ := h
  have hf : FlAt w' base v0 v1 v2 f := ⟨h0, h1, h2⟩
  obtain ⟨A0, c0, A1, c1, A2, c2, rfl, rfl, rfl⟩ := hf.forms
  exact ⟨_, _, _, _, _, _, _, _, _, _, rfl, hf, rfl⟩
 | error x =>
  obtain ⟨gi, h1, h2⟩ := h
  exact ⟨_, _, _, _, _, _, _, _, _, _, h1, FlAt.nil _ _, gi, rfl, h2⟩
end Go.Proofs.YtnjjajanfedjiaaGreatDoor
namespace Go.Proofs.YtnjjajanfedjiaaGreatDoor
open Go.RowKit Go.BigFrame
theorem flat_at {size : Nat} : ∀ {us : List (List Value)} (_ : ∀ u ∈ us, u.length = size) (j : Nat) (h : j < us.length) (k : Nat), k < size → us.flatten[j * size + k]? = us[j][k]?
 | [], _, j, h, _, _ => absurd h (by simp)
 | u :: us, hu, 0, _, k, hk => by
  have h0 := hu u (by simp)
  rw [List.flatten_cons, Nat.zero_mul, Nat.zero_add, List.getElem?_append_left (by omega)]
  rfl
 | u :: us, hu, j + 1, h, k, hk => by
  have h0 := hu u (by simp)
  rw [List.flatten_cons, List.getElem?_append_right (by rw [h0, Nat.succ_mul]; omega), h0, show (j + 1) * size + k - size = j * size + k by rw [Nat.succ_mul]; omega]
  exact flat_at (fun u hm => hu u (List.mem_cons_of_mem _ hm)) j (by simpa using h) k hk
theorem lst_at {α : Type} {El : World → Nat → List Value → α → Prop} {e : TypeId} {size base m c : Nat} {W : World} {A : Option Addr} {l : List α} (h : LstIs El e size W base (.slice A m c) l) (hs : ∀ cs x, El W base cs x → cs.length = size) (j : Nat) (hj : j < l.length) :
  ∃ g cs, A = some ⟨g, 0, none⟩ ∧ g < W.heap.size ∧ El W base cs l[j] ∧ ∀ k u, cs[k]? = some u → W.cell? ⟨g, j * size + k, none⟩ = some u := by
 obtain ⟨us, h1, h2, h3⟩ := h
 obtain ⟨A', c', e1, h4⟩ := own_form h2
 injection e1 with e1 _ _
 subst e1
 obtain ⟨g, rfl, hg, h4⟩ := h4 (by omega)
 have hj' : j < us.length := by omega
 have hall : ∀ u ∈ us, u.length = size := fun u hu => by
  obtain ⟨i, hi, rfl⟩ := List.getElem_of_mem hu
  exact hs _ _ (h3 i (by omega) hi)
 refine ⟨g, us[j], rfl, hg, h3 j hj hj', fun k u hu => h4 _ _ ?_⟩
 have hk : k < size := by
  have := (List.getElem?_eq_some_iff.1 hu).1
  rw [hall _ (List.getElem_mem hj')] at this
  exact this
 rw [flat_at hall j hj' k hk]
 exact hu
theorem InEl.len {W : World} {base : Nat} : ∀ cs x, InEl W base cs x → cs.length = 3 := fun _ _ ⟨_, h, _⟩ => by rw [h]; rfl
theorem JbEl.len {W : World} {base : Nat} : ∀ cs x, JbEl W base cs x → cs.length = 15 := fun _ _ ⟨_, _, _, h, _⟩ => by rw [h]; rfl
theorem PbEl.len {W : World} {base : Nat} : ∀ cs x, PbEl W base cs x → cs.length = 3 := fun _ _ h => by rw [h]; rfl
end Go.Proofs.YtnjjajanfedjiaaGreatDoor
