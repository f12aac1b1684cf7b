/- A job that is being read by the reference's reader, in memory. The reference's body, code 0. The reference's body, code 1. -/
import Derived.Test.YtnjjajanfedjiaaGreatDoorFrdM18
set_option linter.unusedSimpArgs false
set_option linter.unusedVariables false
namespace Go.Proofs.YtnjjajanfedjiaaGreatDoor
open Go.RowKit Go.BigFrame
attribute [local go_sem] bs_size bs_extract bs_append bs_toList
section
variable {W W' W7 w0 : World} {base jb b g H cap m : Nat} {j : Jb} {v2 v3 v4 u : Value} {l : List Tk} {x : Option (Int × Int)} {a : Bs} {o : Obj}
theorem JbIs.rd (h : JbIs W base jb j v2 v3 v4) (hp : RdIs W b l x) (hk : Keeps [b] W W') : JbIs W' base jb j v2 v3 v4 :=
 h.far hk (fun x hx => by rw [List.mem_singleton.1 hx]; exact hp.ty) (by decide) (by decide)
theorem RdIs.box (hp : RdIs W b l x) (h : JbIs W base jb j v2 v3 v4) (hk : Keeps [jb] W W') : RdIs W' b l x :=
 hp.far hk (fun x hx => ⟨45, by rw [List.mem_singleton.1 hx]; exact h.blk.ty, by decide, by decide⟩)
theorem rd_grown (hp : RdIs W b l x) {v : Value} (hg : (W.alloc o).grownBy W7 v.ownBlock) (hv : ∀ x, v.ownBlock = some x → OfTy W x 9) : RdIs W7 b l x :=
 (hp.keep ((Keeps.refl _ _).alloc o)).grown hg (fun x hx => (hv x hx).keep ((Keeps.refl [] _).alloc o) (by simp)) (by decide) (by decide)
theorem JbIs.app3r (h : JbIs W base jb j v2 v3 v4) (hp : RdIs W b l x) (hk0 : Keeps [b] w0 W) (hb : base = w0.heap.size) (hjb : base ≤ jb) (hg : (W.alloc o).grownBy W7 v3.ownBlock) (hu : u = .slice (some ⟨g, 0, none⟩) m cap) (hown : W7.ownsRow base 9 1 u (j.ins.length + 1) (strs j.ins ++ [.string (bs a)])) (hat : v3.ownBlock = some g ∨ g = H) (hH : W.heap.size ≤ H) :
  JbIs (W7.setCell ⟨jb, 3, none⟩ u) base jb { j with ins := j.ins ++ [a] } v2 u v4 ∧ RdIs (W7.setCell ⟨jb, 3, none⟩ u) b l x ∧ Keeps [b] w0 (W7.setCell ⟨jb, 3, none⟩ u) := by
 have hbk := jb_grown h hg (own_ty h.o3)
 have hk : Keeps [jb] W7 (W7.setCell ⟨jb, 3, none⟩ u) := (Keeps.refl _ _).setCell (.inl (by simp)) _
 have hL : ∀ x ∈ [jb], OfTy W7 x 45 := fun x hx => by rw [List.mem_singleton.1 hx]; exact hbk.ty
 rw [← strs_snoc] at hown
 have hown' : W7.ownsRow base 9 1 u (j.ins ++ [a]).length (strs (j.ins ++ [a])) := by rw [List.length_append]; exact hown
 refine ⟨⟨(hbk.set 3 u).congr rfl, own_far (own_grow h.o2 hg h.n23) hk hL (by decide), own_far hown' hk hL (by decide), own_far (own_grow h.o4 hg h.n34.symm) hk hL (by decide), ?_, h.n24, ?_⟩, ?_, ?_⟩
 ·exact apart_app h.o2 h.n23 hu hat hH
 ·exact (apart_app h.o4 h.n34.symm hu hat hH).symm
 ·exact (rd_grown hp hg (own_ty h.o3)).far hk (fun x hx => ⟨45, hL x hx, by decide, by decide⟩)
 ·exact ((hk0.alloc o).grown hg (fun x hx => .inr (by rw [← hb]; exact (h.o3.lt x hx).1))).setCell (.inr (by rw [← hb]; exact hjb)) _
theorem JbIs.app4r (h : JbIs W base jb j v2 v3 v4) (hp : RdIs W b l x) (hk0 : Keeps [b] w0 W) (hb : base = w0.heap.size) (hjb : base ≤ jb) (hg : (W.alloc o).grownBy W7 v4.ownBlock) (hu : u = .slice (some ⟨g, 0, none⟩) m cap) (hown : W7.ownsRow base 9 1 u (j.cols.length + 1) (strs j.cols ++ [.string (bs a)])) (hat : v4.ownBlock = some g ∨ g = H) (hH : W.heap.size ≤ H) :
  JbIs (W7.setCell ⟨jb, 4, none⟩ u) base jb { j with cols := j.cols ++ [a] } v2 v3 u ∧ RdIs (W7.setCell ⟨jb, 4, none⟩ u) b l x ∧ Keeps [b] w0 (W7.setCell ⟨jb, 4, none⟩ u) := by
 have hbk := jb_grown h hg (own_ty h.o4)
 have hk : Keeps [jb] W7 (W7.setCell ⟨jb, 4, none⟩ u) := (Keeps.refl _ _).setCell (.inl (by simp)) _
 have hL : ∀ x ∈ [jb], OfTy W7 x 45 := fun x hx => by rw [List.mem_singleton.1 hx]; exact hbk.ty
 rw [← strs_snoc] at hown
 have hown' : W7.ownsRow base 9 1 u (j.cols ++ [a]).length (strs (j.cols ++ [a])) := by rw [List.length_append]; exact hown
 refine ⟨⟨(hbk.set 4 u).congr rfl, own_far (own_grow h.o2 hg h.n24) hk hL (by decide), own_far (own_grow h.o3 hg h.n34) hk hL (by decide), own_far hown' hk hL (by decide), h.n23, ?_, ?_⟩, ?_, ?_⟩
 ·exact apart_app h.o2 h.n24 hu hat hH
 ·exact apart_app h.o3 h.n34 hu hat hH
 ·exact (rd_grown hp hg (own_ty h.o4)).far hk (fun x hx => ⟨45, hL x hx, by decide, by decide⟩)
 ·exact ((hk0.alloc o).grown hg (fun x hx => .inr (by rw [← hb]; exact (h.o4.lt x hx).1))).setCell (.inr (by rw [← hb]; exact hjb)) _
end
theorem Rl.shift {α : Type} {P S : List Tk → Except (Int × Int) (α × List Tk)} {l l2 l' : List Tk} {x' : Option (Int × Int)} {a : α} (h : P l = S l2) (k : Rl S l2 none a l' x') : Rl P l none a l' x' := by
 cases x' with
 | none => exact ⟨rfl, h.trans k.2⟩
 | some y =>
  have : S l2 = .error y := k
  exact h.trans this
theorem oneP_same {ws us : List Bs} (h : ∀ t, t ∈ ws ↔ t ∈ us) (l : List Tk) : oneP ws l = oneP us l := by
 by_cases hm : (hdT l).text ∈ ws
 ·rw [oneP_must hm, oneP_must ((h _).1 hm)]
 ·rw [oneP_not hm, oneP_not (fun e => hm ((h _).2 e))]
theorem Rl.same {ws us : List Bs} (h : ∀ t, t ∈ ws ↔ t ∈ us) {l l' : List Tk} {x x' : Option (Int × Int)} {a : Bs} (k : Rl (oneP ws) l x a l' x') : Rl (oneP us) l x a l' x' := Rl.congr (oneP_same h l).symm k
theorem cmp_same : ∀ t : Bs, t ∈ [[61], [60, 62], [60], [60, 61], [62], [62, 61]] ↔ t ∈ cmpL := by
 intro t
 unfold cmpL
 simp only [List.mem_cons, List.not_mem_nil, or_false]
 constructor
 ·rintro (h | h | h | h | h | h) <;> simp [h]
 ·rintro (h | h | h | h | h | h) <;> simp [h]
def RbOut (P : List Tk → Except (Int × Int) (Jb × List Tk)) (l : List Tk) (b jb : Nat) (w0 w' : World) : Prop := ∃ j v2 v3 v4 l' x', JbIs w' w0.heap.size jb j v2 v3 v4 ∧ RdIs w' b l' x' ∧ Rl P l none j l' x' ∧ l'.length ≤ l.length ∧ Keeps [b] w0 w'
theorem RbOut.mk {P : List Tk → Except (Int × Int) (Jb × List Tk)} {l : List Tk} {b jb : Nat} {w0 w' : World} (j : Jb) (v2 v3 v4 : Value) (l' : List Tk) (x' : Option (Int × Int)) (h1 : JbIs w' w0.heap.size jb j v2 v3 v4) (h2 : RdIs w' b l' x') (h3 : Rl P l none j l' x') (h4 : l'.length ≤ l.length) (h5 : Keeps [b] w0 w') : RbOut P l b jb w0 w' := ⟨j, v2, v3, v4, l', x', h1, h2, h3, h4, h5⟩
theorem join_stage (j : Jb) (l : List Tk) : joinP j l = (nameP l >>= fun p0 => mustP [46] p0.2 >>= fun r1 => nameP r1 >>= fun p2 => mustP [44] p2.2 >>= fun r3 => nameP r3 >>= fun p4 => mustP [46] p4.2 >>= fun r5 => nameP r5 >>= fun p6 => .ok ({ j with ins := j.ins ++ [p0.1] ++ [p4.1], cols := j.cols ++ [p2.1] ++ [p6.1] }, p6.2)) := by
 unfold joinP
 conv => lhs; arg 1; unfold ofP
 rcases nameP l with x | ⟨a, r0⟩
 ·rfl
 simp only [ok_bind]
 rcases mustP [46] r0 with x | r1
 ·rfl
 simp only [ok_bind]
 rcases nameP r1 with x | ⟨c, r2⟩
 ·rfl
 simp only [ok_bind]
 rcases mustP [44] r2 with x | r3
 ·rfl
 simp only [ok_bind]
 rfl
def refWords : List Bs := [[102, 105, 108, 116, 101, 114], [115, 101, 116], [112, 114, 111, 106, 101, 99, 116], [115, 111, 114, 116], [117, 110, 105, 111, 110], [100, 105, 115, 116, 105, 110, 99, 116], [106, 111, 105, 110], [103, 114, 111, 117, 112], [115, 112, 108, 105, 116]]
def codeR (c r : Nat) : Nat := if c ≤ r then c else 0
theorem codeR_yes {c r : Nat} (h : c = r + 1) : codeR c (r + 1) = r + 1 := by unfold codeR; rw [if_pos (by omega)]; exact h
theorem codeR_no {c r : Nat} (h : c ≠ r + 1) : codeR c (r + 1) = codeR c r := by
 unfold codeR
 by_cases h1 : c ≤ r
 ·rw [if_pos h1, if_pos (by omega)]
 ·rw [if_neg h1, if_neg (by omega)]
theorem wordIx_ref (r : Nat) (hr : r < refWords.length) : wordIx refWords[r] = r + 1 := by
 have h : ∀ r : Fin 9, wordIx (refWords[r.val]'r.isLt) = r.val + 1 := by decide
 exact h ⟨r, hr⟩
theorem ref_letter (r : Nat) (hr : r < refWords.length) : letC (refWords[r].headD 0) = true := by
 have h : ∀ r : Fin 9, letC ((refWords[r.val]'r.isLt).headD 0) = true := by decide
 exact h ⟨r, hr⟩
theorem ref_word (c : Nat) (hc : c ≠ 0) (h9 : c < 10) : ∃ r, ∃ hr : r < refWords.length, c = r + 1 ∧ wordsL.getD c [] = refWords[r] := by
 have h : ∀ r : Fin 9, wordsL.getD (r.val + 1) [] = refWords[r.val]'r.isLt := by decide
 obtain ⟨r, rfl⟩ : ∃ r, c = r + 1 := ⟨c - 1, by omega⟩
 exact ⟨r, by show r < 9; omega, rfl, h ⟨r, by omega⟩⟩
theorem see_word {l : List Tk} (ht : TkR (hdT l)) (r : Nat) (hr : r < refWords.length) : seeP refWords[r] l = decide (wordIx (hdT l).text = r + 1) := by
 by_cases h : wordIx (hdT l).text = r + 1
 ·obtain ⟨r', hr', e, hw⟩ := ref_word (wordIx (hdT l).text) (by omega) (wordIx_lt _)
  have er : r' = r := by omega
  subst er
  have htx := (wordIx_text rfl (show wordIx (hdT l).text ≠ 0 by omega)).trans hw
  have hk : (hdT l).kind = 1 := by
   by_cases hk : (hdT l).kind = 1
   ·exact hk
   ·have := ht.2.2 hk
    rw [htx, ref_letter r' hr] at this
    cases this
  rw [decide_eq_true h]
  unfold seeP
  rw [hk, htx]
  simp
 ·rw [decide_eq_false h]
  unfold seeP
  have : ((hdT l).text == refWords[r]) = false := by
   rw [beq_eq_false_iff_ne]
   intro e
   exact h (by rw [e]; exact wordIx_ref r hr)
  rw [this, Bool.and_false]
theorem word_kind {l : List Tk} (ht : TkR (hdT l)) (hc : wordIx (hdT l).text ≠ 0) : (hdT l).kind = 1 := by
 obtain ⟨r, hr, e, _⟩ := ref_word _ hc (wordIx_lt _)
 have h := see_word ht r hr
 rw [decide_eq_true e] at h
 by_cases hk : (hdT l).kind = 1
 ·exact hk
 ·have h2 := ht.2.2 hk
  unfold seeP at h
  simp only [Bool.and_eq_true, beq_iff_eq] at h
  rw [h.2, ref_letter r hr] at h2
  cases h2
theorem split_words (m : Int) (w : World) (hm : w.cell? ⟨5, 0, none⟩ = some (.int .i64 m)) : Calls Tryz.prog 43 #[.string (bs [102, 105, 108, 116, 101, 114, 32, 115, 101, 116, 32, 112, 114, 111, 106, 101, 99, 116, 32, 115, 111, 114, 116, 32, 117, 110, 105, 111, 110, 32, 100, 105, 115, 116, 105, 110, 99, 116, 32, 106, 111, 105, 110, 32, 103, 114, 111, 117, 112, 32, 115, 112, 108, 105, 116]), .string (bs [32])] w fun e w' => e = .returned (.slice (some ⟨w.heap.size, 0, none⟩) 9 9) ∧ w' = w.alloc (.cells (strs refWords).toArray 9) := by
 have h := Tryz.strings_Split (bs [102, 105, 108, 116, 101, 114, 32, 115, 101, 116, 32, 112, 114, 111, 106, 101, 99, 116, 32, 115, 111, 114, 116, 32, 117, 110, 105, 111, 110, 32, 100, 105, 115, 116, 105, 110, 99, 116, 32, 106, 111, 105, 110, 32, 103, 114, 111, 117, 112, 32, 115, 112, 108, 105, 116]) (bs [32]) m w (by decide) hm (by decide)
 have e1 : Lib.countB (bs [102, 105, 108, 116, 101, 114, 32, 115, 101, 116, 32, 112, 114, 111, 106, 101, 99, 116, 32, 115, 111, 114, 116, 32, 117, 110, 105, 111, 110, 32, 100, 105, 115, 116, 105, 110, 99, 116, 32, 106, 111, 105, 110, 32, 103, 114, 111, 117, 112, 32, 115, 112, 108, 105, 116]) (bs [32]) = 8 := by kernel_rfl
 have e2 : (Lib.splitB (bs [32]) 0 8 (bs [102, 105, 108, 116, 101, 114, 32, 115, 101, 116, 32, 112, 114, 111, 106, 101, 99, 116, 32, 115, 111, 114, 116, 32, 117, 110, 105, 111, 110, 32, 100, 105, 115, 116, 105, 110, 99, 116, 32, 106, 111, 105, 110, 32, 103, 114, 111, 117, 112, 32, 115, 112, 108, 105, 116])).map Value.string = strs refWords := by kernel_rfl
 rw [e1, e2] at h
 exact h
end Go.Proofs.YtnjjajanfedjiaaGreatDoor
namespace Go.Proofs.YtnjjajanfedjiaaGreatDoor
open Go.RowKit Go.BigFrame
attribute [local go_sem] bs_size bs_extract bs_append bs_toList
set_option maxRecDepth 100000 in
set_option maxHeartbeats 8000000 in
theorem rbody_0 {l : List Tk} {b jb lo : Nat} {v2 : Value} (at_ : Int) (outs : List Bs) (retry : Int) (w0 w : World) (hE : RB w0 lo) (hlo : lo ≤ b) (h : RdIs w b l none) (hk : Keeps [b] w0 w) (hjb : w0.heap.size ≤ jb) (hj : JbIs w w0.heap.size jb (job0 at_ outs retry) v2 (.slice none 0 0) (.slice none 0 0)) (hll : l.length ≤ 1000000) (hcc : wordIx (hdT l).text = 0) :
  Calls Tryz.prog 71 #[.pointer (some ⟨b, 0, none⟩), .pointer (some ⟨jb, 0, none⟩)] w fun e w' => e = .returned (.tuple #[]) ∧ RbOut (bodyP (job0 at_ outs retry)) l b jb w0 w' := by
 obtain ⟨i0, hi, hz0, hz1, hz2⟩ := info_parts sinf
 have HE0 := Lib.hid hE
 have HP := Lib.hid h
 have HK := Lib.hid hk
 have HJ : Hid (JbIs w w0.heap.size jb (⟨at_, 0, outs, [], [], [], ⟨[], zV⟩, ⟨[], zV⟩, retry⟩ : Jb) v2 (.slice none 0 0) (.slice none 0 0)) := Lib.hid hj
 have HE := Lib.hid (hE.one hlo hk)
 have HJB := Lib.hid hjb
 have HLL := Lib.hid hll
 have HLQ := Lib.hid (Nat.le_refl l.length)
 have htk : TkR (hdT l) := by obtain ⟨_, _, _, _, _, _, _, _, _, _, _, _, _, _, _, _, hh⟩ := h.open'; exact hh
 have HSW := Lib.hid (fun r hr => see_word htk r hr)
 have HCC := Lib.hid hcc
 have hlI : Hid (([] : List Bs).length ≤ 100) := Lib.hid (by simp)
 have HD : Hid (∀ i l', Rl (bodyP (job0 at_ outs retry)) l none i l' (some (3, (hdT l).at_))) := Lib.hid (fun i l' => by
  show bodyP (job0 at_ outs retry) l = _
  unfold bodyP
  rw [if_pos (.inl hcc)]
  rfl)
 clear hE h hk hj hll hjb hcc htk
 obtain ⟨mx, hmx⟩ := HE.out.renv.mlen
 have HSP := Lib.hid (split_words mx w hmx)
 clear hmx
 go_enter Tryz.func71, Tryz.ntmps71
 go_wp2_with fail
 refine HSP.out.mono ?_
 rintro ev w1 ⟨rfl, rfl⟩
 have hbk := Blk.new w 9 (strs refWords).toArray
 have hal : Keeps [] w (w.alloc (.cells (strs refWords).toArray 9)) := (Keeps.refl _ _).alloc _
 have HP' := Lib.hid (HP.out.keep hal)
 have HJ' := Lib.hid (HJ.out.keep hal)
 have HK' := Lib.hid (HK.out.trans hal.of_nil)
 obtain ⟨B, hB⟩ : ∃ B, w.heap.size = B := ⟨_, rfl⟩
 have HBB : Hid (B ≠ b ∧ jb ≠ B) := Lib.hid (by have := HP.out.lt; have := HJ.out.blk.lt; omega)
 rw [hB] at hbk ⊢
 obtain ⟨w1, hw1⟩ : ∃ z, w.alloc (.cells (strs refWords).toArray 9) = z := ⟨_, rfl⟩
 rw [hw1] at hbk HP' HJ' HK' ⊢
 have HBK := Lib.hid hbk
 clear hbk hal hB hw1 HP HJ HK HE HSP
 go_wp2_with fail
 go_loopw [8] (fun i wr => ∃ r : Nat, r ≤ 9 ∧ i = .int .i64 r ∧ Hid (RdIs wr b l none) ∧ Hid (JbIs wr w0.heap.size jb (⟨at_, (codeR 0 r : Nat), outs, [], [], [], ⟨[], zV⟩, ⟨[], zV⟩, retry⟩ : Jb) v2 (.slice none 0 0) (.slice none 0 0)) ∧ Hid (Blk wr B 9 (strs refWords).toArray) ∧ Hid (Keeps [b] w0 wr)) (fun i _ => 9 - (intOf i).toNat)
 case atStart => exact ⟨0, Nat.zero_le _, rfl, HP', HJ', HBK, HK'⟩
 case round =>
  clear HP' HJ' HK' HBK
  obtain ⟨r, hr, rfl, HP, HJ, HBK, HK⟩ := hrel
  have HE := Lib.hid (HE0.out.one hlo HK.out)
  by_cases hrl : r < 9
  ·have hri : (r : Int) < 9 := by omega
   have hr9 : r < refWords.length := hrl
   have hcl : wr.cell? ⟨B, r, none⟩ = some (.string (bs refWords[r])) := by
    rw [HBK.out.cell r]
    simp [strs, List.getElem?_eq_getElem hr9]
   have lb := HBK.out.lt
   have hS := rsee_any refWords[r] wr HE.out.fine HP.out
   rw [HSW.out r hr9, HCC.out] at hS
   obtain ⟨wd, hwd⟩ : ∃ wd, refWords[r] = wd := ⟨_, rfl⟩
   rw [hwd] at hS hcl
   clear hwd hr9
   by_cases hc : (0 : Nat) = r + 1
   ·rw [decide_eq_true hc] at hS
    have HS := Lib.hid hS
    have HCY : Hid (((r : Int) + 1) = (codeR 0 (r + 1) : Nat)) := Lib.hid (by rw [codeR_yes hc]; omega)
    clear hS hc
    go_wp2_with fail
    refine HS.out.mono ?_
    rintro ev w2 ⟨hev, hk⟩
    have hev' : ev = .returned (.bool true) := hev
    subst hev'
    have HP2 := Lib.hid (HP.out.keep hk)
    have HJ2 := Lib.hid (HJ.out.keep hk)
    have HB2 := Lib.hid (HBK.out.keep hk (by simp))
    have HK2 := Lib.hid (HK.out.trans hk.of_nil)
    have jf1 := HJ2.out.blk.frozen 1
    have jc1 : w2.cell? ⟨jb, 1, none⟩ = some (.int .i64 (codeR 0 r : Nat)) := HJ2.out.blk.cell 1
    have lj := HJ2.out.blk.lt
    clear hev hk HP HJ HBK HK HS hcl lb
    have hkb : Keeps [jb] w2 (w2.setCell ⟨jb, 1, none⟩ (.int .i64 ((r : Int) + 1))) := (Keeps.refl _ _).setCell (.inl (by simp)) _
    have HJ3 : Hid (JbIs (w2.setCell ⟨jb, 1, none⟩ (.int .i64 ((r : Int) + 1))) w0.heap.size jb (⟨at_, (codeR 0 (r + 1) : Nat), outs, [], [], [], ⟨[], zV⟩, ⟨[], zV⟩, retry⟩ : Jb) v2 (.slice none 0 0) (.slice none 0 0)) := Lib.hid (HJ2.out.box hkb ((HJ2.out.blk.set 1 (.int .i64 ((r : Int) + 1))).congr (by rw [HCY.out]; rfl)) rfl rfl rfl)
    have HP3 := Lib.hid (HP2.out.box HJ2.out hkb)
    have HK3 := Lib.hid (HK2.out.box HJB.out hkb)
    have HB3 := Lib.hid (HB2.out.far (p := ⟨jb, 1, none⟩) (fun e => HBB.out.2 e.symm) (.int .i64 ((r : Int) + 1)))
    clear hkb
    go_wp2
    go_roundw
    case rel => exact ⟨r + 1, by omega, by go_num, HP3, HJ3, HB3, HK3⟩
    case measure => simp [intOf]; omega
   ·rw [decide_eq_false hc] at hS
    have HS := Lib.hid hS
    have HCN : Hid (codeR 0 (r + 1) = codeR 0 r) := Lib.hid (codeR_no hc)
    clear hS hc
    go_wp2_with fail
    refine HS.out.mono ?_
    rintro ev w2 ⟨hev, hk⟩
    have hev' : ev = .returned (.bool false) := hev
    subst hev'
    have HP2 := Lib.hid (HP.out.keep hk)
    have HJ2 := Lib.hid (HJ.out.keep hk)
    have HB2 := Lib.hid (HBK.out.keep hk (by simp))
    have HK2 := Lib.hid (HK.out.trans hk.of_nil)
    clear hev hk HP HJ HBK HK HS hcl lb
    go_wp2
    go_roundw
    case rel => exact ⟨r + 1, by omega, by go_num, HP2, by rw [HCN.out]; exact HJ2, HB2, HK2⟩
    case measure => simp [intOf]; omega
  ·obtain rfl : r = 9 := by omega
   have HJ' : Hid (JbIs wr w0.heap.size jb (⟨at_, 0, outs, [], [], [], ⟨[], zV⟩, ⟨[], zV⟩, retry⟩ : Jb) v2 (.slice none 0 0) (.slice none 0 0)) := Lib.hid HJ.out
   clear HJ HBK hr hrl
   have HJ := HJ'
   clear HJ'
   have jc1 : wr.cell? ⟨jb, 1, none⟩ = some (.int .i64 0) := HJ.out.blk.cell 1
   have lj := HJ.out.blk.lt
   go_wp2_with fail
   refine (rfails_any 3 (by decide) wr HE.out.fine HP.out).mono ?_
   rintro ev y1 ⟨rfl, hp, hk⟩
   have HJ2 := Lib.hid (HJ.out.rd HP.out hk)
   have HK2 := Lib.hid (HK.out.trans hk)
   have HP2 := Lib.hid hp
   clear hp hk jc1 lj
   go_wp2
   first | go_end0 | refine bodyPost_ret (results_none rfl _ _ _) rfl ?_
   exact ⟨rfl, RbOut.mk _ _ _ _ l _ HJ2.out HP2.out (HD.out _ _) HLQ.out HK2.out⟩
end Go.Proofs.YtnjjajanfedjiaaGreatDoor
namespace Go.Proofs.YtnjjajanfedjiaaGreatDoor
open Go.RowKit Go.BigFrame
attribute [local go_sem] bs_size bs_extract bs_append bs_toList
set_option maxRecDepth 100000 in
set_option maxHeartbeats 8000000 in
theorem rbody_1 {l : List Tk} {b jb lo : Nat} {v2 : Value} (at_ : Int) (outs : List Bs) (retry : Int) (w0 w : World) (hE : RB w0 lo) (hlo : lo ≤ b) (h : RdIs w b l none) (hk : Keeps [b] w0 w) (hjb : w0.heap.size ≤ jb) (hj : JbIs w w0.heap.size jb (job0 at_ outs retry) v2 (.slice none 0 0) (.slice none 0 0)) (hll : l.length ≤ 1000000) (hcc : wordIx (hdT l).text = 1) :
  Calls Tryz.prog 71 #[.pointer (some ⟨b, 0, none⟩), .pointer (some ⟨jb, 0, none⟩)] w fun e w' => e = .returned (.tuple #[]) ∧ RbOut (bodyP (job0 at_ outs retry)) l b jb w0 w' := by
 obtain ⟨i0, hi, hz0, hz1, hz2⟩ := info_parts sinf
 have HE0 := Lib.hid hE
 have HP := Lib.hid h
 have HK := Lib.hid hk
 have HJ : Hid (JbIs w w0.heap.size jb (⟨at_, 0, outs, [], [], [], ⟨[], zV⟩, ⟨[], zV⟩, retry⟩ : Jb) v2 (.slice none 0 0) (.slice none 0 0)) := Lib.hid hj
 have HE := Lib.hid (hE.one hlo hk)
 have HJB := Lib.hid hjb
 have HLL := Lib.hid hll
 have HLQ := Lib.hid (Nat.le_refl l.length)
 have htk : TkR (hdT l) := by obtain ⟨_, _, _, _, _, _, _, _, _, _, _, _, _, _, _, _, hh⟩ := h.open'; exact hh
 have HSW := Lib.hid (fun r hr => see_word htk r hr)
 have HCC := Lib.hid hcc
 have hlI : Hid (([] : List Bs).length ≤ 100) := Lib.hid (by simp)
 have hkd := word_kind htk (by rw [hcc]; decide)
 have HIM : Hid (∀ i l' x', Rl (fun r => nameP r >>= fun p0 => (fun r => mustP [119, 104, 101, 114, 101] r >>= (fun r => nameP r >>= fun p2 => (fun r => oneP cmpL r >>= fun p3 => (fun r => argP r >>= fun p4 => (fun r => .ok ((⟨at_, 1, outs, [] ++ [p0.1], [], p3.1, ⟨p2.1, zV⟩, p4.1, retry⟩ : Jb), r)) p4.2) p3.2) p2.2)) p0.2) l.tail none i l' x' → Rl (bodyP (job0 at_ outs retry)) l none i l' x') := Lib.hid (fun i l' x' hq => Rl.shift (by
  unfold bodyP
  rw [hcc, if_neg (by rw [hkd]; decide)]
  rfl) hq)
 have htx : (hdT l).text = [102, 105, 108, 116, 101, 114] := wordIx_text hcc (by decide)
 have hse : seeP [102, 105, 108, 116, 101, 114] l = true := by
  unfold seeP
  rw [hkd, htx]
  rfl
 have HSE := Lib.hid hse
 have HTX := Lib.hid htx
 clear hE h hk hj hll hjb hcc htk hkd hse htx
 obtain ⟨mx, hmx⟩ := HE.out.renv.mlen
 have HSP := Lib.hid (split_words mx w hmx)
 clear hmx
 go_enter Tryz.func71, Tryz.ntmps71
 go_wp2_with fail
 refine HSP.out.mono ?_
 rintro ev w1 ⟨rfl, rfl⟩
 have hbk := Blk.new w 9 (strs refWords).toArray
 have hal : Keeps [] w (w.alloc (.cells (strs refWords).toArray 9)) := (Keeps.refl _ _).alloc _
 have HP' := Lib.hid (HP.out.keep hal)
 have HJ' := Lib.hid (HJ.out.keep hal)
 have HK' := Lib.hid (HK.out.trans hal.of_nil)
 obtain ⟨B, hB⟩ : ∃ B, w.heap.size = B := ⟨_, rfl⟩
 have HBB : Hid (B ≠ b ∧ jb ≠ B) := Lib.hid (by have := HP.out.lt; have := HJ.out.blk.lt; omega)
 rw [hB] at hbk ⊢
 obtain ⟨w1, hw1⟩ : ∃ z, w.alloc (.cells (strs refWords).toArray 9) = z := ⟨_, rfl⟩
 rw [hw1] at hbk HP' HJ' HK' ⊢
 have HBK := Lib.hid hbk
 clear hbk hal hB hw1 HP HJ HK HE HSP
 go_wp2_with fail
 go_loopw [8] (fun i wr => ∃ r : Nat, r ≤ 9 ∧ i = .int .i64 r ∧ Hid (RdIs wr b l none) ∧ Hid (JbIs wr w0.heap.size jb (⟨at_, (codeR 1 r : Nat), outs, [], [], [], ⟨[], zV⟩, ⟨[], zV⟩, retry⟩ : Jb) v2 (.slice none 0 0) (.slice none 0 0)) ∧ Hid (Blk wr B 9 (strs refWords).toArray) ∧ Hid (Keeps [b] w0 wr)) (fun i _ => 9 - (intOf i).toNat)
 case atStart => exact ⟨0, Nat.zero_le _, rfl, HP', HJ', HBK, HK'⟩
 case round =>
  clear HP' HJ' HK' HBK
  obtain ⟨r, hr, rfl, HP, HJ, HBK, HK⟩ := hrel
  have HE := Lib.hid (HE0.out.one hlo HK.out)
  by_cases hrl : r < 9
  ·have hri : (r : Int) < 9 := by omega
   have hr9 : r < refWords.length := hrl
   have hcl : wr.cell? ⟨B, r, none⟩ = some (.string (bs refWords[r])) := by
    rw [HBK.out.cell r]
    simp [strs, List.getElem?_eq_getElem hr9]
   have lb := HBK.out.lt
   have hS := rsee_any refWords[r] wr HE.out.fine HP.out
   rw [HSW.out r hr9, HCC.out] at hS
   obtain ⟨wd, hwd⟩ : ∃ wd, refWords[r] = wd := ⟨_, rfl⟩
   rw [hwd] at hS hcl
   clear hwd hr9
   by_cases hc : (1 : Nat) = r + 1
   ·rw [decide_eq_true hc] at hS
    have HS := Lib.hid hS
    have HCY : Hid (((r : Int) + 1) = (codeR 1 (r + 1) : Nat)) := Lib.hid (by rw [codeR_yes hc]; omega)
    clear hS hc
    go_wp2_with fail
    refine HS.out.mono ?_
    rintro ev w2 ⟨hev, hk⟩
    have hev' : ev = .returned (.bool true) := hev
    subst hev'
    have HP2 := Lib.hid (HP.out.keep hk)
    have HJ2 := Lib.hid (HJ.out.keep hk)
    have HB2 := Lib.hid (HBK.out.keep hk (by simp))
    have HK2 := Lib.hid (HK.out.trans hk.of_nil)
    have jf1 := HJ2.out.blk.frozen 1
    have jc1 : w2.cell? ⟨jb, 1, none⟩ = some (.int .i64 (codeR 1 r : Nat)) := HJ2.out.blk.cell 1
    have lj := HJ2.out.blk.lt
    clear hev hk HP HJ HBK HK HS hcl lb
    have hkb : Keeps [jb] w2 (w2.setCell ⟨jb, 1, none⟩ (.int .i64 ((r : Int) + 1))) := (Keeps.refl _ _).setCell (.inl (by simp)) _
    have HJ3 : Hid (JbIs (w2.setCell ⟨jb, 1, none⟩ (.int .i64 ((r : Int) + 1))) w0.heap.size jb (⟨at_, (codeR 1 (r + 1) : Nat), outs, [], [], [], ⟨[], zV⟩, ⟨[], zV⟩, retry⟩ : Jb) v2 (.slice none 0 0) (.slice none 0 0)) := Lib.hid (HJ2.out.box hkb ((HJ2.out.blk.set 1 (.int .i64 ((r : Int) + 1))).congr (by rw [HCY.out]; rfl)) rfl rfl rfl)
    have HP3 := Lib.hid (HP2.out.box HJ2.out hkb)
    have HK3 := Lib.hid (HK2.out.box HJB.out hkb)
    have HB3 := Lib.hid (HB2.out.far (p := ⟨jb, 1, none⟩) (fun e => HBB.out.2 e.symm) (.int .i64 ((r : Int) + 1)))
    clear hkb
    go_wp2
    go_roundw
    case rel => exact ⟨r + 1, by omega, by go_num, HP3, HJ3, HB3, HK3⟩
    case measure => simp [intOf]; omega
   ·rw [decide_eq_false hc] at hS
    have HS := Lib.hid hS
    have HCN : Hid (codeR 1 (r + 1) = codeR 1 r) := Lib.hid (codeR_no hc)
    clear hS hc
    go_wp2_with fail
    refine HS.out.mono ?_
    rintro ev w2 ⟨hev, hk⟩
    have hev' : ev = .returned (.bool false) := hev
    subst hev'
    have HP2 := Lib.hid (HP.out.keep hk)
    have HJ2 := Lib.hid (HJ.out.keep hk)
    have HB2 := Lib.hid (HBK.out.keep hk (by simp))
    have HK2 := Lib.hid (HK.out.trans hk.of_nil)
    clear hev hk HP HJ HBK HK HS hcl lb
    go_wp2
    go_roundw
    case rel => exact ⟨r + 1, by omega, by go_num, HP2, by rw [HCN.out]; exact HJ2, HB2, HK2⟩
    case measure => simp [intOf]; omega
  ·obtain rfl : r = 9 := by omega
   have HJ' : Hid (JbIs wr w0.heap.size jb (⟨at_, 1, outs, [], [], [], ⟨[], zV⟩, ⟨[], zV⟩, retry⟩ : Jb) v2 (.slice none 0 0) (.slice none 0 0)) := Lib.hid HJ.out
   clear HJ HBK hr hrl
   have HJ := HJ'
   clear HJ'
   have jc1 : wr.cell? ⟨jb, 1, none⟩ = some (.int .i64 1) := HJ.out.blk.cell 1
   have lj := HJ.out.blk.lt
   obtain ⟨g, o, c, c0, c1, c2, -, lb, lg, -, hn, hc, hc2, k0, k1, k2, -⟩ := HP.out.open'
   rw [HTX.out] at k1
   have hn2 : (0 : Int) < (l.length : Int) := by omega
   have HC := Lib.hid (rmust_any [102, 105, 108, 116, 101, 114] wr HE.out.fine (HE.out.fne hlo) HP.out)
   go_wp2_with fail
   refine HC.out.mono ?_
   rintro ev y1 ⟨rfl, ⟨q1, x1, hp, hr, hll'⟩, hk⟩
   obtain ⟨rfl, rfl⟩ := must_seen hr HSE.out
   clear hr c0 c1 c2 lb lg hn hc hc2 k0 k1 k2 hn2 jc1 lj HSE HTX HSW HCC
   have HJ' := Lib.hid (HJ.out.rd HP.out hk)
   have HK' := Lib.hid (HK.out.trans hk)
   have HE' := Lib.hid (HE.out.one hlo hk)
   have HP' := Lib.hid hp
   clear HJ HK HE HP hk hp HC
   have HJ := HJ'
   have HK := HK'
   have HE := HE'
   have HP := HP'
   clear HJ' HK' HE' HP'
   have HLR := Lib.hid (Nat.le_trans hll' HLQ.out)
   clear hll' HLQ
   have HLQ := HLR
   clear HLR
   obtain ⟨q1, hq1⟩ : ∃ q1, l.tail = q1 := ⟨_, rfl⟩
   rw [hq1] at HP HIM HLQ
   clear hq1
   go_upto_region 9 with (fail)
   have fS : y1.cell? ⟨jb, 3, none⟩ = some (.slice none 0 0) ∧ y1.frozen? ⟨jb, 3, none⟩ = false := ⟨HJ.out.blk.cell 3, HJ.out.blk.frozen 3⟩
   have lj := HJ.out.blk.lt
   have hbd := Lib.hid (show (([] : List Bs)).length + 1 ≤ maxLen ∧ ((([] : List Bs)).length + 1) * 16 ≤ 140737488355328 by have := hlI.out; simp only [maxLen, List.length_cons, List.length_nil] at *; omega)
   have HNE : Hid (jb ∉ [b]) := Lib.hid (by have := HJ.out.blk.ty.ne HP.out.ty (by decide); simpa using this)
   have HC : Hid (∀ W, Keeps [] y1 W → Calls Tryz.prog 32 #[.pointer (some ⟨b, 0, none⟩)] W fun e w' => ∃ s l' x', e = .returned (.string (bs s)) ∧ RdIs w' b l' x' ∧ Rl nameP q1 none s l' x' ∧ s.length ≤ 10 ∧ l'.length ≤ q1.length ∧ Keeps [b] W w') := Lib.hid (fun W z => rname_any W (HE.out.quiet z).fine (HE.out.fne hlo) (HP.out.keep z))
   go_cut [] (fun wx => ∃ a2 q2 x2 vz2, JbIs wx w0.heap.size jb (⟨at_, 1, outs, [] ++ [a2], [], [], ⟨[], zV⟩, ⟨[], zV⟩, retry⟩ : Jb) v2 vz2 (.slice none 0 0) ∧ RdIs wx b q2 x2 ∧ Rl nameP q1 none a2 q2 x2 ∧ q2.length ≤ q1.length ∧ Keeps [b] w0 wx)
   case first =>
    go_region_law (first | (refine step_append_lies _ (by rfl) _ _ _ (by rfl) w0.heap.size 9 i0 _ 1 16 Tryz.underlying39 hi hz0 hz1 hz2 rfl (by decide) (.slice none 0 0) (([] : List Bs)).length (strs (([] : List Bs))) (by rfl) ((HJ.out.rd HP.out hk6.undrew).o3.alloc _) ⟨w6.heap.size, 0, none⟩ 1 1 [.string (bs a2)] (by rfl) rfl (World.news_of_block (heap_alloc_new _ _)) (by simp [Value.oneCell']) (by decide) hbd.out.1 hbd.out.2 (by have := HK.out.size; have := hk6.size; have h9 : y1.drew.heap.size = y1.heap.size := rfl; simp; omega) _ rfl ?_; intro gw cap w7 hown7 hgrow7 hat7 hlt7; obtain ⟨fS7, fZ7⟩ := fld_grown hgrow7 (fld_alloc ⟨fS6, fZ6⟩ _) (fun e => (own_ty (HJ.out.rd HP.out hk6.undrew).o3 jb e).ne (HJ.out.rd HP.out hk6.undrew).blk.ty (by decide) rfl)) | (go_simp; go_at_call 32; refine (HC.out _ (Keeps.refl [] y1).drew).mono ?_; rintro e w6 ⟨a2, q2, x2, rfl, hp6, hr6, hs6, hll6, hk6⟩; obtain ⟨fS6, fZ6⟩ := fld_keeps hk6 fS HNE.out; have gl6 : jb < w6.heap.size := World.block_lt_of_cell? w6 ⟨jb, 3, none⟩ fS6))
    all_goals
     go_wp2
     go_meet
     have hh := JbIs.app3r (HJ.out.rd HP.out hk6.undrew) hp6 (HK.out.trans hk6.undrew) rfl HJB.out hgrow7 rfl hown7 hat7 (by simp)
     exact ⟨a2, q2, x2, _, hh.1, hh.2.1, hr6, hll6, hh.2.2⟩
   case rest =>
    obtain ⟨a2, q2, x2, vz2, hj, hp, hr, hll', hk⟩ := hcut
    obtain ⟨y2, rfl⟩ : ∃ y : World, y = wc := ⟨_, rfl⟩
    clear HP HJ HK HE HC fS lj hbd HNE
    have HP := Lib.hid hp
    have HJ := Lib.hid hj
    have HK := Lib.hid hk
    have HE := Lib.hid (HE0.out.one hlo hk)
    clear hp hj hk
    have HIM' : Hid (∀ i l' x', Rl (fun r => mustP [119, 104, 101, 114, 101] r >>= (fun r => nameP r >>= fun p2 => (fun r => oneP cmpL r >>= fun p3 => (fun r => argP r >>= fun p4 => (fun r => .ok ((⟨at_, 1, outs, [] ++ [a2], [], p3.1, ⟨p2.1, zV⟩, p4.1, retry⟩ : Jb), r)) p4.2) p3.2) p2.2)) q2 x2 i l' x' → Rl (bodyP (job0 at_ outs retry)) l none i l' x') := Lib.hid (fun i l' x' hq => HIM.out i l' x' (Rl.bind (Q := fun a => fun r => mustP [119, 104, 101, 114, 101] r >>= (fun r => nameP r >>= fun p2 => (fun r => oneP cmpL r >>= fun p3 => (fun r => argP r >>= fun p4 => (fun r => .ok ((⟨at_, 1, outs, [] ++ [a], [], p3.1, ⟨p2.1, zV⟩, p4.1, retry⟩ : Jb), r)) p4.2) p3.2) p2.2)) hr hq))
    clear HIM hr
    have HIM := HIM'
    clear HIM'
    have HLR := Lib.hid (Nat.le_trans hll' HLQ.out)
    clear hll' HLQ
    have HLQ := HLR
    clear HLR
    have HLN : Hid (([] ++ [a2]).length ≤ 101) := Lib.hid (by have := hlI.out; simp only [List.length_append, List.length_cons, List.length_nil] at *; omega)
    obtain ⟨il2, hil⟩ : ∃ il, [] ++ [a2] = il := ⟨_, rfl⟩
    rw [hil] at HJ HIM HLN
    clear hil hlI
    have hlI := HLN
    clear HLN
    have jc1 : y2.cell? ⟨jb, 1, none⟩ = some (.int .i64 1) := HJ.out.blk.cell 1
    have lj := HJ.out.blk.lt
    have HC := Lib.hid (rmust_any [119, 104, 101, 114, 101] y2 HE.out.fine (HE.out.fne hlo) HP.out)
    go_wp2_with fail
    refine HC.out.mono ?_
    rintro ev y3 ⟨rfl, ⟨q3, x3, hp, hr, hll'⟩, hk⟩
    have HIM' : Hid (∀ i l' x', Rl (fun r => nameP r >>= fun p2 => (fun r => oneP cmpL r >>= fun p3 => (fun r => argP r >>= fun p4 => (fun r => .ok ((⟨at_, 1, outs, il2, [], p3.1, ⟨p2.1, zV⟩, p4.1, retry⟩ : Jb), r)) p4.2) p3.2) p2.2) q3 x3 i l' x' → Rl (bodyP (job0 at_ outs retry)) l none i l' x') := Lib.hid (fun i l' x' hq => HIM.out i l' x' (Rl.must hr hq))
    clear HIM hr
    have HIM := HIM'
    clear HIM'
    have HJ' := Lib.hid (HJ.out.rd HP.out hk)
    have HK' := Lib.hid (HK.out.trans hk)
    have HE' := Lib.hid (HE.out.one hlo hk)
    have HP' := Lib.hid hp
    clear HJ HK HE HP hk hp HC
    have HJ := HJ'
    have HK := HK'
    have HE := HE'
    have HP := HP'
    clear HJ' HK' HE' HP'
    have HLR := Lib.hid (Nat.le_trans hll' HLQ.out)
    clear hll' HLQ
    have HLQ := HLR
    clear HLR
    clear jc1 lj
    cases x3 with
    | some y =>
     have HD : Hid (∀ i l', Rl (bodyP (job0 at_ outs retry)) l none i l' (some y)) := Lib.hid (fun i l' => HIM.out i l' _ rfl)
     clear HIM
     have HC := Lib.hid (ok_any y3 HE.out.fine HP.out)
     go_wp2_with fail
     refine HC.out.mono ?_
     rintro ev y4 ⟨hev, hk⟩
     have hev' : ev = .returned (.bool false) := hev
     subst hev'
     clear hev
     have HJ' := Lib.hid (HJ.out.keep hk)
     have HK' := Lib.hid (HK.out.trans hk.of_nil)
     have HE' := Lib.hid (HE.out.quiet hk)
     have HP' := Lib.hid (HP.out.keep hk)
     clear HJ HK HE HP hk HC
     have HJ := HJ'
     have HK := HK'
     have HE := HE'
     have HP := HP'
     clear HJ' HK' HE' HP'
     have HFIN : Hid (Rl (bodyP (job0 at_ outs retry)) l none (⟨at_, 1, outs, il2, [], [], ⟨[], zV⟩, ⟨[], zV⟩, retry⟩ : Jb) q3 (some y)) := Lib.hid (HD.out _ _)
     go_wp2
     first | go_end0 | refine bodyPost_ret (results_none rfl _ _ _) rfl ?_
     exact ⟨rfl, RbOut.mk (⟨at_, 1, outs, il2, [], [], ⟨[], zV⟩, ⟨[], zV⟩, retry⟩ : Jb) _ _ _ q3 (some y) HJ.out HP.out HFIN.out HLQ.out HK.out⟩
    | none =>
     have HC := Lib.hid (ok_any y3 HE.out.fine HP.out)
     go_wp2_with fail
     refine HC.out.mono ?_
     rintro ev y4 ⟨hev, hk⟩
     have hev' : ev = .returned (.bool true) := hev
     subst hev'
     clear hev
     have HJ' := Lib.hid (HJ.out.keep hk)
     have HK' := Lib.hid (HK.out.trans hk.of_nil)
     have HE' := Lib.hid (HE.out.quiet hk)
     have HP' := Lib.hid (HP.out.keep hk)
     clear HJ HK HE HP hk HC
     have HJ := HJ'
     have HK := HK'
     have HE := HE'
     have HP := HP'
     clear HJ' HK' HE' HP'
     have HC := Lib.hid (rname_any y4 HE.out.fine (HE.out.fne hlo) HP.out)
     go_wp2_with fail
     refine HC.out.mono ?_
     rintro ev y5 ⟨a5, q5, x5, rfl, hp, hr, hs, hll', hk⟩
     clear hs
     have HIM' : Hid (∀ i l' x', Rl (fun r => oneP cmpL r >>= fun p3 => (fun r => argP r >>= fun p4 => (fun r => .ok ((⟨at_, 1, outs, il2, [], p3.1, ⟨a5, zV⟩, p4.1, retry⟩ : Jb), r)) p4.2) p3.2) q5 x5 i l' x' → Rl (bodyP (job0 at_ outs retry)) l none i l' x') := Lib.hid (fun i l' x' hq => HIM.out i l' x' (Rl.bind (Q := fun a => fun r => oneP cmpL r >>= fun p3 => (fun r => argP r >>= fun p4 => (fun r => .ok ((⟨at_, 1, outs, il2, [], p3.1, ⟨a, zV⟩, p4.1, retry⟩ : Jb), r)) p4.2) p3.2) hr hq))
     clear HIM hr
     have HIM := HIM'
     clear HIM'
     have HJ' := Lib.hid (HJ.out.rd HP.out hk)
     have HK' := Lib.hid (HK.out.trans hk)
     have HE' := Lib.hid (HE.out.one hlo hk)
     have HP' := Lib.hid hp
     clear HJ HK HE HP hk hp HC
     have HJ := HJ'
     have HK := HK'
     have HE := HE'
     have HP := HP'
     clear HJ' HK' HE' HP'
     have HLR := Lib.hid (Nat.le_trans hll' HLQ.out)
     clear hll' HLQ
     have HLQ := HLR
     clear HLR
     have jf6 := HJ.out.blk.frozen 6
     have jc6 : y5.cell? ⟨jb, 6, none⟩ = some (.string (bs [])) := HJ.out.blk.cell 6
     have lj := HJ.out.blk.lt
     have hkb : Keeps [jb] y5 (y5.setCell ⟨jb, 6, none⟩ (.string (bs a5))) := (Keeps.refl _ _).setCell (.inl (by simp)) _
     have HJ' : Hid (JbIs (y5.setCell ⟨jb, 6, none⟩ (.string (bs a5))) w0.heap.size jb (⟨at_, 1, outs, il2, [], [], ⟨a5, zV⟩, ⟨[], zV⟩, retry⟩ : Jb) v2 vz2 (.slice none 0 0)) := Lib.hid (HJ.out.box hkb ((HJ.out.blk.set 6 (.string (bs a5))).congr (by rfl)) rfl rfl rfl)
     have HP' := Lib.hid (HP.out.box HJ.out hkb)
     have HK' := Lib.hid (HK.out.box HJB.out hkb)
     have HE' := Lib.hid (HE0.out.one hlo HK'.out)
     clear hkb
     go_upto_region 16 with (fail)
     obtain ⟨y6, hy⟩ : ∃ x, (y5.setCell ⟨jb, 6, none⟩ (.string (bs a5))) = x := ⟨_, rfl⟩
     rw [hy] at HJ' HP' HK' HE' ⊢
     clear hy jf6 jc6 lj HJ HP HK HE
     have HJ := HJ'
     have HP := HP'
     have HK := HK'
     have HE := HE'
     clear HJ' HP' HK' HE'
     have HC := Lib.hid (rmark_any [61, 32, 60, 62, 32, 60, 32, 60, 61, 32, 62, 32, 62, 61] [[61], [60, 62], [60], [60, 61], [62], [62, 61]] (by decide) (by decide) (by decide) (by decide) y6 HE.out.renv (HE.out.fne hlo) (HE.out.mne hlo) HP.out)
     go_wp2_with fail
     refine HC.out.mono ?_
     rintro ev y7 ⟨a7, q7, x7, rfl, hp, hr, hs, hll', hk⟩
     clear hs
     replace hr := Rl.same cmp_same hr
     have HIM' : Hid (∀ i l' x', Rl (fun r => argP r >>= fun p4 => (fun r => .ok ((⟨at_, 1, outs, il2, [], a7, ⟨a5, zV⟩, p4.1, retry⟩ : Jb), r)) p4.2) q7 x7 i l' x' → Rl (bodyP (job0 at_ outs retry)) l none i l' x') := Lib.hid (fun i l' x' hq => HIM.out i l' x' (Rl.bind (Q := fun a => fun r => argP r >>= fun p4 => (fun r => .ok ((⟨at_, 1, outs, il2, [], a, ⟨a5, zV⟩, p4.1, retry⟩ : Jb), r)) p4.2) hr hq))
     clear HIM hr
     have HIM := HIM'
     clear HIM'
     have HJ' := Lib.hid (HJ.out.rd HP.out hk)
     have HK' := Lib.hid (HK.out.trans hk)
     have HE' := Lib.hid (HE.out.one hlo hk)
     have HP' := Lib.hid hp
     clear HJ HK HE HP hk hp HC
     have HJ := HJ'
     have HK := HK'
     have HE := HE'
     have HP := HP'
     clear HJ' HK' HE' HP'
     have HLR := Lib.hid (Nat.le_trans hll' HLQ.out)
     clear hll' HLQ
     have HLQ := HLR
     clear HLR
     have jf5 := HJ.out.blk.frozen 5
     have jc5 : y7.cell? ⟨jb, 5, none⟩ = some (.string (bs [])) := HJ.out.blk.cell 5
     have lj := HJ.out.blk.lt
     have hkb : Keeps [jb] y7 (y7.setCell ⟨jb, 5, none⟩ (.string (bs a7))) := (Keeps.refl _ _).setCell (.inl (by simp)) _
     have HJ' : Hid (JbIs (y7.setCell ⟨jb, 5, none⟩ (.string (bs a7))) w0.heap.size jb (⟨at_, 1, outs, il2, [], a7, ⟨a5, zV⟩, ⟨[], zV⟩, retry⟩ : Jb) v2 vz2 (.slice none 0 0)) := Lib.hid (HJ.out.box hkb ((HJ.out.blk.set 5 (.string (bs a7))).congr (by rfl)) rfl rfl rfl)
     have HP' := Lib.hid (HP.out.box HJ.out hkb)
     have HK' := Lib.hid (HK.out.box HJB.out hkb)
     have HE' := Lib.hid (HE0.out.one hlo HK'.out)
     clear hkb
     go_upto_region 17 with (fail)
     obtain ⟨y8, hy⟩ : ∃ x, (y7.setCell ⟨jb, 5, none⟩ (.string (bs a7))) = x := ⟨_, rfl⟩
     rw [hy] at HJ' HP' HK' HE' ⊢
     clear hy jf5 jc5 lj HJ HP HK HE
     have HJ := HJ'
     have HP := HP'
     have HK := HK'
     have HE := HE'
     clear HJ' HP' HK' HE'
     cases x7 with
     | some y =>
      have HD : Hid (∀ i l', Rl (bodyP (job0 at_ outs retry)) l none i l' (some y)) := Lib.hid (fun i l' => HIM.out i l' _ rfl)
      clear HIM
      have HC := Lib.hid (ok_any y8 HE.out.fine HP.out)
      go_wp2_with fail
      refine HC.out.mono ?_
      rintro ev y9 ⟨hev, hk⟩
      have hev' : ev = .returned (.bool false) := hev
      subst hev'
      clear hev
      have HJ' := Lib.hid (HJ.out.keep hk)
      have HK' := Lib.hid (HK.out.trans hk.of_nil)
      have HE' := Lib.hid (HE.out.quiet hk)
      have HP' := Lib.hid (HP.out.keep hk)
      clear HJ HK HE HP hk HC
      have HJ := HJ'
      have HK := HK'
      have HE := HE'
      have HP := HP'
      clear HJ' HK' HE' HP'
      have HFIN : Hid (Rl (bodyP (job0 at_ outs retry)) l none (⟨at_, 1, outs, il2, [], a7, ⟨a5, zV⟩, ⟨[], zV⟩, retry⟩ : Jb) q7 (some y)) := Lib.hid (HD.out _ _)
      go_wp2
      first | go_end0 | refine bodyPost_ret (results_none rfl _ _ _) rfl ?_
      exact ⟨rfl, RbOut.mk (⟨at_, 1, outs, il2, [], a7, ⟨a5, zV⟩, ⟨[], zV⟩, retry⟩ : Jb) _ _ _ q7 (some y) HJ.out HP.out HFIN.out HLQ.out HK.out⟩
     | none =>
      have HC := Lib.hid (ok_any y8 HE.out.fine HP.out)
      go_wp2_with fail
      refine HC.out.mono ?_
      rintro ev y9 ⟨hev, hk⟩
      have hev' : ev = .returned (.bool true) := hev
      subst hev'
      clear hev
      have HJ' := Lib.hid (HJ.out.keep hk)
      have HK' := Lib.hid (HK.out.trans hk.of_nil)
      have HE' := Lib.hid (HE.out.quiet hk)
      have HP' := Lib.hid (HP.out.keep hk)
      clear HJ HK HE HP hk HC
      have HJ := HJ'
      have HK := HK'
      have HE := HE'
      have HP := HP'
      clear HJ' HK' HE' HP'
      have HC := Lib.hid (rarg_any y9 HE.out hlo HP.out (Nat.le_trans HLQ.out HLL.out))
      go_wp2_with fail
      refine HC.out.mono ?_
      rintro ev y10 ⟨a10, q10, x10, he, hp, hr, hll', hk⟩
      have he2 : ev = .returned (.agg #[.string (bs a10.col), .int .i64 a10.val.kind, .int .i64 a10.val.num, .string (bs a10.val.word)]) := he
      subst he2
      clear he
      have HIM' : Hid (∀ i l' x', Rl (fun r => .ok ((⟨at_, 1, outs, il2, [], a7, ⟨a5, zV⟩, a10, retry⟩ : Jb), r)) q10 x10 i l' x' → Rl (bodyP (job0 at_ outs retry)) l none i l' x') := Lib.hid (fun i l' x' hq => HIM.out i l' x' (Rl.bind (Q := fun a => fun r => .ok ((⟨at_, 1, outs, il2, [], a7, ⟨a5, zV⟩, a, retry⟩ : Jb), r)) hr hq))
      clear HIM hr
      have HIM := HIM'
      clear HIM'
      have HJ' := Lib.hid (HJ.out.rd HP.out hk)
      have HK' := Lib.hid (HK.out.trans hk)
      have HE' := Lib.hid (HE.out.one hlo hk)
      have HP' := Lib.hid hp
      clear HJ HK HE HP hk hp HC
      have HJ := HJ'
      have HK := HK'
      have HE := HE'
      have HP := HP'
      clear HJ' HK' HE' HP'
      have HLR := Lib.hid (Nat.le_trans hll' HLQ.out)
      clear hll' HLQ
      have HLQ := HLR
      clear HLR
      have jf10 := HJ.out.blk.frozen 10
      have jc10 : y10.cell? ⟨jb, 10, none⟩ = some (.string (bs [])) := HJ.out.blk.cell 10
      have jf11 := HJ.out.blk.frozen 11
      have jc11 : y10.cell? ⟨jb, 11, none⟩ = some (.int .i64 0) := HJ.out.blk.cell 11
      have jf12 := HJ.out.blk.frozen 12
      have jc12 : y10.cell? ⟨jb, 12, none⟩ = some (.int .i64 0) := HJ.out.blk.cell 12
      have jf13 := HJ.out.blk.frozen 13
      have jc13 : y10.cell? ⟨jb, 13, none⟩ = some (.string ⟨#[]⟩) := HJ.out.blk.cell 13
      have lj := HJ.out.blk.lt
      have hkb : Keeps [jb] y10 ((((y10.setCell ⟨jb, 10, none⟩ (.string (bs a10.col))).setCell ⟨jb, 11, none⟩ (.int .i64 a10.val.kind)).setCell ⟨jb, 12, none⟩ (.int .i64 a10.val.num)).setCell ⟨jb, 13, none⟩ (.string (bs a10.val.word))) := ((((Keeps.refl _ _).setCell (.inl (by simp)) _).setCell (.inl (by simp)) _).setCell (.inl (by simp)) _).setCell (.inl (by simp)) _
      have HJ' : Hid (JbIs ((((y10.setCell ⟨jb, 10, none⟩ (.string (bs a10.col))).setCell ⟨jb, 11, none⟩ (.int .i64 a10.val.kind)).setCell ⟨jb, 12, none⟩ (.int .i64 a10.val.num)).setCell ⟨jb, 13, none⟩ (.string (bs a10.val.word))) w0.heap.size jb (⟨at_, 1, outs, il2, [], a7, ⟨a5, zV⟩, a10, retry⟩ : Jb) v2 vz2 (.slice none 0 0)) := Lib.hid (HJ.out.box hkb (((((HJ.out.blk.set 10 (.string (bs a10.col))).set 11 (.int .i64 a10.val.kind)).set 12 (.int .i64 a10.val.num)).set 13 (.string (bs a10.val.word))).congr (by rfl)) rfl rfl rfl)
      have HP' := Lib.hid (HP.out.box HJ.out hkb)
      have HK' := Lib.hid (HK.out.box HJB.out hkb)
      clear hkb
      have HFIN : Hid (Rl (bodyP (job0 at_ outs retry)) l none (⟨at_, 1, outs, il2, [], a7, ⟨a5, zV⟩, a10, retry⟩ : Jb) q10 x10) := Lib.hid (HIM.out _ _ _ (Rl.stay (fun _ => rfl)))
      go_wp2
      first | go_end0 | refine bodyPost_ret (results_none rfl _ _ _) rfl ?_
      exact ⟨rfl, RbOut.mk (⟨at_, 1, outs, il2, [], a7, ⟨a5, zV⟩, a10, retry⟩ : Jb) _ _ _ q10 x10 HJ'.out HP'.out HFIN.out HLQ.out HK'.out⟩
end Go.Proofs.YtnjjajanfedjiaaGreatDoor
