/- The cutter: tokens. The reference's cutter: tokens. -/
import Derived.Test.YtnjjajanfedjiaaGreatDoorFrdM23
import Derived.Test.YtnjjajanfedjiaaGreatDoorFrdM3
import Derived.Test.YtnjjajanfedjiaaGreatDoorFrdM18
import Derived.Deep.DeepCutAuto
set_option linter.unusedSimpArgs false
set_option linter.unusedVariables false
namespace Go.Proofs.YtnjjajanfedjiaaGreatDoor
open Go.RowKit Go.BigFrame
attribute [local go_sem] bs_size bs_extract bs_append bs_toList
theorem tinf : (Tryz.prog.info? 97).map (fun i => (i.zero, i.size, i.bytes)) = some (some (.agg #[.int .i64 0, .string ⟨#[]⟩, .int .i64 0]), 3, 32) := by kernel_rfl
theorem slice_from {P : Program} {T : TypeId} (hT : P.underlying T = some .string) (s : Bs) (lo : Nat) (h1 : lo ≤ s.length) (W : World) :
  (Instr.slice T (.string (bs s)) (some (.int .i64 (lo : Int))) none none).run P W = .ok (.string (bs (s.drop lo))) W := by
 have h3 : (lo : Int) ≤ (s.length : Int) := by omega
 have e : (bs s).extract lo s.length = bs (s.drop lo) := by rw [bs_extract, List.take_of_length_le (Nat.le_refl _)]
 rw [← e]
 have h5 : lo ≤ (bs s).size := by rw [bs_size]; exact h1
 have h6 : (lo : Int) ≤ ((bs s).size : Int) := by rw [bs_size]; exact h3
 go_simp
def TokOut (R : Except (Int × Int) (List Tk)) (base : Nat) (e : Ending) (w' : World) : Prop := match R with
 | .ok l => ∃ A c, e = .returned (.tuple #[.slice A l.length c, .nilIface]) ∧ w'.ownsRow base 97 3 (.slice A l.length c) l.length (tsCells l)
 | .error x => ∃ gi, e = .returned (.tuple #[.slice none 0 0, .iface 122 (.pointer (some ⟨gi, 0, none⟩))]) ∧ Blk w' gi 123 #[.int .i64 x.1, .int .i64 x.2]
theorem tsCells_one (acc : List Tk) (k : Int) (u : Bs) (i : Int) : tsCells (acc ++ [⟨k, u, i⟩]) = tsCells acc ++ [.int .i64 k, .string (bs u), .int .i64 i] := by simp [tsCells, tCells]
set_option maxRecDepth 100000 in
set_option maxHeartbeats 8000000 in
theorem tokens_any (s : Bs) (hs : s.length ≤ 1000000) (w : World) (hE : FEnv w) :
  Calls Tryz.prog 35 #[.string (bs s)] w fun e w' => TokOut (lexL s) w.heap.size e w' ∧ Keeps [] w w' := by
 obtain ⟨i0, hi, hz0, hz1, hz2⟩ := info_parts tinf
 obtain ⟨R, hR⟩ : ∃ R, lexL s = R := ⟨_, rfl⟩
 rw [hR]
 unfold lexL at hR
 have HR := Lib.hid hR
 have HE := Lib.hid hE
 clear hR hE
 go_enter Tryz.func35, Tryz.ntmps35
 go_wp2
 go_loopw [4, 5] (fun v i wr => ∃ (n f : Nat) (acc : List Tk), n ≤ s.length ∧ i = .int .i64 n ∧ s.length - n ≤ f ∧ acc.length ≤ 400 ∧ Hid (lexGo f (s.drop n) n acc = R) ∧ wr.ownsRow w.heap.size 97 3 v acc.length (tsCells acc) ∧ Keeps [] w wr) (fun _ i _ => s.length - (intOf i).toNat)
 case atStart => exact ⟨0, s.length, [], Nat.zero_le _, rfl, Nat.le_refl _, by simp, HR, World.ownsRow_nil _ _ _ _, Keeps.refl _ _⟩
 case round =>
  clear HR
  obtain ⟨n, f, acc, hn, rfl, hf, hacc, HR, hown, hk⟩ := hrel
  obtain ⟨A, cv, rfl, -⟩ := own_form hown
  have HO := Lib.hid hown
  have HK := Lib.hid hk
  have hbd := Lib.hid (show acc.length + 1 ≤ maxLen ∧ (acc.length + 1) * 32 ≤ 140737488355328 by simp only [maxLen]; omega)
  have HWZ := Lib.hid (show w.heap.size ≤ wr.heap.size + 1 from Nat.le_succ_of_le hk.size)
  clear hown hk
  by_cases hlt : n < s.length
  ·have hi0 : (n : Int) < (s.length : Int) := by omega
   obtain ⟨f, rfl⟩ : ∃ m, f = m + 1 := ⟨f - 1, by omega⟩
   have hbyte : ((bs s)[n]'(by rw [bs_size]; exact hlt)) = s[n] := bs_get s n _
   have hdr : s.drop n = s[n] :: s.drop (n + 1) := List.drop_eq_getElem_cons hlt
   have hsf := fun W => slice_from (P := Tryz.prog) Tryz.underlying9 s n hn W
   obtain ⟨c, hc⟩ : ∃ c, s[n] = c := ⟨_, rfl⟩
   obtain ⟨t, ht⟩ : ∃ t, s.drop (n + 1) = t := ⟨_, rfl⟩
   rw [hc] at hbyte hdr
   rw [ht] at hdr
   rw [hdr] at hsf
   have hlt2 : t.length + n + 1 = s.length := by rw [← ht, List.length_drop]; omega
   have h32 : c = 32 ↔ (c.toNat : Int) = 32 := ⟨fun h => by rw [h]; rfl, fun h => UInt8.toNat_inj.1 (by have : (32 : UInt8).toNat = 32 := rfl; omega)⟩
   have h10 : c = 10 ↔ (c.toNat : Int) = 10 := ⟨fun h => by rw [h]; rfl, fun h => UInt8.toNat_inj.1 (by have : (10 : UInt8).toNat = 10 := rfl; omega)⟩
   have HR1 : Hid ((if c = 32 ∨ c = 10 then lexGo f t (n + 1) acc
  else if (nextL (c :: t)).2 = 0 then .error (3, (n : Int))
  else if acc.length = 400 then .error (4, (n : Int))
  else lexGo f ((c :: t).drop (nextL (c :: t)).2) (n + (nextL (c :: t)).2) (acc ++ [⟨(nextL (c :: t)).1, (c :: t).take (nextL (c :: t)).2, n⟩])) = R) := Lib.hid (by rw [← HR.out, hdr]; rfl)
   have HT := Lib.hid ht
   have HD := Lib.hid hdr
   clear HR hc ht
   by_cases e32 : c = 32
   ·have t1 : ((c.toNat : Int) == 32) = true := by rw [beq_iff_eq]; exact h32.1 e32
    have HQ : Hid (lexGo f (s.drop (n + 1)) (n + 1) acc = R) := Lib.hid (by rw [HT.out, ← HR1.out, if_pos (.inl e32)])
    clear h32 h10 e32 HR1 hdr hsf
    go_wp2
    go_roundw
    case rel => exact ⟨n + 1, f, acc, by omega, by go_num, by omega, hacc, HQ, HO.out, HK.out⟩
    case measure => simp [intOf]; omega
   have t1 : ((c.toNat : Int) == 32) = false := by rw [beq_eq_false_iff_ne]; exact fun h => e32 (h32.2 h)
   by_cases e10 : c = 10
   ·have t2 : ((c.toNat : Int) == 10) = true := by rw [beq_iff_eq]; exact h10.1 e10
    have HQ : Hid (lexGo f (s.drop (n + 1)) (n + 1) acc = R) := Lib.hid (by rw [HT.out, ← HR1.out, if_pos (.inr e10)])
    clear h32 h10 e32 e10 HR1 hdr hsf
    go_wp2
    go_roundw
    case rel => exact ⟨n + 1, f, acc, by omega, by go_num, by omega, hacc, HQ, HO.out, HK.out⟩
    case measure => simp [intOf]; omega
   have t2 : ((c.toNat : Int) == 10) = false := by rw [beq_eq_false_iff_ne]; exact fun h => e10 (h10.2 h)
   have HR2 : Hid ((if (nextL (c :: t)).2 = 0 then .error (3, (n : Int))
  else if acc.length = 400 then .error (4, (n : Int))
  else lexGo f ((c :: t).drop (nextL (c :: t)).2) (n + (nextL (c :: t)).2) (acc ++ [⟨(nextL (c :: t)).1, (c :: t).take (nextL (c :: t)).2, n⟩])) = R) := Lib.hid (by rw [← HR1.out]; exact (if_neg (fun h => h.elim e32 e10)).symm)
   have HN := Lib.hid (next_any c t (by omega) wr (HE.out.quiet HK.out))
   have hle := nextL_le c t
   obtain ⟨km, hkm⟩ : ∃ km, nextL (c :: t) = km := ⟨_, rfl⟩
   obtain ⟨k, m⟩ := km
   rw [hkm] at HN HR2 hle
   simp only [List.length_cons] at hle
   clear h32 h10 e32 e10 HR1 hdr hkm
   by_cases hm : m = 0
   ·subst hm
    have HX : Hid (R = .error (3, (n : Int))) := Lib.hid (by rw [← HR2.out]; exact if_pos rfl)
    go_wp2_with fail
    refine HN.out.mono ?_
    rintro e w2 ⟨rfl, rfl⟩
    go_wp2
    go_ret2
    exact ⟨by rw [HX.out]; exact ⟨_, rfl, Blk.new _ _ _⟩, HK.out.alloc _⟩
   ·have m0 : ((m : Int) == 0) = false := by rw [beq_eq_false_iff_ne]; omega
    by_cases h4 : acc.length = 400
    ·have HX : Hid (R = .error (4, (n : Int))) := Lib.hid (by rw [← HR2.out]; exact (if_neg hm).trans (if_pos h4))
     have a0 : ((acc.length : Int) == 400) = true := by rw [beq_iff_eq]; omega
     go_wp2_with fail
     refine HN.out.mono ?_
     rintro e w2 ⟨rfl, rfl⟩
     go_wp2
     go_ret2
     exact ⟨by rw [HX.out]; exact ⟨_, rfl, Blk.new _ _ _⟩, HK.out.alloc _⟩
    ·have a0 : ((acc.length : Int) == 400) = false := by rw [beq_eq_false_iff_ne]; omega
     have hsl := fun W => slice_str (P := Tryz.prog) Tryz.underlying9 s n (n + m) (by omega) (by omega) W
     have etk : (s.take (n + m)).drop n = (c :: t).take m := by rw [List.drop_take, HD.out, show n + m - n = m by omega]
     rw [etk, show ((n + m : Nat) : Int) = (n : Int) + (m : Int) by omega] at hsl
     obtain ⟨u, hu⟩ : ∃ u, (c :: t).take m = u := ⟨_, rfl⟩
     rw [hu] at hsl
     have HQ : Hid (lexGo f (s.drop (n + m)) (n + m) (acc ++ [⟨k, u, (n : Int)⟩]) = R) := Lib.hid (by
      rw [← HR2.out, ← hu, show s.drop (n + m) = (c :: t).drop m by rw [← HD.out, List.drop_drop]]
      exact ((if_neg hm).trans (if_neg h4)).symm)
     clear etk hu
     go_wp2_with fail
     refine HN.out.mono ?_
     rintro e w2 ⟨rfl, rfl⟩
     go_wp2_with (at_builtin; refine wpList_append_lies _ rfl _ _ 89 rfl _ 97 i0 _ 3 32 Tryz.underlying89 hi hz0 hz1 hz2 rfl (by decide) _ acc.length (tsCells acc) rfl (HO.out.alloc _) ⟨wr.heap.size, 0, none⟩ 1 1 [.int .i64 k, .string (bs u), .int .i64 n] rfl rfl (World.news_of_block (heap_alloc_new _ _)) (by simp [Value.oneCell']) (by decide) hbd.out.1 hbd.out.2 (by simp; exact HWZ.out) _ rfl ?_; intro gw cap2 w8 hown8 hgrow8 hat8 hlt8)
     have HK8 := Lib.hid ((HK.out.alloc _).grown hgrow8 (fun g hg => .inr (HO.out.lt g hg).1))
     rw [← tsCells_one] at hown8
     have HO8 := Lib.hid hown8
     have ho1 : (acc ++ [⟨k, u, (n : Int)⟩] : List Tk).length = acc.length + 1 := by simp
     have HO1 := Lib.hid ho1
     clear hown8 hgrow8 hat8 hlt8 ho1 hsl hsf
     go_wp2
     go_roundw
     case rel => exact ⟨n + m, f, acc ++ [⟨k, u, (n : Int)⟩], by omega, by go_num, by omega, by rw [HO1.out]; omega, HQ, by rw [HO1.out]; exact HO8.out, HK8.out⟩
     case measure => simp [intOf]; omega
  ·obtain rfl : n = s.length := by omega
   have HX : Hid (R = .ok (acc ++ [⟨5, [], (s.length : Int)⟩])) := Lib.hid (by
    rw [← HR.out, List.drop_of_length_le (Nat.le_refl _)]
    cases f <;> rfl)
   have ho1 : (acc ++ [⟨5, [], (s.length : Int)⟩] : List Tk).length = acc.length + 1 := by simp
   have HO1 := Lib.hid ho1
   clear ho1 HR
   go_wp2_with (at_builtin; refine wpList_append_lies _ rfl _ _ 89 rfl _ 97 i0 _ 3 32 Tryz.underlying89 hi hz0 hz1 hz2 rfl (by decide) _ acc.length (tsCells acc) rfl (HO.out.alloc _) ⟨wr.heap.size, 0, none⟩ 1 1 [.int .i64 5, .string (bs []), .int .i64 s.length] rfl rfl (World.news_of_block (heap_alloc_new _ _)) (by simp [Value.oneCell']) (by decide) hbd.out.1 hbd.out.2 (by simp; exact HWZ.out) _ rfl ?_; intro gw cap2 w8 hown8 hgrow8 hat8 hlt8)
   have HK8 := Lib.hid ((HK.out.alloc _).grown hgrow8 (fun g hg => .inr (HO.out.lt g hg).1))
   rw [← tsCells_one] at hown8
   have HO8 := Lib.hid hown8
   clear hown8 hgrow8 hat8 hlt8
   go_wp2
   go_ret2
   exact ⟨by rw [HX.out]; exact ⟨_, _, by rw [HO1.out]; rfl, by rw [HO1.out]; exact HO8.out⟩, HK8.out⟩
end Go.Proofs.YtnjjajanfedjiaaGreatDoor
namespace Go.Proofs.YtnjjajanfedjiaaGreatDoor
open Go.RowKit Go.BigFrame
attribute [local go_sem] bs_size bs_extract bs_append bs_toList
theorem rtinf : (Tryz.prog.info? 81).map (fun i => (i.zero, i.size, i.bytes)) = some (some (.agg #[.int .i64 0, .string ⟨#[]⟩, .int .i64 0]), 3, 32) := by kernel_rfl
def TokR (R : Except (Int × Int) (List Tk)) (base : Nat) (e : Ending) (w' : World) : Prop := match R with
 | .ok l => ∃ A c, e = .returned (.tuple #[.slice A l.length c, .agg #[.int .i64 0, .int .i64 (-1)]]) ∧ w'.ownsRow base 81 3 (.slice A l.length c) l.length (tsCells l)
 | .error x => e = .returned (.tuple #[.slice none 0 0, .agg #[.int .i64 x.1, .int .i64 x.2]])
theorem blk_grown {W W7 : World} {g : Nat} {t e : TypeId} {cs : Array Value} {o : Obj} {row : Option Nat} (h : Blk W g t cs) (hg : (W.alloc o).grownBy W7 row) (hr : ∀ x, row = some x → OfTy W x e) (ht : e ≠ t) : Blk W7 g t cs :=
 (hg.block g (h.alloc o).lt (fun z => (hr g z.symm).ne h.ty ht rfl)).trans (h.alloc o)
theorem split_marks (m : Int) (w : World) (hm : w.cell? ⟨5, 0, none⟩ = some (.int .i64 m)) : Calls Tryz.prog 43 #[.string (bs [60, 62, 32, 60, 61, 32, 62, 61, 32, 60, 32, 62, 32, 61, 32, 43, 32, 45, 32, 42, 32, 44, 32, 59, 32, 58, 32, 46]), .string (bs [32])] w fun e w' => e = .returned (.slice (some ⟨w.heap.size, 0, none⟩) 13 13) ∧ w' = w.alloc (.cells (strs marksL).toArray 9) := by
 have h := Tryz.strings_Split (bs [60, 62, 32, 60, 61, 32, 62, 61, 32, 60, 32, 62, 32, 61, 32, 43, 32, 45, 32, 42, 32, 44, 32, 59, 32, 58, 32, 46]) (bs [32]) m w (by decide) hm (by decide)
 have e1 : Lib.countB (bs [60, 62, 32, 60, 61, 32, 62, 61, 32, 60, 32, 62, 32, 61, 32, 43, 32, 45, 32, 42, 32, 44, 32, 59, 32, 58, 32, 46]) (bs [32]) = 12 := by kernel_rfl
 have e2 : (Lib.splitB (bs [32]) 0 12 (bs [60, 62, 32, 60, 61, 32, 62, 61, 32, 60, 32, 62, 32, 61, 32, 43, 32, 45, 32, 42, 32, 44, 32, 59, 32, 58, 32, 46])).map Value.string = strs marksL := by kernel_rfl
 rw [e1, e2] at h
 exact h
theorem run_from (q : UInt8 → Bool) (s : Bs) (n p : Nat) (hn : n ≤ p) (hp : p ≤ s.length) (h1 : ∀ j, n ≤ j → j < p → ∀ h : j < s.length, q s[j] = true) (h2 : ∀ h : p < s.length, q s[p] = false) : n + runN q (s.drop n) = p := by
 have := runN_at q (s.drop n) (p - n) (by rw [List.length_drop]; omega) (fun j hj hl => by
  rw [List.getElem_drop]
  exact h1 (n + j) (by omega) (by omega) _) (fun hl => by
  rw [List.getElem_drop]
  rw [List.length_drop] at hl
  have e : n + (p - n) = p := by omega
  have := h2 (by omega)
  simpa only [e] using this)
 omega
theorem own_t {W : World} {base e size n T i : Nat} {v : Value} {xs : List Value} (h : W.ownsRow base e size v n xs) (hT : ∀ g, v.ownBlock = some g → g < T) (u : Value) : (W.setCell ⟨T, i, none⟩ u).ownsRow base e size v n xs :=
 own_keep (L := [T]) h ((Keeps.refl _ _).setCell (.inl (by simp)) _) (fun g hg hm => by have := hT g hg; simp at hm; omega)
theorem kset {w W : World} {T i : Nat} (h : Keeps [] w W) (hT : w.heap.size ≤ T) (u : Value) : Keeps [] w (W.setCell ⟨T, i, none⟩ u) := h.setCell (.inr hT) _
set_option maxRecDepth 100000 in
set_option maxHeartbeats 16000000 in
theorem rtokens_any (s : Bs) (hs : s.length ≤ 1000000) (w : World) (hE : REnv w) :
  Calls Tryz.prog 26 #[.string (bs s)] w fun e w' => TokR (lexL s) w.heap.size e w' ∧ Keeps [] w w' := by
 obtain ⟨i0, hi, hz0, hz1, hz2⟩ := info_parts rtinf
 obtain ⟨R, hR⟩ : ∃ R, lexL s = R := ⟨_, rfl⟩
 rw [hR]
 unfold lexL at hR
 have HR := Lib.hid hR
 have HE := Lib.hid hE
 obtain ⟨M, hM⟩ : ∃ M, w.heap.size = M := ⟨_, rfl⟩
 rw [hM]
 have hb0 := Blk.new w 29 #[.int .i64 0, .int .i64 0]
 have hk0 := (Keeps.refl [] w).alloc (.cells #[.int .i64 0, .int .i64 0] 29)
 rw [hM] at hb0
 have HMw : Hid (w.heap.size ≤ M) := Lib.hid (by omega)
 clear hR hE
 go_enter Tryz.func26, Tryz.ntmps26
 go_upto_region 1 with (fail)
 try rw [hM]
 obtain ⟨y0, hy0⟩ : ∃ y, w.alloc (.cells #[.int .i64 0, .int .i64 0] 29) = y := ⟨_, rfl⟩
 rw [hy0] at hb0 hk0 ⊢
 have HB0 := Lib.hid hb0
 have HK0 := Lib.hid hk0
 clear hb0 hk0 hy0 hM
 go_wp2
 go_loopw [4, 5] (fun v i wr => ∃ (n f : Nat) (acc : List Tk), n ≤ s.length ∧ i = .int .i64 n ∧ s.length - n ≤ f ∧ acc.length ≤ 400 ∧ Hid (lexGo f (s.drop n) n acc = R) ∧ Hid (wr.ownsRow M 81 3 v acc.length (tsCells acc)) ∧ Hid (Blk wr M 29 #[.int .i64 0, .int .i64 0]) ∧ Hid (Keeps [] w wr)) (fun _ i _ => s.length - (intOf i).toNat)
 case atStart => exact ⟨0, s.length, [], Nat.zero_le _, rfl, Nat.le_refl _, by simp, HR, Lib.hid (World.ownsRow_nil _ _ _ _), HB0, HK0⟩
 case round =>
  clear HR HB0 HK0
  obtain ⟨n, f, acc, hn, rfl, hf, hacc, HR, HO, HB, HK⟩ := hrel
  obtain ⟨A, cv, rfl, -⟩ := own_form HO.out
  have hbd := Lib.hid (show acc.length + 1 ≤ maxLen ∧ (acc.length + 1) * 32 ≤ 140737488355328 by simp only [maxLen]; omega)
  have HWZ := Lib.hid (show M ≤ wr.heap.size + 1 from Nat.le_succ_of_le (Nat.le_of_lt HB.out.lt))
  by_cases hlt : n < s.length
  ·have hi0 : (n : Int) < (s.length : Int) := by omega
   obtain ⟨f, rfl⟩ : ∃ m, f = m + 1 := ⟨f - 1, by omega⟩
   have hbyte : ((bs s)[n]'(by rw [bs_size]; exact hlt)) = s[n] := bs_get s n _
   have hdr : s.drop n = s[n] :: s.drop (n + 1) := List.drop_eq_getElem_cons hlt
   have hsf := fun W => slice_from (P := Tryz.prog) Tryz.underlying9 s n hn W
   have hsf1 := fun W => slice_from (P := Tryz.prog) Tryz.underlying9 s (n + 1) hlt W
   obtain ⟨c, hc⟩ : ∃ c, s[n] = c := ⟨_, rfl⟩
   obtain ⟨t, ht⟩ : ∃ t, s.drop (n + 1) = t := ⟨_, rfl⟩
   rw [hc] at hbyte hdr
   rw [ht] at hdr hsf1
   rw [hdr] at hsf
   rw [show ((n + 1 : Nat) : Int) = (n : Int) + 1 by omega] at hsf1
   have hlt2 : t.length + n + 1 = s.length := by rw [← ht, List.length_drop]; omega
   have h32 : c = 32 ↔ (c.toNat : Int) = 32 := ⟨fun h => by rw [h]; rfl, fun h => UInt8.toNat_inj.1 (by have : (32 : UInt8).toNat = 32 := rfl; omega)⟩
   have h10 : c = 10 ↔ (c.toNat : Int) = 10 := ⟨fun h => by rw [h]; rfl, fun h => UInt8.toNat_inj.1 (by have : (10 : UInt8).toNat = 10 := rfl; omega)⟩
   have h39 : c = 39 ↔ (c.toNat : Int) = 39 := ⟨fun h => by rw [h]; rfl, fun h => UInt8.toNat_inj.1 (by have : (39 : UInt8).toNat = 39 := rfl; omega)⟩
   have HR1 : Hid ((if c = 32 ∨ c = 10 then lexGo f t (n + 1) acc
  else if (nextL (c :: t)).2 = 0 then .error (3, (n : Int))
  else if acc.length = 400 then .error (4, (n : Int))
  else lexGo f ((c :: t).drop (nextL (c :: t)).2) (n + (nextL (c :: t)).2) (acc ++ [⟨(nextL (c :: t)).1, (c :: t).take (nextL (c :: t)).2, n⟩])) = R) := Lib.hid (by rw [← HR.out, hdr]; rfl)
   have HT := Lib.hid ht
   have HD := Lib.hid hdr
   have HH39 := Lib.hid h39
   clear HR hc ht h39
   by_cases e32 : c = 32
   ·have t1 : ((c.toNat : Int) == 32) = true := by rw [beq_iff_eq]; exact h32.1 e32
    have HQ : Hid (lexGo f (s.drop (n + 1)) (n + 1) acc = R) := Lib.hid (by rw [HT.out, ← HR1.out, if_pos (.inl e32)])
    clear h32 h10 e32 HR1 hdr hsf hsf1
    go_wp2
    go_roundw
    case rel => exact ⟨n + 1, f, acc, by omega, by go_num, by omega, hacc, HQ, HO, HB, HK⟩
    case measure => simp [intOf]; omega
   have t1 : ((c.toNat : Int) == 32) = false := by rw [beq_eq_false_iff_ne]; exact fun h => e32 (h32.2 h)
   by_cases e10 : c = 10
   ·have t2 : ((c.toNat : Int) == 10) = true := by rw [beq_iff_eq]; exact h10.1 e10
    have HQ : Hid (lexGo f (s.drop (n + 1)) (n + 1) acc = R) := Lib.hid (by rw [HT.out, ← HR1.out, if_pos (.inr e10)])
    clear h32 h10 e32 e10 HR1 hdr hsf hsf1
    go_wp2
    go_roundw
    case rel => exact ⟨n + 1, f, acc, by omega, by go_num, by omega, hacc, HQ, HO, HB, HK⟩
    case measure => simp [intOf]; omega
   have t2 : ((c.toNat : Int) == 10) = false := by rw [beq_eq_false_iff_ne]; exact fun h => e10 (h10.2 h)
   have HR2 : Hid ((if (nextL (c :: t)).2 = 0 then .error (3, (n : Int))
  else if acc.length = 400 then .error (4, (n : Int))
  else lexGo f ((c :: t).drop (nextL (c :: t)).2) (n + (nextL (c :: t)).2) (acc ++ [⟨(nextL (c :: t)).1, (c :: t).take (nextL (c :: t)).2, n⟩])) = R) := Lib.hid (by rw [← HR1.out]; exact (if_neg (fun h => h.elim e32 e10)).symm)
   have hle := nextL_le c t
   obtain ⟨km, hkm⟩ : ∃ km, nextL (c :: t) = km := ⟨_, rfl⟩
   obtain ⟨k, m⟩ := km
   rw [hkm] at HR2 hle
   simp only [List.length_cons] at hle
   have HKM := Lib.hid hkm
   have HSF := Lib.hid hsf
   have HSF1 := Lib.hid hsf1
   clear h32 h10 e32 e10 HR1 hdr hkm hsf hsf1
   have hyb := Blk.new wr 81 #[.int .i64 0, .string ⟨#[]⟩, .int .i64 n]
   have ho1 := HO.out.alloc (.cells #[.int .i64 0, .string ⟨#[]⟩, .int .i64 n] 81)
   have hb1 := HB.out.alloc (.cells #[.int .i64 0, .string ⟨#[]⟩, .int .i64 n] 81)
   have hk1 := HK.out.alloc (.cells #[.int .i64 0, .string ⟨#[]⟩, .int .i64 n] 81)
   have HMT : Hid (M ≠ wr.heap.size ∧ w.heap.size ≤ wr.heap.size) := Lib.hid ⟨by have := HB.out.lt; omega, HK.out.size⟩
   have HGT : Hid (∀ g, (Value.slice A acc.length cv).ownBlock = some g → g < wr.heap.size) := Lib.hid (fun g hg => (HO.out.lt g hg).2)
   go_upto_block 2 with (fail)
   obtain ⟨T, hT⟩ : ∃ T, wr.heap.size = T := ⟨_, rfl⟩
   rw [hT] at hyb HMT HGT ⊢
   obtain ⟨y, hy⟩ : ∃ y, wr.alloc (.cells #[.int .i64 0, .string ⟨#[]⟩, .int .i64 n] 81) = y := ⟨_, rfl⟩
   rw [hy] at hyb ho1 hb1 hk1 ⊢
   clear hy hT HO HB HK HWZ
   have HTB := Lib.hid hyb
   have HO := Lib.hid ho1
   have HB := Lib.hid hb1
   have HK := Lib.hid hk1
   have z0 := hyb.frozen 0
   have cz0 : y.cell? ⟨T, 0, none⟩ = some (.int .i64 0) := hyb.cell 0
   have lt := hyb.lt
   have hhn : n + m ≤ s.length := by omega
   clear hyb ho1 hb1 hk1
   go_cut [7] (fun kv wx => kv = .int .i64 ((n + m : Nat) : Int) ∧ Hid (Blk wx T 81 #[.int .i64 k, .string ⟨#[]⟩, .int .i64 n]) ∧ Hid (Blk wx M 29 #[.int .i64 0, .int .i64 0]) ∧ Hid (wx.ownsRow M 81 3 (.slice A acc.length cv) acc.length (tsCells acc)) ∧ Hid (Keeps [] w wx))
   case first =>
    cases hl : letC c with
    | true =>
     have hnx := HKM.out.symm.trans (next_low hl)
     injection hnx with ek em
     subst ek
     have HEM : Hid (m = runN ldC (s.drop n)) := Lib.hid (by rw [em, HD.out])
     have HL := Lib.hid (low_any c y)
     rw [show lowB c = true from hl] at HL
     go_wp2_with fail
     refine HL.out.mono ?_
     rintro ev W2 ⟨rfl, rfl⟩
     clear hl em HL
     go_wp2_with fail
     go_loop [7] (fun kv => ∃ p : Nat, n ≤ p ∧ p ≤ s.length ∧ kv = .int .i64 p ∧ Hid (∀ j, n ≤ j → j < p → ∀ h : j < s.length, ldC s[j] = true)) (fun kv => s.length - (intOf kv).toNat)
     case atStart => exact ⟨n, Nat.le_refl _, hn, rfl, Lib.hid (fun j h1 h2 => absurd h2 (by omega))⟩
     case round =>
      obtain ⟨p, hnp, hp, rfl, hno⟩ := hrel
      by_cases hpl : p < s.length
      ·have hip : (p : Int) < (s.length : Int) := by omega
       have hbp : ((bs s)[p]'(by rw [bs_size]; exact hpl)) = s[p] := bs_get s p _
       have HYES : Hid (ldC s[p] = true → ∀ j, n ≤ j → j < p + 1 → ∀ h : j < s.length, ldC s[j] = true) := Lib.hid (fun hx j h1 h2 h => by
        by_cases h3 : j < p
        ·exact hno.out j h1 h3 h
        ·obtain rfl : j = p := by omega
         exact hx)
       have HNO : Hid (ldC s[p] = false → p = n + m) := Lib.hid (fun hx => by rw [HEM.out, run_from ldC s n p hnp hp hno.out (fun _ => hx)])
       have HLO := Lib.hid (fun W => low_any s[p] W)
       have HDI := Lib.hid (fun W => dig_any s[p] W)
       generalize hx : s[p] = x at *
       clear hx
       cases h1 : lowB x with
       | true =>
        rw [h1] at HLO
        have H1 : Hid (ldC x = true) := Lib.hid (by unfold ldC; rw [show letC x = true from h1]; rfl)
        clear h1
        go_wp2_with fail
        refine (HLO.out _).mono ?_
        rintro e W2 ⟨rfl, rfl⟩
        go_wp2
        go_round
        case rel => exact ⟨p + 1, by omega, by omega, by go_num, Lib.hid (HYES.out H1.out)⟩
        case measure => simp [intOf]; omega
       | false =>
        rw [h1] at HLO
        cases h2 : digB x with
        | true =>
         rw [h2] at HDI
         have H1 : Hid (ldC x = true) := Lib.hid (by unfold ldC; rw [show letC x = false from h1, show digC x = true from h2]; rfl)
         clear h1 h2
         go_wp2_with fail
         refine (HLO.out _).mono ?_
         rintro e W2 ⟨rfl, rfl⟩
         go_wp2_with fail
         refine (HDI.out _).mono ?_
         rintro e W2 ⟨rfl, rfl⟩
         go_wp2
         go_round
         case rel => exact ⟨p + 1, by omega, by omega, by go_num, Lib.hid (HYES.out H1.out)⟩
         case measure => simp [intOf]; omega
        | false =>
         rw [h2] at HDI
         have H1 : Hid (ldC x = false) := Lib.hid (by unfold ldC; rw [show letC x = false from h1, show digC x = false from h2]; rfl)
         clear h1 h2
         go_wp2_with fail
         refine (HLO.out _).mono ?_
         rintro e W2 ⟨rfl, rfl⟩
         go_wp2_with fail
         refine (HDI.out _).mono ?_
         rintro e W2 ⟨rfl, rfl⟩
         go_wp2
         go_meet
         exact ⟨by rw [← HNO.out H1.out], Lib.hid ((HTB.out.set 0 (.int .i64 1)).congr rfl), Lib.hid (HB.out.far (p := ⟨T, 0, none⟩) HMT.out.1 _), Lib.hid (own_t HO.out HGT.out _), Lib.hid (kset HK.out HMT.out.2 _)⟩
      ·have hip : ¬ (p : Int) < (s.length : Int) := by omega
       have HNO : Hid (p = n + m) := Lib.hid (by rw [HEM.out, run_from ldC s n p hnp hp hno.out (fun h => absurd h hpl)])
       go_wp2
       go_meet
       exact ⟨by rw [← HNO.out], Lib.hid ((HTB.out.set 0 (.int .i64 1)).congr rfl), Lib.hid (HB.out.far (p := ⟨T, 0, none⟩) HMT.out.1 _), Lib.hid (own_t HO.out HGT.out _), Lib.hid (kset HK.out HMT.out.2 _)⟩
    | false =>
     cases hd : digC c with
     | true =>
      have hnx := HKM.out.symm.trans (next_dig hl hd)
      injection hnx with ek em
      subst ek
      have HEM : Hid (m = runN digC (s.drop n)) := Lib.hid (by rw [em, HD.out])
      have HL := Lib.hid (low_any c y)
      rw [show lowB c = false from hl] at HL
      go_wp2_with fail
      refine HL.out.mono ?_
      rintro ev W2 ⟨rfl, rfl⟩
      have HL2 := Lib.hid (dig_any c y)
      rw [show digB c = true from hd] at HL2
      go_wp2_with fail
      refine HL2.out.mono ?_
      rintro ev W2 ⟨rfl, rfl⟩
      clear hl hd em HL HL2
      go_wp2_with fail
      go_loop [7] (fun kv => ∃ p : Nat, n ≤ p ∧ p ≤ s.length ∧ kv = .int .i64 p ∧ Hid (∀ j, n ≤ j → j < p → ∀ h : j < s.length, digC s[j] = true)) (fun kv => s.length - (intOf kv).toNat)
      case atStart => exact ⟨n, Nat.le_refl _, hn, rfl, Lib.hid (fun j h1 h2 => absurd h2 (by omega))⟩
      case round =>
       obtain ⟨p, hnp, hp, rfl, hno⟩ := hrel
       by_cases hpl : p < s.length
       ·have hip : (p : Int) < (s.length : Int) := by omega
        have hbp : ((bs s)[p]'(by rw [bs_size]; exact hpl)) = s[p] := bs_get s p _
        have HYES : Hid (digC s[p] = true → ∀ j, n ≤ j → j < p + 1 → ∀ h : j < s.length, digC s[j] = true) := Lib.hid (fun hx j h1 h2 h => by
         by_cases h3 : j < p
         ·exact hno.out j h1 h3 h
         ·obtain rfl : j = p := by omega
          exact hx)
        have HNO : Hid (digC s[p] = false → p = n + m) := Lib.hid (fun hx => by rw [HEM.out, run_from digC s n p hnp hp hno.out (fun _ => hx)])
        have HDI := Lib.hid (fun W => dig_any s[p] W)
        generalize hx : s[p] = x at *
        clear hx
        cases h2 : digB x with
        | true =>
         rw [h2] at HDI
         have H1 : Hid (digC x = true) := Lib.hid h2
         clear h2
         go_wp2_with fail
         refine (HDI.out _).mono ?_
         rintro e W2 ⟨rfl, rfl⟩
         go_wp2
         go_round
         case rel => exact ⟨p + 1, by omega, by omega, by go_num, Lib.hid (HYES.out H1.out)⟩
         case measure => simp [intOf]; omega
        | false =>
         rw [h2] at HDI
         have H1 : Hid (digC x = false) := Lib.hid h2
         clear h2
         go_wp2_with fail
         refine (HDI.out _).mono ?_
         rintro e W2 ⟨rfl, rfl⟩
         go_wp2
         go_meet
         exact ⟨by rw [← HNO.out H1.out], Lib.hid ((HTB.out.set 0 (.int .i64 2)).congr rfl), Lib.hid (HB.out.far (p := ⟨T, 0, none⟩) HMT.out.1 _), Lib.hid (own_t HO.out HGT.out _), Lib.hid (kset HK.out HMT.out.2 _)⟩
       ·have hip : ¬ (p : Int) < (s.length : Int) := by omega
        have HNO : Hid (p = n + m) := Lib.hid (by rw [HEM.out, run_from digC s n p hnp hp hno.out (fun h => absurd h hpl)])
        go_wp2
        go_meet
        exact ⟨by rw [← HNO.out], Lib.hid ((HTB.out.set 0 (.int .i64 2)).congr rfl), Lib.hid (HB.out.far (p := ⟨T, 0, none⟩) HMT.out.1 _), Lib.hid (own_t HO.out HGT.out _), Lib.hid (kset HK.out HMT.out.2 _)⟩
     | false =>
      by_cases h39 : c = 39
      ·have hnx := HKM.out.symm.trans (next_quo hl hd h39)
       injection hnx with ek em
       subst ek
       have H39 := Lib.hid h39
       clear h39
       have HL := Lib.hid (low_any c y)
       rw [show lowB c = false from hl] at HL
       go_wp2_with fail
       refine HL.out.mono ?_
       rintro ev W2 ⟨rfl, rfl⟩
       have HL2 := Lib.hid (dig_any c y)
       rw [show digB c = false from hd] at HL2
       go_wp2_with fail
       refine HL2.out.mono ?_
       rintro ev W2 ⟨rfl, rfl⟩
       have t3 : ((c.toNat : Int) == 39) = true := by rw [beq_iff_eq]; exact HH39.out.1 H39.out
       obtain ⟨mx, hmx⟩ := (HE.out.quiet HK.out).mlen
       obtain ⟨q, hq⟩ : ∃ q, Lib.indexByte t 39 = q := ⟨_, rfl⟩
       have hge := Lib.indexByte_ge t 39
       have hlq : q < 0 ∨ q.toNat < t.length := by
        by_cases h : q < 0
        ·exact .inl h
        ·right
         have h1 := (Lib.indexByte_some (l := t) (c := 39) (o := q.toNat) (by rw [hq]; omega)).1
         exact (List.getElem?_eq_some_iff.1 h1).1
       rw [hq] at hge em
       have HI : Hid (∀ W, W.cell? ⟨5, 0, none⟩ = some (.int .i64 mx) → Calls Tryz.prog 65 #[.string (bs t), .string (bs [39])] W fun e W' => e = .returned (.int .i64 q) ∧ W = W') := Lib.hid (fun W hW => (Tryz.strings_Index (bs t) (bs [39]) mx W (by rw [bs_size]; omega) hW).mono fun e W' ⟨h1, h2⟩ => ⟨by rw [h1, ← hq, ← index_quote]; rfl, h2.symm⟩)
       have HMX : Hid ((y.setCell ⟨T, 0, none⟩ (.int .i64 3)).cell? ⟨5, 0, none⟩ = some (.int .i64 mx)) := Lib.hid (by
        obtain ⟨m0, hm0⟩ := HE.out.mlen
        have e1 := HK.out.cell_of hm0 (by simp)
        have e2 := (kset (i := 0) HK.out HMT.out.2 (.int .i64 3)).cell_of hm0 (by simp)
        rw [hmx] at e1
        rw [e1]
        exact e2)
       clear hl hd HL HL2 hq hmx
       have hsf1 := HSF1.out
       by_cases hq0 : q < 0
       ·rw [if_pos hq0] at em
        subst em
        clear hlq
        go_wp2_with fail
        refine (HI.out _ HMX.out).mono ?_
        rintro ev W2 ⟨rfl, rfl⟩
        go_wp2
        go_meet
        exact ⟨rfl, Lib.hid ((HTB.out.set 0 (.int .i64 3)).congr rfl), Lib.hid (HB.out.far (p := ⟨T, 0, none⟩) HMT.out.1 _), Lib.hid (own_t HO.out HGT.out _), Lib.hid (kset HK.out HMT.out.2 _)⟩
       ·rw [if_neg hq0] at em
        have HEM := Lib.hid em
        have hq1 : 0 ≤ q := by omega
        have hq2 : q ≤ 1000000 := by omega
        have hn1 : (n : Int) ≤ 1000000 := by omega
        have HQ0 : Hid ((n : Int) + q + 2 = ((n + m : Nat) : Int)) := Lib.hid (by omega)
        clear hlq em hge hq0
        go_wp2_with fail
        refine (HI.out _ HMX.out).mono ?_
        rintro ev W2 ⟨rfl, rfl⟩
        go_wp2
        go_meet
        exact ⟨by rw [← HQ0.out], Lib.hid ((HTB.out.set 0 (.int .i64 3)).congr rfl), Lib.hid (HB.out.far (p := ⟨T, 0, none⟩) HMT.out.1 _), Lib.hid (own_t HO.out HGT.out _), Lib.hid (kset HK.out HMT.out.2 _)⟩
      ·have hnx := HKM.out.symm.trans (next_mark hl hd h39)
       injection hnx with ek em
       subst ek
       have t3 : ((c.toNat : Int) == 39) = false := by rw [beq_eq_false_iff_ne]; exact fun h => h39 (HH39.out.2 h)
       have HEM : Hid (m = if hitN 2 (c :: t) marksL ≠ 0 then 2 else hitN 1 (c :: t) marksL) := Lib.hid (by rw [em, mark_hit])
       have HL := Lib.hid (low_any c y)
       rw [show lowB c = false from hl] at HL
       go_wp2_with fail
       refine HL.out.mono ?_
       rintro ev W2 ⟨rfl, rfl⟩
       have HL2 := Lib.hid (dig_any c y)
       rw [show digB c = false from hd] at HL2
       go_wp2_with fail
       refine HL2.out.mono ?_
       rintro ev W2 ⟨rfl, rfl⟩
       clear hl hd h39 HL HL2 em
       go_wp2_with fail
       go_loopw [7, 10] (fun kv dv wx => ∃ d h : Nat, dv = .int .i64 d ∧ kv = .int .i64 ((n + h : Nat) : Int) ∧ d ≤ 2 ∧ Hid ((d = 2 ∧ h = 0) ∨ (d = 1 ∧ h = hitN 2 (c :: t) marksL) ∨ (d = 0 ∧ hitN 2 (c :: t) marksL = 0 ∧ h = hitN 1 (c :: t) marksL)) ∧ Hid (Blk wx T 81 #[.int .i64 4, .string ⟨#[]⟩, .int .i64 n]) ∧ Hid (Blk wx M 29 #[.int .i64 0, .int .i64 0]) ∧ Hid (wx.ownsRow M 81 3 (.slice A acc.length cv) acc.length (tsCells acc)) ∧ Hid (Keeps [] w wx)) (fun _ dv _ => (intOf dv).toNat)
       case atStart => exact ⟨2, 0, rfl, rfl, Nat.le_refl _, Lib.hid (.inl ⟨rfl, rfl⟩), Lib.hid ((HTB.out.set 0 (.int .i64 4)).congr rfl), Lib.hid (HB.out.far (p := ⟨T, 0, none⟩) HMT.out.1 _), Lib.hid (own_t HO.out HGT.out _), Lib.hid (kset HK.out HMT.out.2 _)⟩
       case round =>
        obtain ⟨wx, rfl⟩ : ∃ z : World, z = wr := ⟨_, rfl⟩
        clear HTB HB HO HK z0 cz0 lt
        obtain ⟨d, h, rfl, rfl, hd2, HST, HTB, HB, HO, HK⟩ := hrel
        by_cases hd0 : d = 0
        ·have hdi : ¬ (0 : Int) < (d : Int) := by omega
         have HX : Hid (h = m) := Lib.hid (by
          rw [HEM.out]
          rcases HST.out with ⟨h1, _⟩ | ⟨h1, _⟩ | ⟨_, h1, h2⟩
          ·omega
          ·omega
          ·rw [if_neg (fun e => e h1)]; exact h2)
         clear hd0
         go_wp2
         go_meet
         exact ⟨congrArg _ (by have := HX.out; omega), HTB, HB, HO, HK⟩
        have hdi : (0 : Int) < (d : Int) := by omega
        by_cases hh : h = 0
        ·have HS1 : Hid (d = 1 → hitN 2 (c :: t) marksL = 0) := Lib.hid (fun e => by
          rcases HST.out with ⟨h1, _⟩ | ⟨_, h1⟩ | ⟨h1, _, _⟩
          ·omega
          ·omega
          ·omega)
         subst hh
         rw [Nat.add_zero]
         clear hd0 HST
         obtain ⟨mx, hmx⟩ := (HE.out.quiet HK.out).mlen
         have HSP := Lib.hid (split_marks mx wx hmx)
         have HMK := Lib.hid (Blk.new wx 9 (strs marksL).toArray)
         have HTB2 := Lib.hid (HTB.out.alloc (.cells (strs marksL).toArray 9))
         have HB2 := Lib.hid (HB.out.alloc (.cells (strs marksL).toArray 9))
         have HO2 := Lib.hid (HO.out.alloc (.cells (strs marksL).toArray 9))
         have HK2 := Lib.hid (HK.out.alloc (.cells (strs marksL).toArray 9))
         clear hmx HTB HB HO HK
         go_wp2_with fail
         refine HSP.out.mono ?_
         rintro ev w3 ⟨rfl, rfl⟩
         obtain ⟨B, hB⟩ : ∃ B, wx.heap.size = B := ⟨_, rfl⟩
         rw [hB] at HMK ⊢
         obtain ⟨w3, hw3⟩ : ∃ z, wx.alloc (.cells (strs marksL).toArray 9) = z := ⟨_, rfl⟩
         rw [hw3] at HMK HTB2 HB2 HO2 HK2 ⊢
         clear hB hw3 HSP
         have HCE : Hid (∀ r (hr : r < marksL.length), w3.cell? ⟨B, r, none⟩ = some (.string (bs marksL[r]))) := Lib.hid (fun r hr => by
          rw [HMK.out.cell r]
          simp [strs, List.getElem?_eq_getElem hr])
         have lb := HMK.out.lt
         clear HMK
         go_wp2_with fail
         go_loop [7, 43] (fun kv rv => ∃ r : Nat, r ≤ 13 ∧ rv = .int .i64 r ∧ kv = .int .i64 ((n + hitN d (c :: t) (marksL.take r) : Nat) : Int)) (fun _ rv => 13 - (intOf rv).toNat)
         case atStart => exact ⟨0, Nat.zero_le _, rfl, rfl⟩
         case round =>
          obtain ⟨r, hr, rfl, rfl⟩ := hrel
          by_cases hrl : r < 13
          ·have hri : (r : Int) < 13 := by omega
           have hr13 : r < marksL.length := hrl
           have hcl := HCE.out r hr13
           have HYES : Hid (marksL[r].length = d → Lib.hasPrefix (c :: t) marksL[r] = true → n + hitN d (c :: t) (marksL.take (r + 1)) = n + d) := Lib.hid (fun h1 h2 => by rw [hitN_yes hr13 h1 h2])
           have HNO : Hid ((marksL[r].length = d → Lib.hasPrefix (c :: t) marksL[r] = false) → n + hitN d (c :: t) (marksL.take (r + 1)) = n + hitN d (c :: t) (marksL.take r)) := Lib.hid (fun h1 => by rw [hitN_no hr13 h1])
           have HP := Lib.hid (fun W => Tryz.strings_HasPrefix (bs (c :: t)) (bs marksL[r]) W)
           obtain ⟨mk, hmk⟩ : ∃ mk, marksL[r] = mk := ⟨_, rfl⟩
           rw [hmk] at hcl HYES HNO HP
           obtain ⟨oh, hoh⟩ : ∃ oh, hitN d (c :: t) (marksL.take r) = oh := ⟨_, rfl⟩
           rw [hoh] at HNO ⊢
           have hoh2 : oh ≤ 2 := by rw [← hoh]; have := hitN_le d (c :: t) (marksL.take r); omega
           clear hmk hoh hr13
           by_cases hml : mk.length = d
           ·have HML := Lib.hid hml
            have tml : ((mk.length : Int) == (d : Int)) = true := by rw [beq_iff_eq]; omega
            clear hml
            have hsf := HSF.out
            cases hpf : Lib.hasPrefix (c :: t) mk with
            | true =>
             have HP2 : Hid (∀ W, Calls Tryz.prog 66 #[.string (bs (c :: t)), .string (bs mk)] W fun e W' => e = .returned (.bool true) ∧ W = W') := Lib.hid (fun W => (HP.out W).mono fun e W' ⟨h1, h2⟩ => ⟨by rw [h1, ← hpf]; rfl, h2.symm⟩)
             have HX : Hid (((n : Int) + (d : Int)) = ((n + hitN d (c :: t) (marksL.take (r + 1)) : Nat) : Int)) := Lib.hid (by rw [HYES.out HML.out hpf]; omega)
             clear hpf HP
             go_wp2_with fail
             refine (HP2.out _).mono ?_
             rintro ev W2 ⟨rfl, rfl⟩
             go_wp2
             go_round
             case rel => exact ⟨r + 1, by omega, by go_num, by rw [← HX.out]⟩
             case measure => simp [intOf]; omega
            | false =>
             have HP2 : Hid (∀ W, Calls Tryz.prog 66 #[.string (bs (c :: t)), .string (bs mk)] W fun e W' => e = .returned (.bool false) ∧ W = W') := Lib.hid (fun W => (HP.out W).mono fun e W' ⟨h1, h2⟩ => ⟨by rw [h1, ← hpf]; rfl, h2.symm⟩)
             have HX : Hid (n + hitN d (c :: t) (marksL.take (r + 1)) = n + oh) := Lib.hid (HNO.out (fun _ => hpf))
             clear hpf HP
             go_wp2_with fail
             refine (HP2.out _).mono ?_
             rintro ev W2 ⟨rfl, rfl⟩
             go_wp2
             go_round
             case rel => exact ⟨r + 1, by omega, by go_num, congrArg _ (by have := HX.out; omega)⟩
             case measure => simp [intOf]; omega
           ·have tml : ((mk.length : Int) == (d : Int)) = false := by rw [beq_eq_false_iff_ne]; omega
            have HX : Hid (n + hitN d (c :: t) (marksL.take (r + 1)) = n + oh) := Lib.hid (HNO.out (fun e => absurd e hml))
            clear hml HP
            go_wp2
            go_round
            case rel => exact ⟨r + 1, by omega, by go_num, congrArg _ (by have := HX.out; omega)⟩
            case measure => simp [intOf]; omega
          ·obtain rfl : r = 13 := by omega
           have HX : Hid ((d - 1 = 2 ∧ hitN d (c :: t) marksL = 0) ∨ (d - 1 = 1 ∧ hitN d (c :: t) marksL = hitN 2 (c :: t) marksL) ∨ (d - 1 = 0 ∧ hitN 2 (c :: t) marksL = 0 ∧ hitN d (c :: t) marksL = hitN 1 (c :: t) marksL)) := Lib.hid (by
            rcases (show d = 1 ∨ d = 2 by omega) with e | e
            ·exact .inr (.inr ⟨by omega, HS1.out e, by rw [e]⟩)
            ·exact .inr (.inl ⟨by omega, by rw [e]⟩))
           go_wp2
           go_roundw
           case rel => exact ⟨d - 1, hitN d (c :: t) marksL, by go_num, rfl, by omega, HX, HTB2, HB2, HO2, HK2⟩
           case measure => simp [intOf]; omega
        ·have tk : (((n + h : Nat) : Int) == (n : Int)) = false := by rw [beq_eq_false_iff_ne]; omega
         have HX : Hid (h = m) := Lib.hid (by
          rw [HEM.out]
          rcases HST.out with ⟨_, h1⟩ | ⟨_, h1⟩ | ⟨h1, _, _⟩
          ·omega
          ·rw [if_pos (by omega)]
           rcases hitN_or 2 (c :: t) marksL with h2 | h2 <;> omega
          ·omega)
         clear hd0 hh
         go_wp2
         go_meet
         exact ⟨congrArg _ (by have := HX.out; omega), HTB, HB, HO, HK⟩
   case rest =>
    obtain ⟨rfl, HTB2, HB2, HO2, HK2⟩ := hcut
    obtain ⟨wx, rfl⟩ : ∃ y : World, y = wc := ⟨_, rfl⟩
    clear HTB HB HO HK z0 cz0 lt HH39 HKM HSF1 HSF
    have HTB := HTB2
    have HB := HB2
    have HO := HO2
    have HK := HK2
    clear HTB2 HB2 HO2 HK2
    by_cases hm : m = 0
    ·subst hm
     have HX : Hid (R = .error (3, (n : Int))) := Lib.hid (by rw [← HR2.out]; exact if_pos rfl)
     clear HR2
     have f0 := HB.out.frozen 0
     have f1 := HB.out.frozen 1
     have g0 : wx.cell? ⟨M, 0, none⟩ = some (.int .i64 0) := HB.out.cell 0
     have g1 : wx.cell? ⟨M, 1, none⟩ = some (.int .i64 0) := HB.out.cell 1
     have lm := HB.out.lt
     clear HTB HO
     go_wp2
     have hb7 := (HB.out.set 0 (.int .i64 3)).set 1 (.int .i64 n)
     have x0 := hb7.cell 0
     have x1 := hb7.cell 1
     refine bodyPost_ret (v := .tuple #[.slice none 0 0, .agg #[.int .i64 3, .int .i64 n]]) (by simp [results, Tryz.results26, go_sem, x0, x1]) rfl ?_
     exact ⟨by rw [HX.out]; rfl, kset (kset HK.out HMw.out _) HMw.out _⟩
    ·have m0 : ((n : Int) + (m : Int) == (n : Int)) = false := by rw [beq_eq_false_iff_ne]; omega
     by_cases h4 : acc.length = 400
     ·have HX : Hid (R = .error (4, (n : Int))) := Lib.hid (by rw [← HR2.out]; exact (if_neg hm).trans (if_pos h4))
      have a0 : (400 : Int) ≤ (acc.length : Int) := by omega
      clear HR2 h4 hm
      have f0 := HB.out.frozen 0
      have f1 := HB.out.frozen 1
      have g0 : wx.cell? ⟨M, 0, none⟩ = some (.int .i64 0) := HB.out.cell 0
      have g1 : wx.cell? ⟨M, 1, none⟩ = some (.int .i64 0) := HB.out.cell 1
      have lm := HB.out.lt
      clear HTB HO
      go_wp2
      have hb7 := (HB.out.set 0 (.int .i64 4)).set 1 (.int .i64 n)
      have x0 := hb7.cell 0
      have x1 := hb7.cell 1
      refine bodyPost_ret (v := .tuple #[.slice none 0 0, .agg #[.int .i64 4, .int .i64 n]]) (by simp [results, Tryz.results26, go_sem, x0, x1]) rfl ?_
      exact ⟨by rw [HX.out]; rfl, kset (kset HK.out HMw.out _) HMw.out _⟩
     ·have a0 : ¬ (400 : Int) ≤ (acc.length : Int) := by omega
      have hsl := fun W => slice_str (P := Tryz.prog) Tryz.underlying9 s n (n + m) (by omega) (by omega) W
      obtain ⟨u, hu⟩ : ∃ u, (s.take (n + m)).drop n = u := ⟨_, rfl⟩
      rw [hu, show ((n + m : Nat) : Int) = (n : Int) + (m : Int) by omega] at hsl
      have HQ : Hid (lexGo f (s.drop (n + m)) (n + m) (acc ++ [⟨k, u, (n : Int)⟩]) = R) := Lib.hid (by
       have hdc : c :: t = s.drop n := HD.out.symm
       rw [← HR2.out, ← hu, List.drop_take, show n + m - n = m by omega, hdc, show s.drop (n + m) = (s.drop n).drop m by rw [List.drop_drop]]
       exact ((if_neg hm).trans (if_neg h4)).symm)
      clear hu HR2
      have z1 := HTB.out.frozen 1
      have cz1 : wx.cell? ⟨T, 1, none⟩ = some (.string ⟨#[]⟩) := HTB.out.cell 1
      have c0 : wx.cell? ⟨T, 0, none⟩ = some (.int .i64 k) := HTB.out.cell 0
      have c2 : wx.cell? ⟨T, 2, none⟩ = some (.int .i64 n) := HTB.out.cell 2
      have lt := HTB.out.lt
      have HO3 := Lib.hid (own_t (i := 1) HO.out HGT.out (.string (bs u)))
      have HB3 := Lib.hid (HB.out.far (p := ⟨T, 1, none⟩) HMT.out.1 (.string (bs u)))
      have HK3 := Lib.hid (kset (i := 1) HK.out HMT.out.2 (.string (bs u)))
      have HTB3 := Lib.hid ((HTB.out.set 1 (.string (bs u))).congr (cs' := #[.int .i64 k, .string (bs u), .int .i64 n]) rfl)
      go_upto_region 36 with (fail)
      obtain ⟨w4, hw4⟩ : ∃ z, wx.setCell ⟨T, 1, none⟩ (.string (bs u)) = z := ⟨_, rfl⟩
      rw [hw4] at HO3 HB3 HK3 HTB3 ⊢
      clear hw4 z1 cz1 c0 c2 lt HO HB HK HTB hsl
      have c0 : w4.cell? ⟨T, 0, none⟩ = some (.int .i64 k) := HTB3.out.cell 0
      have c1 : w4.cell? ⟨T, 1, none⟩ = some (.string (bs u)) := HTB3.out.cell 1
      have c2 : w4.cell? ⟨T, 2, none⟩ = some (.int .i64 n) := HTB3.out.cell 2
      have lt := HTB3.out.lt
      have HWZ := Lib.hid (show M ≤ w4.heap.size + 1 from Nat.le_succ_of_le (Nat.le_of_lt HB3.out.lt))
      go_wp2_with (at_builtin; refine wpList_append_lies _ rfl _ _ 71 rfl _ 81 i0 _ 3 32 Tryz.underlying71 hi hz0 hz1 hz2 rfl (by decide) _ acc.length (tsCells acc) rfl (HO3.out.alloc _) ⟨w4.heap.size, 0, none⟩ 1 1 [.int .i64 k, .string (bs u), .int .i64 n] rfl rfl (World.news_of_block (heap_alloc_new _ _)) (by simp [Value.oneCell']) (by decide) hbd.out.1 hbd.out.2 (by simp; exact HWZ.out) _ rfl ?_; intro gw cap2 w8 hown8 hgrow8 hat8 hlt8)
      have HK8 := Lib.hid ((HK3.out.alloc _).grown hgrow8 (fun g hg => .inr (Nat.le_trans HMw.out (HO3.out.lt g hg).1)))
      have HB8 := Lib.hid (blk_grown HB3.out hgrow8 (own_ty HO3.out) (by decide))
      rw [← tsCells_one] at hown8
      have HO8 := Lib.hid hown8
      have ho1 : (acc ++ [⟨k, u, (n : Int)⟩] : List Tk).length = acc.length + 1 := by simp
      have HO1 := Lib.hid ho1
      clear hown8 hgrow8 hat8 hlt8 ho1 c0 c1 c2 lt HO3 HB3 HK3 HTB3
      go_wp2
      go_roundw
      case rel => exact ⟨n + m, f, acc ++ [⟨k, u, (n : Int)⟩], by omega, by go_num, by omega, by rw [HO1.out]; omega, HQ, Lib.hid (by rw [HO1.out]; exact HO8.out), HB8, HK8⟩
      case measure => simp [intOf]; omega
  ·obtain rfl : n = s.length := by omega
   have HX : Hid (R = .ok (acc ++ [⟨5, [], (s.length : Int)⟩])) := Lib.hid (by
    rw [← HR.out, List.drop_of_length_le (Nat.le_refl _)]
    cases f <;> rfl)
   have ho1 : (acc ++ [⟨5, [], (s.length : Int)⟩] : List Tk).length = acc.length + 1 := by simp
   have HO1 := Lib.hid ho1
   obtain ⟨q0, q1⟩ := (HE.out.quiet HK.out).fine
   have lq := World.block_lt_of_cell? _ _ q0
   have f0 := HB.out.frozen 0
   have f1 := HB.out.frozen 1
   have g0 : wr.cell? ⟨M, 0, none⟩ = some (.int .i64 0) := HB.out.cell 0
   have g1 : wr.cell? ⟨M, 1, none⟩ = some (.int .i64 0) := HB.out.cell 1
   have lm := HB.out.lt
   have HOD : Hid (wr.drew.ownsRow M 81 3 (.slice A acc.length cv) acc.length (tsCells acc)) := Lib.hid (own_keep HO.out (Keeps.refl [] wr).drew (fun g hg hm => by cases hm))
   have HBD : Hid (Blk wr.drew M 29 #[.int .i64 0, .int .i64 0]) := Lib.hid (HB.out.keep (Keeps.refl [] wr).drew (by simp))
   have HKD : Hid (Keeps [] w wr.drew) := Lib.hid (HK.out.trans (Keeps.refl [] wr).drew)
   have HRD := Lib.hid (HE.out.quiet HKD.out)
   have HWD := Lib.hid (show M ≤ wr.drew.heap.size + 1 from HWZ.out)
   clear ho1 HR
   go_upto_region 38 with (fail)
   go_region_law (first | (refine step_append_lies _ (by rfl) _ _ _ (by rfl) M 81 i0 _ 3 32 Tryz.underlying71 hi hz0 hz1 hz2 rfl (by decide) (.slice A acc.length cv) acc.length (tsCells acc) (by rfl) (HOD.out.alloc _) ⟨wr.drew.heap.size, 0, none⟩ 1 1 [.int .i64 5, .string (bs []), .int .i64 s.length] (by rfl) rfl (World.news_of_block (heap_alloc_new _ _)) (by simp [Value.oneCell']) (by decide) hbd.out.1 hbd.out.2 (by simp; exact HWD.out) _ rfl ?_; intro gw cap w7 hown7 hgrow7 hat7 hlt7; have hb7 := blk_grown HBD.out hgrow7 (own_ty HOD.out) (by decide); have hk7 := (HKD.out.alloc _).grown hgrow7 (fun g hg => .inr (Nat.le_trans HMw.out (HOD.out.lt g hg).1)); have f07 := hb7.frozen 0; have f17 := hb7.frozen 1; have g07 : w7.cell? ⟨M, 0, none⟩ = some (.int .i64 0) := hb7.cell 0; have g17 : w7.cell? ⟨M, 1, none⟩ = some (.int .i64 0) := hb7.cell 1; have lm7 := hb7.lt; have q07 := (HE.out.quiet hk7).fine.1; have q17 := (HE.out.quiet hk7).fine.2))
   all_goals
    go_wp2
    have hb8 := (hb7.set 0 (.int .i64 0)).set 1 (.int .i64 (-1))
    have x0 := hb8.cell 0
    have x1 := hb8.cell 1
    rw [← tsCells_one] at hown7
    have HO8 := Lib.hid hown7
    have HK8 := Lib.hid (kset (i := 1) (kset (i := 0) hk7 HMw.out (.int .i64 0)) HMw.out (.int .i64 (-1)))
    refine bodyPost_ret (v := .tuple #[.slice (some ⟨gw, 0, none⟩) (acc.length + 1) cap, .agg #[.int .i64 0, .int .i64 (-1)]]) (by simp [results, Tryz.results26, go_sem, x0, x1]) rfl ?_
    have hkM : Keeps [M] w7 ((w7.setCell ⟨M, 0, none⟩ (.int .i64 0)).setCell ⟨M, 1, none⟩ (.int .i64 (-1))) := ((Keeps.refl _ _).setCell (.inl (by simp)) _).setCell (.inl (by simp)) _
    have hO9 := own_far (t := 29) HO8.out hkM (fun x hx => by rw [List.mem_singleton.1 hx]; exact hb7.ty) (by decide)
    exact ⟨by rw [HX.out]; exact ⟨_, _, by rw [HO1.out], by rw [HO1.out]; exact hO9⟩, HK8.out⟩
end Go.Proofs.YtnjjajanfedjiaaGreatDoor
