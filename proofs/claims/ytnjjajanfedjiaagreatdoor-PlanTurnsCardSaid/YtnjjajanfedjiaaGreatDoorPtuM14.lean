/- What the cutter's tokens are like: plain. The cutter: tokens. Parse's deferred closure. -/
import Derived.Test.YtnjjajanfedjiaaGreatDoorPtuM3
import Derived.Lib.IndexLaws
import Derived.Test.YtnjjajanfedjiaaGreatDoorPtuM13
import Derived.Defers
import Derived.Recover
set_option linter.unusedSimpArgs false
set_option linter.unusedVariables false
namespace Go.Proofs.YtnjjajanfedjiaaGreatDoor
theorem runN_le' (p : UInt8 → Bool) : ∀ (s : Bs), runN p s ≤ s.length
 | [] => Nat.le_refl _
 | c :: s => by
  unfold runN
  split
  ·simpa using runN_le' p s
  ·exact Nat.zero_le _
theorem runN_take (p : UInt8 → Bool) : ∀ (s : Bs), ∀ c ∈ s.take (runN p s), p c = true
 | [], c, h => by simp [runN] at h
 | d :: s, c, h => by
  unfold runN at h
  by_cases hd : p d
  ·rw [if_pos hd, List.take_succ_cons] at h
   rcases List.mem_cons.1 h with rfl | h
   ·exact hd
   ·exact runN_take p s c h
  ·rw [if_neg hd] at h
   simp at h
theorem hasPrefix_le {s m : Bs} (h : Lib.hasPrefix s m = true) : m.length ≤ s.length := by
 unfold Lib.hasPrefix at h
 exact (List.isPrefixOf_iff_prefix.1 h).length_le
theorem markN_le (s : Bs) : ∀ ms : List Bs, markN s ms ≤ s.length
 | [] => Nat.zero_le _
 | m :: ms => by
  unfold markN
  split
  ·rename_i h; exact hasPrefix_le h
  ·exact markN_le s ms
theorem nextL_le (c : UInt8) (t : Bs) : (nextL (c :: t)).2 ≤ (c :: t).length := by
 unfold nextL
 split
 ·exact runN_le' _ _
 split
 ·exact runN_le' _ _
 split
 ·show (if Lib.indexByte t 39 < 0 then 0 else (Lib.indexByte t 39).toNat + 2) ≤ (c :: t).length
  split
  ·exact Nat.zero_le _
  ·rename_i h
   have h1 := (Lib.indexByte_some (l := t) (c := 39) (o := (Lib.indexByte t 39).toNat) (by omega)).1
   have := (List.getElem?_eq_some_iff.1 h1).1
   simp only [List.length_cons]
   omega
 ·exact markN_le _ _
theorem next_w (c : UInt8) (t : Bs) (i : Int) (hs : (c :: t).length ≤ 1000000) (h0 : (nextL (c :: t)).2 ≠ 0) : TkW ⟨(nextL (c :: t)).1, (c :: t).take (nextL (c :: t)).2, i⟩ := by
 have hle := nextL_le c t
 refine ⟨?_, ?_, ?_⟩
 ·show (List.take _ _).length ≤ _
  rw [List.length_take]
  omega
 ·intro h d hd
  revert h hd
  dsimp only
  unfold nextL
  split
  ·intro h; cases h
  split
  ·intro _ hd; exact runN_take _ _ d hd
  split
  ·intro h; cases h
  ·intro h; cases h
 ·intro h
  show 2 ≤ (List.take _ _).length
  rw [List.length_take]
  revert h h0 hle
  dsimp only
  unfold nextL
  split
  ·intro _ _ h; cases h
  split
  ·intro _ _ h; cases h
  split
  ·dsimp only
   split
   ·intro h; exact absurd rfl h
   ·intro _ _ _; omega
  ·intro _ _ h; cases h
theorem lexGo_ok : ∀ (f : Nat) (s : Bs) (i : Nat) (acc l : List Tk), s.length ≤ 1000000 → acc.length ≤ 400 → (∀ t ∈ acc, TkW t) → lexGo f s i acc = .ok l → EndT l ∧ (∀ t ∈ l, TkW t) ∧ l.length ≤ 401 := by
 have hend : ∀ (acc : List Tk) (i : Nat) (l : List Tk), acc.length ≤ 400 → (∀ t ∈ acc, TkW t) → (Except.ok (acc ++ [⟨5, [], (i : Int)⟩]) : Except (Int × Int) (List Tk)) = .ok l → EndT l ∧ (∀ t ∈ l, TkW t) ∧ l.length ≤ 401 := by
  intro acc i l hl ha h
  injection h with h
  subst h
  refine ⟨⟨acc, _, rfl, rfl⟩, ?_, by simp; omega⟩
  intro t ht
  rcases List.mem_append.1 ht with ht | ht
  ·exact ha t ht
  ·rw [List.mem_singleton.1 ht]
   exact ⟨by simp, (fun h => by cases h), (fun h => by cases h)⟩
 intro f
 induction f with
 | zero => intro s i acc l _ hl ha h; exact hend acc i l hl ha h
 | succ f ih =>
  intro s i acc l hs hl ha h
  cases s with
  | nil => exact hend acc i l hl ha h
  | cons c t =>
   unfold lexGo at h
   split at h
   ·exact ih t (i + 1) acc l (by simp at hs; omega) hl ha h
   split at h
   ·cases h
   split at h
   ·cases h
   rename_i h1 h2 h3
   refine ih _ _ _ l ?_ ?_ ?_ h
   ·rw [List.length_drop]; omega
   ·rw [List.length_append]; simp; omega
   ·intro u hu
    rcases List.mem_append.1 hu with hu | hu
    ·exact ha u hu
    ·rw [List.mem_singleton.1 hu]
     exact next_w c t i hs h2
theorem lexL_ok {s : Bs} {l : List Tk} (hs : s.length ≤ 1000000) (h : lexL s = .ok l) : EndT l ∧ (∀ t ∈ l, TkW t) ∧ l.length ≤ 401 :=
 lexGo_ok _ _ _ _ _ hs (by simp) (fun t ht => by cases ht) h
end Go.Proofs.YtnjjajanfedjiaaGreatDoor
namespace Go.Proofs.YtnjjajanfedjiaaGreatDoor
open Go.RowKit Go.BigFrame
attribute [local go_sem] bs_size bs_extract bs_append bs_toList
theorem tinf : (Tryz.prog.info? 97).map (fun i => (i.zero, i.size, i.bytes)) = some (some (.agg #[.int .i64 0, .string ⟨#[]⟩, .int .i64 0]), 3, 32) := by kernel_rfl
theorem slice_from {P : Program} {T : TypeId} (hT : P.underlying T = some .string) (s : Bs) (lo : Nat) (h1 : lo ≤ s.length) (W : World) :
  (Instr.slice T (.string (bs s)) (some (.int .i64 (lo : Int))) none none).run P W = .ok (.string (bs (s.drop lo))) W := by
 have h3 : (lo : Int) ≤ (s.length : Int) := by omega
 have e : (bs s).extract lo s.length = bs (s.drop lo) := by rw [bs_extract, List.take_of_length_le (Nat.le_refl _)]
 rw [← e]
 have h5 : lo ≤ (bs s).size := by rw [bs_size]; exact h1
 have h6 : (lo : Int) ≤ ((bs s).size : Int) := by rw [bs_size]; exact h3
 go_simp
def TokOut (R : Except (Int × Int) (List Tk)) (base : Nat) (e : Ending) (w' : World) : Prop := match R with
 | .ok l => ∃ A c, e = .returned (.tuple #[.slice A l.length c, .nilIface]) ∧ w'.ownsRow base 97 3 (.slice A l.length c) l.length (tsCells l)
 | .error x => ∃ gi, e = .returned (.tuple #[.slice none 0 0, .iface 122 (.pointer (some ⟨gi, 0, none⟩))]) ∧ Blk w' gi 123 #[.int .i64 x.1, .int .i64 x.2]
theorem tsCells_one (acc : List Tk) (k : Int) (u : Bs) (i : Int) : tsCells (acc ++ [⟨k, u, i⟩]) = tsCells acc ++ [.int .i64 k, .string (bs u), .int .i64 i] := by simp [tsCells, tCells]
set_option maxRecDepth 100000 in
set_option maxHeartbeats 8000000 in
theorem tokens_any (s : Bs) (hs : s.length ≤ 1000000) (w : World) (hE : FEnv w) :
  Calls Tryz.prog 35 #[.string (bs s)] w fun e w' => TokOut (lexL s) w.heap.size e w' ∧ Keeps [] w w' := by
 obtain ⟨i0, hi, hz0, hz1, hz2⟩ := info_parts tinf
 obtain ⟨R, hR⟩ : ∃ R, lexL s = R := ⟨_, rfl⟩
 rw [hR]
 unfold lexL at hR
 have HR := Lib.hid hR
 have HE := Lib.hid hE
 clear hR hE
 go_enter Tryz.func35, Tryz.ntmps35
 go_wp2
 go_loopw [4, 5] (fun v i wr => ∃ (n f : Nat) (acc : List Tk), n ≤ s.length ∧ i = .int .i64 n ∧ s.length - n ≤ f ∧ acc.length ≤ 400 ∧ Hid (lexGo f (s.drop n) n acc = R) ∧ wr.ownsRow w.heap.size 97 3 v acc.length (tsCells acc) ∧ Keeps [] w wr) (fun _ i _ => s.length - (intOf i).toNat)
 case atStart => exact ⟨0, s.length, [], Nat.zero_le _, rfl, Nat.le_refl _, by simp, HR, World.ownsRow_nil _ _ _ _, Keeps.refl _ _⟩
 case round =>
  clear HR
  obtain ⟨n, f, acc, hn, rfl, hf, hacc, HR, hown, hk⟩ := hrel
  obtain ⟨A, cv, rfl, -⟩ := own_form hown
  have HO := Lib.hid hown
  have HK := Lib.hid hk
  have hbd := Lib.hid (show acc.length + 1 ≤ maxLen ∧ (acc.length + 1) * 32 ≤ 140737488355328 by simp only [maxLen]; omega)
  have HWZ := Lib.hid (show w.heap.size ≤ wr.heap.size + 1 from Nat.le_succ_of_le hk.size)
  clear hown hk
  by_cases hlt : n < s.length
  ·have hi0 : (n : Int) < (s.length : Int) := by omega
   obtain ⟨f, rfl⟩ : ∃ m, f = m + 1 := ⟨f - 1, by omega⟩
   have hbyte : ((bs s)[n]'(by rw [bs_size]; exact hlt)) = s[n] := bs_get s n _
   have hdr : s.drop n = s[n] :: s.drop (n + 1) := List.drop_eq_getElem_cons hlt
   have hsf := fun W => slice_from (P := Tryz.prog) Tryz.underlying9 s n hn W
   obtain ⟨c, hc⟩ : ∃ c, s[n] = c := ⟨_, rfl⟩
   obtain ⟨t, ht⟩ : ∃ t, s.drop (n + 1) = t := ⟨_, rfl⟩
   rw [hc] at hbyte hdr
   rw [ht] at hdr
   rw [hdr] at hsf
   have hlt2 : t.length + n + 1 = s.length := by rw [← ht, List.length_drop]; omega
   have h32 : c = 32 ↔ (c.toNat : Int) = 32 := ⟨fun h => by rw [h]; rfl, fun h => UInt8.toNat_inj.1 (by have : (32 : UInt8).toNat = 32 := rfl; omega)⟩
   have h10 : c = 10 ↔ (c.toNat : Int) = 10 := ⟨fun h => by rw [h]; rfl, fun h => UInt8.toNat_inj.1 (by have : (10 : UInt8).toNat = 10 := rfl; omega)⟩
   have HR1 : Hid ((if c = 32 ∨ c = 10 then lexGo f t (n + 1) acc
  else if (nextL (c :: t)).2 = 0 then .error (3, (n : Int))
  else if acc.length = 400 then .error (4, (n : Int))
  else lexGo f ((c :: t).drop (nextL (c :: t)).2) (n + (nextL (c :: t)).2) (acc ++ [⟨(nextL (c :: t)).1, (c :: t).take (nextL (c :: t)).2, n⟩])) = R) := Lib.hid (by rw [← HR.out, hdr]; rfl)
   have HT := Lib.hid ht
   have HD := Lib.hid hdr
   clear HR hc ht
   by_cases e32 : c = 32
   ·have t1 : ((c.toNat : Int) == 32) = true := by rw [beq_iff_eq]; exact h32.1 e32
    have HQ : Hid (lexGo f (s.drop (n + 1)) (n + 1) acc = R) := Lib.hid (by rw [HT.out, ← HR1.out, if_pos (.inl e32)])
    clear h32 h10 e32 HR1 hdr hsf
    go_wp2
    go_roundw
    case rel => exact ⟨n + 1, f, acc, by omega, by go_num, by omega, hacc, HQ, HO.out, HK.out⟩
    case measure => simp [intOf]; omega
   have t1 : ((c.toNat : Int) == 32) = false := by rw [beq_eq_false_iff_ne]; exact fun h => e32 (h32.2 h)
   by_cases e10 : c = 10
   ·have t2 : ((c.toNat : Int) == 10) = true := by rw [beq_iff_eq]; exact h10.1 e10
    have HQ : Hid (lexGo f (s.drop (n + 1)) (n + 1) acc = R) := Lib.hid (by rw [HT.out, ← HR1.out, if_pos (.inr e10)])
    clear h32 h10 e32 e10 HR1 hdr hsf
    go_wp2
    go_roundw
    case rel => exact ⟨n + 1, f, acc, by omega, by go_num, by omega, hacc, HQ, HO.out, HK.out⟩
    case measure => simp [intOf]; omega
   have t2 : ((c.toNat : Int) == 10) = false := by rw [beq_eq_false_iff_ne]; exact fun h => e10 (h10.2 h)
   have HR2 : Hid ((if (nextL (c :: t)).2 = 0 then .error (3, (n : Int))
  else if acc.length = 400 then .error (4, (n : Int))
  else lexGo f ((c :: t).drop (nextL (c :: t)).2) (n + (nextL (c :: t)).2) (acc ++ [⟨(nextL (c :: t)).1, (c :: t).take (nextL (c :: t)).2, n⟩])) = R) := Lib.hid (by rw [← HR1.out]; exact (if_neg (fun h => h.elim e32 e10)).symm)
   have HN := Lib.hid (next_any c t (by omega) wr (HE.out.quiet HK.out))
   have hle := nextL_le c t
   obtain ⟨km, hkm⟩ : ∃ km, nextL (c :: t) = km := ⟨_, rfl⟩
   obtain ⟨k, m⟩ := km
   rw [hkm] at HN HR2 hle
   simp only [List.length_cons] at hle
   clear h32 h10 e32 e10 HR1 hdr hkm
   by_cases hm : m = 0
   ·subst hm
    have HX : Hid (R = .error (3, (n : Int))) := Lib.hid (by rw [← HR2.out]; exact if_pos rfl)
    go_wp2_with fail
    refine HN.out.mono ?_
    rintro e w2 ⟨rfl, rfl⟩
    go_wp2
    go_ret2
    exact ⟨by rw [HX.out]; exact ⟨_, rfl, Blk.new _ _ _⟩, HK.out.alloc _⟩
   ·have m0 : ((m : Int) == 0) = false := by rw [beq_eq_false_iff_ne]; omega
    by_cases h4 : acc.length = 400
    ·have HX : Hid (R = .error (4, (n : Int))) := Lib.hid (by rw [← HR2.out]; exact (if_neg hm).trans (if_pos h4))
     have a0 : ((acc.length : Int) == 400) = true := by rw [beq_iff_eq]; omega
     go_wp2_with fail
     refine HN.out.mono ?_
     rintro e w2 ⟨rfl, rfl⟩
     go_wp2
     go_ret2
     exact ⟨by rw [HX.out]; exact ⟨_, rfl, Blk.new _ _ _⟩, HK.out.alloc _⟩
    ·have a0 : ((acc.length : Int) == 400) = false := by rw [beq_eq_false_iff_ne]; omega
     have hsl := fun W => slice_str (P := Tryz.prog) Tryz.underlying9 s n (n + m) (by omega) (by omega) W
     have etk : (s.take (n + m)).drop n = (c :: t).take m := by rw [List.drop_take, HD.out, show n + m - n = m by omega]
     rw [etk, show ((n + m : Nat) : Int) = (n : Int) + (m : Int) by omega] at hsl
     obtain ⟨u, hu⟩ : ∃ u, (c :: t).take m = u := ⟨_, rfl⟩
     rw [hu] at hsl
     have HQ : Hid (lexGo f (s.drop (n + m)) (n + m) (acc ++ [⟨k, u, (n : Int)⟩]) = R) := Lib.hid (by
      rw [← HR2.out, ← hu, show s.drop (n + m) = (c :: t).drop m by rw [← HD.out, List.drop_drop]]
      exact ((if_neg hm).trans (if_neg h4)).symm)
     clear etk hu
     go_wp2_with fail
     refine HN.out.mono ?_
     rintro e w2 ⟨rfl, rfl⟩
     go_wp2_with (at_builtin; refine wpList_append_lies _ rfl _ _ 89 rfl _ 97 i0 _ 3 32 Tryz.underlying89 hi hz0 hz1 hz2 rfl (by decide) _ acc.length (tsCells acc) rfl (HO.out.alloc _) ⟨wr.heap.size, 0, none⟩ 1 1 [.int .i64 k, .string (bs u), .int .i64 n] rfl rfl (World.news_of_block (heap_alloc_new _ _)) (by simp [Value.oneCell']) (by decide) hbd.out.1 hbd.out.2 (by simp; exact HWZ.out) _ rfl ?_; intro gw cap2 w8 hown8 hgrow8 hat8 hlt8)
     have HK8 := Lib.hid ((HK.out.alloc _).grown hgrow8 (fun g hg => .inr (HO.out.lt g hg).1))
     rw [← tsCells_one] at hown8
     have HO8 := Lib.hid hown8
     have ho1 : (acc ++ [⟨k, u, (n : Int)⟩] : List Tk).length = acc.length + 1 := by simp
     have HO1 := Lib.hid ho1
     clear hown8 hgrow8 hat8 hlt8 ho1 hsl hsf
     go_wp2
     go_roundw
     case rel => exact ⟨n + m, f, acc ++ [⟨k, u, (n : Int)⟩], by omega, by go_num, by omega, by rw [HO1.out]; omega, HQ, by rw [HO1.out]; exact HO8.out, HK8.out⟩
     case measure => simp [intOf]; omega
  ·obtain rfl : n = s.length := by omega
   have HX : Hid (R = .ok (acc ++ [⟨5, [], (s.length : Int)⟩])) := Lib.hid (by
    rw [← HR.out, List.drop_of_length_le (Nat.le_refl _)]
    cases f <;> rfl)
   have ho1 : (acc ++ [⟨5, [], (s.length : Int)⟩] : List Tk).length = acc.length + 1 := by simp
   have HO1 := Lib.hid ho1
   clear ho1 HR
   go_wp2_with (at_builtin; refine wpList_append_lies _ rfl _ _ 89 rfl _ 97 i0 _ 3 32 Tryz.underlying89 hi hz0 hz1 hz2 rfl (by decide) _ acc.length (tsCells acc) rfl (HO.out.alloc _) ⟨wr.heap.size, 0, none⟩ 1 1 [.int .i64 5, .string (bs []), .int .i64 s.length] rfl rfl (World.news_of_block (heap_alloc_new _ _)) (by simp [Value.oneCell']) (by decide) hbd.out.1 hbd.out.2 (by simp; exact HWZ.out) _ rfl ?_; intro gw cap2 w8 hown8 hgrow8 hat8 hlt8)
   have HK8 := Lib.hid ((HK.out.alloc _).grown hgrow8 (fun g hg => .inr (HO.out.lt g hg).1))
   rw [← tsCells_one] at hown8
   have HO8 := Lib.hid hown8
   clear hown8 hgrow8 hat8 hlt8
   go_wp2
   go_ret2
   exact ⟨by rw [HX.out]; exact ⟨_, _, by rw [HO1.out]; rfl, by rw [HO1.out]; exact HO8.out⟩, HK8.out⟩
end Go.Proofs.YtnjjajanfedjiaaGreatDoor
namespace Go.Proofs.YtnjjajanfedjiaaGreatDoor
open Go.RowKit Go.BigFrame
attribute [local go_sem] bs_size bs_extract bs_append bs_toList
theorem wp_tmps {P : Program} {c : Code} {Q : Exit → Act → World → Prop} {t t' : Array Value} {d : List Deferred} {w : World} (h : t = t') (k : c.wp P Q ⟨t', d⟩ w) : c.wp P Q ⟨t, d⟩ w := h ▸ k
theorem wp_named {P : Program} {c : Code} {Q : Exit → Act → World → Prop} {a : Act} {w : World} (h : ∀ Q' : Exit → Act → World → Prop, (∀ e a w, Q e a w → Q' e a w) → c.wp P Q' a w) : c.wp P Q a w := h Q (fun _ _ _ h => h)
set_option maxRecDepth 100000 in
set_option maxHeartbeats 4000000 in
theorem catch_idle (p q : Addr) (w : World) :
  CallsD Tryz.prog 34 #[.pointer (some p), .pointer (some q)] .returning w fun e u' w' => e = .returned (.tuple #[]) ∧ u' = .returning ∧ w' = w := by
 refine callsD_of_wpS Tryz.func34 rfl fun c₀ cs hu => ?_
 apply wpS_seq
 apply wpS_region
 simp [wpOpsS, go_sem, recoverD, hu, Tryz.ntmps34, Exit.thenS]
 refine wpS_of_wp ?_
 go_wp2
 cases c₀
 simp_all [bodyPostS, results, Tryz.results34]
set_option maxRecDepth 100000 in
set_option maxHeartbeats 4000000 in
theorem catch_panicking (fb eb gi : Nat) (v0 v1 v2 : Value) (older : List PanicEntry) (w : World) (hf : Blk w fb 26 #[v0, v1, v2]) (he : Blk w eb 33 #[.nilIface]) (hne : fb ≠ eb) :
  CallsD Tryz.prog 34 #[.pointer (some ⟨fb, 0, none⟩), .pointer (some ⟨eb, 0, none⟩)] (.panicking ({ v := .iface 87 (.agg #[.iface 122 (.pointer (some ⟨gi, 0, none⟩))]), recovered := false } :: older)) w fun e u' w' =>
   e = .returned (.tuple #[]) ∧ u' = .panicking ({ v := .iface 87 (.agg #[.iface 122 (.pointer (some ⟨gi, 0, none⟩))]), recovered := true } :: older) ∧ Blk w' fb 26 #[.slice none 0 0, .slice none 0 0, .slice none 0 0] ∧ Blk w' eb 33 #[.iface 122 (.pointer (some ⟨gi, 0, none⟩))] ∧ Keeps [fb, eb] w w' := by
 refine callsD_of_wpS Tryz.func34 rfl fun c₀ cs hu => ?_
 apply wpS_seq
 apply wpS_region
 simp [wpOpsS, go_sem, recoverD, hu, Tryz.ntmps34, Exit.thenS]
 refine wpS_of_wp (wp_named fun QQ hQ => ?_)
 have HQ := Lib.hid hQ
 have hta : ∀ (v : Value) (w : World), (Instr.typeAssert (.iface 87 v) 20 87 true).run Tryz.prog w = .ok (.tuple #[v, .bool true]) w := fun v w => by first | kernel_rfl | rfl
 clear hQ hu
 refine wp_tmps (t' := #[.pointer (some ⟨fb, 0, none⟩), .pointer (some ⟨eb, 0, none⟩), .iface 87 (.agg #[.iface 122 (.pointer (some ⟨gi, 0, none⟩))]), undef, undef, .iface 87 (.agg #[.iface 122 (.pointer (some ⟨gi, 0, none⟩))]), undef, undef, undef, undef, undef, undef, undef, undef, undef, undef, undef, undef, undef]) (by first | rfl | simp [Array.replicate, List.replicate] | trace_state) ?_
 have f0 : w.cell? ⟨fb, 0, none⟩ = some v0 := hf.cell 0
 have f1 : w.cell? ⟨fb, 1, none⟩ = some v1 := hf.cell 1
 have f2 : w.cell? ⟨fb, 2, none⟩ = some v2 := hf.cell 2
 have z0 := hf.frozen 0
 have z1 := hf.frozen 1
 have z2 := hf.frozen 2
 have e0 : w.cell? ⟨eb, 0, none⟩ = some .nilIface := he.cell 0
 have ez := he.frozen 0
 have lf := hf.lt
 have le := he.lt
 have HF := Lib.hid hf
 have HE := Lib.hid he
 clear hf he
 go_wp2
 go_region
 refine HQ.out _ _ _ ⟨rfl, _, rfl, _, results_none rfl _ _ _, rfl, rfl, ?_, ?_, ?_⟩
 ·exact ((((set3_2 (set3_1 (set3_0 HF.out))).keep ((Keeps.refl [eb] _).setCell (.inl (by simp)) _) (by simpa using hne)).keep ((Keeps.refl [] _).alloc _) (by simp)).keep ((Keeps.refl [] _).drew) (by simp))
 ·have h1 : Keeps [fb] w (((w.setCell ⟨fb, 0, none⟩ (.slice none 0 0)).setCell ⟨fb, 1, none⟩ (.slice none 0 0)).setCell ⟨fb, 2, none⟩ (.slice none 0 0)) := (((Keeps.refl _ _).setCell (.inl (by simp)) _).setCell (.inl (by simp)) _).setCell (.inl (by simp)) _
  exact ((((HE.out.keep h1 (by simpa using hne.symm)).set 0 _).congr rfl).keep ((Keeps.refl [] _).alloc _) (by simp)).keep ((Keeps.refl [] _).drew) (by simp)
 ·exact (((((((Keeps.refl _ _).setCell (.inl (by simp)) _).setCell (.inl (by simp)) _).setCell (.inl (by simp)) _).setCell (.inl (by simp)) _).alloc _).drew)
end Go.Proofs.YtnjjajanfedjiaaGreatDoor
