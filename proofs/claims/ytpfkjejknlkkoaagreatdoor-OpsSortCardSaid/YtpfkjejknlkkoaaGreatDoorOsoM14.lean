/- slices.Concat at 32. slices.Clone of a row. A map from texts to booleans, all of them true: a set of texts. -/
import Derived.Test.YtpfkjejknlkkoaaGreatDoorOsoM1
import Derived.Test.YtpfkjejknlkkoaaGreatDoorOsoM13
import Derived.WalkSpells
import Derived.Test.YtpfkjejknlkkoaaGreatDoorOsoM2
import Derived.Maps.Own
import Derived.Maps.OwnSet
import Derived.Maps.StringElems
set_option linter.unusedSimpArgs false
set_option linter.unusedVariables false
namespace Go.Proofs.YtpfkjejknlkkoaaGreatDoor
open Go.RowKit
attribute [local go_sem] bs_size bs_extract bs_append bs_toList
theorem catVinfo : (Tryz.prog.info? 32).map (fun i => (i.zero, i.size, i.bytes)) = some (some (.agg #[.int .i64 0, .int .i64 0, .string ⟨#[]⟩]), 3, 32) := by kernel_rfl
set_option maxHeartbeats 2000000 in
set_option maxRecDepth 100000 in
theorem growV_any (n : Nat) (hn : n ≤ 4294967296) (w : World) :
  Calls Tryz.prog 122 #[.slice none 0 0, .int .i64 (n : Int)] w fun e w' => (∃ v, e = .returned v ∧ w'.ownsRow w.heap.size 32 3 v 0 []) ∧ Keeps [] w w' := by
 by_cases h0 : n = 0
 ·subst h0
  go_enter Tryz.func122, Tryz.ntmps122
  go_wp2
  go_ret
  exact ⟨⟨_, rfl, World.ownsRow_nil _ _ _ _⟩, Keeps.refl _ _⟩
 ·obtain ⟨i0, hi, hz0, hz1, hz2⟩ := info_parts catVinfo
  have hrz := Lib.run_append_grow_zeros w 41 3 41 32 i0 _ .i64 .i64 Tryz.underlying41 Tryz.underlying3 hi hz0 none 0 0 [] (run_firstCells_none w.drew _ 0 0 0) n (by omega) (by rw [hz1]; decide) (by omega) (by omega) (by rw [hz2]; omega) (growslice_fits (by omega) (by rw [hz2]; omega))
  have hG : grownCap w (0 + n) 0 32 ≤ maxLen := grownCap_le_maxLen w (0 + n) 0 32 (by unfold maxLen; omega)
  have hGn : 0 + n ≤ grownCap w (0 + n) 0 32 := grownCap_ge w _ _ _
  rw [Nat.zero_add] at hrz hG hGn
  obtain ⟨G, hGG⟩ : ∃ G, grownCap w n 0 32 = G := ⟨_, rfl⟩
  rw [hGG] at hrz hG hGn
  obtain ⟨cs, hcs⟩ : ∃ cs, (([] : List Value).toArray ++ Builtin.zeroCells (.agg #[.int .i64 0, .int .i64 0, .string ⟨#[]⟩] : Value).cells n ++ Builtin.zeroCells (.agg #[.int .i64 0, .int .i64 0, .string ⟨#[]⟩] : Value).cells (G - n)) = cs := ⟨_, rfl⟩
  rw [hcs] at hrz
  have hsz : cs.size = G * 3 := by
   rw [← hcs]
   simp [Builtin.zeroCells, Value.cells]
   omega
  have HZ := Lib.hid (zeros_own (w := w.drew) (e := 32) (size := 3) hsz hG)
  have HRZ := Lib.hid hrz
  have h1 : ¬ ((n : Int) < 0) := by omega
  have h4 : (0 : Int) < (n : Int) := by omega
  have hm1 : G ≤ 9223372036854775807 := by unfold maxLen at hG; omega
  clear hrz hcs hsz hGG hi hz0 hz1 hz2
  go_enter Tryz.func122, Tryz.ntmps122
  go_wp2_with (at_builtin; refine Lib.wpList_append_run _ rfl _ _ _ _ rfl _ _ rfl rfl _ _ HRZ.out ?_)
  go_ret
  exact ⟨⟨_, rfl, HZ.out⟩, ((Keeps.refl [] w).drew).alloc _⟩
set_option maxHeartbeats 2000000 in
set_option maxRecDepth 40000 in
theorem concatV_any (ss : List (Nat × List Value)) (us : List Value) (A0 : Option Addr) (k0 : Nat) (w : World) (hus : us.length = ss.length) (hB : Rd w [] 1 A0 ss.length us) (hu : ∀ i (h : i < us.length) (h' : i < ss.length), SlIn w 3 us[i] ss[i]) (hl : ss.length ≤ 4294967296) (htot : totN ss ss.length ≤ 4294967296) (hone : ∀ p ∈ ss, ∀ x ∈ p.2, x.oneCell' = true) :
  Calls Tryz.prog 95 #[.slice A0 ss.length k0] w fun e w' => (∃ v, e = .returned v ∧ w'.ownsRow w.heap.size 32 3 v (totN ss ss.length) (catV ss ss.length)) ∧ Keeps [] w w' := by
 obtain ⟨ie, hie, hez0, hez1, hez2⟩ := info_parts catVinfo
 have HB := Lib.hid hB
 have HU := Lib.hid hu
 have HUS := Lib.hid hus
 have HTL := Lib.hid (fun m (h : m ≤ ss.length) => Nat.le_trans (totN_le ss h) htot)
 have HON := Lib.hid hone
 have HGR := Lib.hid (growV_any (totN ss ss.length) htot w)
 clear hB hu hone hus htot
 go_enter Tryz.func95, Tryz.ntmps95
 go_wp2
 go_loop [3, 11] (fun s i => ∃ m : Nat, m ≤ ss.length ∧ i = .int .i64 m ∧ s = .int .i64 (totN ss m : Nat)) (fun _ i => ss.length - (intOf i).toNat)
 case atStart => exact ⟨0, Nat.zero_le _, rfl, rfl⟩
 case round =>
  obtain ⟨m, hm, rfl, rfl⟩ := hrel
  by_cases hlt : m < ss.length
  ·obtain ⟨b, o, rfl, _, hb, hc⟩ := HB.out.open' (by omega) (by omega)
   have hux : m < us.length := by rw [HUS.out]; exact hlt
   have d1 := hc m _ (List.getElem?_eq_getElem hux)
   obtain ⟨A, c, he, hr⟩ := HU.out m hux hlt
   rw [he] at d1
   have HS := Lib.hid (totN_succ ss m hlt)
   have hle := HTL.out (m + 1) (by omega)
   rw [HS.out] at hle
   clear hc he hr
   generalize totN ss m = a at *
   generalize ss[m].1 = n at *
   have hneg : ¬ ((a : Int) + (n : Int) < 0) := by omega
   go_wp2
   go_round
   case rel => exact ⟨m + 1, by omega, by go_num, by rw [HS.out]; go_num⟩
   case measure => simp [intOf]; omega
  ·obtain rfl : m = ss.length := by omega
   go_wp2_with fail
   refine HGR.out.mono ?_
   rintro e w2 ⟨⟨v0, rfl, ho0⟩, hk0⟩
   have HO0 := Lib.hid ho0
   have HK0 := Lib.hid hk0
   clear ho0 hk0 HGR
   go_wp2
   go_loopw [6, 27] (fun u i wx => ∃ (m : Nat) (v : Value), v = u ∧ m ≤ ss.length ∧ i = .int .i64 m ∧ wx.ownsRow w.heap.size 32 3 v (totN ss m) (catV ss m) ∧ Keeps [] w wx) (fun _ i _ => ss.length - (intOf i).toNat)
   case atStart => exact ⟨0, v0, rfl, Nat.zero_le _, rfl, HO0.out, HK0.out⟩
   case round =>
    obtain ⟨m, v, rfl, hm2, rfl, hown, hk⟩ := hrel
    have HK := Lib.hid hk
    have HO := Lib.hid hown
    clear hk hown
    by_cases hlt : m < ss.length
    ·obtain ⟨b, o, rfl, _, hb, hc⟩ := (HB.out.keep HK.out).open' (by omega) (by omega)
     have hux : m < us.length := by rw [HUS.out]; exact hlt
     have d1 := hc m _ (List.getElem?_eq_getElem hux)
     obtain ⟨A, c, he, hr⟩ := HU.out m hux hlt
     rw [he] at d1
     have hle := HTL.out (m + 1) (by omega)
     rw [totN_succ ss m hlt] at hle
     obtain ⟨v', w', hrun, ho', hg'⟩ := run_append_rd (P := Tryz.prog) wr w.heap.size 41 41 32 ie _ 3 32 Tryz.underlying41 hie hez0 hez1 hez2 rfl (by decide) HO.out (hr.keep HK.out) c (HON.out _ (List.getElem_mem hlt)) (by unfold maxLen; omega) (by omega) HK.out.size
     have HRUN := Lib.hid hrun
     have HO' : Hid (w'.ownsRow w.heap.size 32 3 v' (totN ss (m + 1)) (catV ss (m + 1))) := Lib.hid (by rw [totN_succ ss m hlt, catV_succ ss m hlt]; exact ho')
     have HK' := Lib.hid (HK.out.grown hg' (fun g hg => .inr (HO.out.lt g hg).1))
     clear hc he hr hrun ho' hg' hle
     generalize ss[m].1 = n at *
     go_wp2_with (at_builtin; refine Lib.wpList_append_run _ rfl _ _ _ _ rfl _ _ rfl rfl _ _ HRUN.out ?_)
     go_roundw
     case rel => exact ⟨m + 1, v', rfl, by omega, by go_num, HO'.out, HK'.out⟩
     case measure => simp [intOf]; omega
    ·obtain rfl : m = ss.length := by omega
     go_wp2
     go_ret
     exact ⟨⟨_, rfl, HO.out⟩, HK.out⟩
end Go.Proofs.YtpfkjejknlkkoaaGreatDoor
namespace Go.Proofs.YtpfkjejknlkkoaaGreatDoor
open Go.RowKit
attribute [local go_sem] bs_size bs_extract bs_append bs_toList
theorem vs_oneCell (l : List Vl) : ∀ u ∈ vsCells l, u.oneCell' = true := fun u hu => by
 unfold vsCells at hu
 obtain ⟨y, _, hy⟩ := List.mem_flatMap.1 hu
 simp only [vCells, List.mem_cons, List.not_mem_nil, or_false] at hy
 rcases hy with rfl | rfl | rfl <;> rfl
set_option maxHeartbeats 2000000 in
set_option maxRecDepth 40000 in
theorem clone_any (r : List Vl) (h1 : 1 ≤ r.length) (h2 : r.length ≤ 4294967296) (A : Option Addr) (c : Nat) (w : World) (hA : Rd w [] 3 A r.length (vsCells r)) :
  Calls Tryz.prog 88 #[.slice A r.length c] w fun e w' => (∃ v, e = .returned v ∧ w'.ownsRow w.heap.size 32 3 v r.length (vsCells r)) ∧ Keeps [] w w' := by
 obtain ⟨iv, hiv, hvz0, hvz1, hvz2⟩ := info_parts catVinfo
 obtain ⟨b, o, rfl, _, hb, _⟩ := hA.open' (by omega) (by omega)
 have hk0 : Keeps [] w (w.alloc (.cells #[] 32)) := (Keeps.refl _ _).alloc _
 have hz := zeros_own (w := w) (e := 32) (cur := #[]) (size := 3) (G := 0) rfl (by decide)
 obtain ⟨v', w', hrun, ho', hg'⟩ := run_append_rd (P := Tryz.prog) (w.alloc (.cells #[] 32)) w.heap.size 41 41 32 iv _ 3 32 Tryz.underlying41 hiv hvz0 hvz1 hvz2 rfl (by decide) hz (hA.keep hk0) c (vs_oneCell r) (by unfold maxLen; omega) (by omega) hk0.size
 rw [Nat.zero_add, List.nil_append] at ho'
 have HRUN := Lib.hid hrun
 have HO := Lib.hid ho'
 have HK := Lib.hid (hk0.grown hg' (fun g hg => .inr (by injection hg with hg; rw [← hg]; exact Nat.le_refl _)))
 have heq := fun W => Lib.run_eql_slice_nil (P := Tryz.prog) W 41 32 (some ⟨b, o, none⟩) r.length c 0 0 Tryz.underlying41
 clear hk0 hz hrun ho' hg' hA hiv hvz0 hvz1 hvz2
 go_enter Tryz.func88, Tryz.ntmps88
 go_wp2_with (at_builtin; refine Lib.wpList_append_run _ rfl _ _ _ _ rfl _ _ rfl rfl _ _ HRUN.out ?_)
 go_ret
 exact ⟨⟨_, rfl, HO.out⟩, HK.out⟩
end Go.Proofs.YtpfkjejknlkkoaaGreatDoor
namespace Go.Proofs.YtpfkjejknlkkoaaGreatDoor
open Go.RowKit Go.Maps
def SetOf (P : Program) (S E : TypeId) (w : World) (b n : Nat) (l : List Bs) : Prop :=
 ∃ D : DataW Unit, w.ownsMap P S (plainElem P E) b n D ∧ ∀ k : Bs, Maps.has D (.string k) = decide (k ∈ l) ∧ D.atKey (.string k) (.lit (.bool false)) = .lit (.bool (decide (k ∈ l)))
section
variable {P : Program} {T S E : TypeId} {w w' : World} {b n : Nat} {l : List Bs}
theorem SetOf.lt (h : SetOf P S E w b n l) : b < w.heap.size := by obtain ⟨D, h, _⟩ := h; exact h.lt
theorem SetOf.made (w : World) : SetOf P S E (w.alloc (.map #[] 0)) w.heap.size 0 [] :=
 ⟨_, World.ownsMap_made w _ _ _, fun _ => ⟨rfl, rfl⟩⟩
theorem SetOf.of_block (h : SetOf P S E w b n l) (hb : w'.heap[b]? = w.heap[b]?) : SetOf P S E w' b n l := by
 obtain ⟨D, ⟨es, clock, h1, h2⟩, h3⟩ := h
 exact ⟨D, ⟨es, clock, hb.trans h1, h2⟩, h3⟩
theorem SetOf.keep {L : List Nat} (h : SetOf P S E w b n l) (hk : Keeps L w w') (hb : b ∉ L) : SetOf P S E w' b n l := h.of_block (hk.block b h.lt hb)
theorem SetOf.mono (h : SetOf P S E w b n l) {n' : Nat} (hn : n ≤ n') : SetOf P S E w b n' l := by
 obtain ⟨D, h1, h2⟩ := h
 exact ⟨D, h1.mono hn, h2⟩
theorem plainElem_bool_inv {v : Value} {d : DataW Unit} {ps : List MemPlace} (hE : P.underlying E = some .bool) (h : plainElem P E v = some (d, ps)) : ∃ x, v = .bool x ∧ d = .lit (.bool x) := by
 simp only [plainElem, hE] at h
 cases v <;> simp at h
 exact ⟨_, rfl, h.1.symm⟩
theorem SetOf.look (h : SetOf P S E w b n l) (hT : P.underlying T = some (.map S E)) (hS : P.underlying S = some .string) (hE : P.underlying E = some .bool) (hz : (zeroValue E).run P w = .ok (.bool false) w) (k : Bs) (hk : k.length ≤ maxLen) :
  (Instr.lookup T (.map (some b)) (.string (bs k)) false).run P w = .ok (.bool (decide (k ∈ l))) w := by
 obtain ⟨D, h1, h2⟩ := h
 have hkey : keyOf P S (.string (bs k)) = some (.string k) := WideMaps.keyOf_string_mk hS (by rw [bs_size]; exact hk)
 obtain ⟨v, ps, hrun, hv⟩ := h1.lookup (string_keyed hS) hT hz (plainElem_bool hE false) hkey
 obtain ⟨x, rfl, hx⟩ := plainElem_bool_inv hE hv
 rw [(h2 k).2] at hx
 injection hx with hx
 injection hx with hx
 rw [hrun, hx]
theorem SetOf.store (h : SetOf P S E w b n l) (hT : P.underlying T = some (.map S E)) (hS : P.underlying S = some .string) (hE : P.underlying E = some .bool) (k : Bs) (hk : k.length ≤ maxLen) (hn : n < maxLen) :
  ∃ w', (Instr.mapUpdate T (.map (some b)) (.string (bs k)) (.bool true)).run P w = .ok () w' ∧ SetOf P S E w' b (n + 1) (k :: l) ∧ w.grownBy w' (some b) := by
 obtain ⟨D, h1, h2⟩ := h
 have hkey : keyOf P S (.string (bs k)) = some (.string k) := WideMaps.keyOf_string_mk hS (by rw [bs_size]; exact hk)
 obtain ⟨w', hrun, h3, h4⟩ := h1.update (string_keyed hS) hT hn hkey (plainElem_bool hE true)
 have hm := h1.isMap
 refine ⟨w', hrun, ⟨_, h3, fun x => ?_⟩, h4⟩
 by_cases hx : x = k
 ·subst hx
  exact ⟨by rw [has_put_same hm (by trivial)]; simp, by rw [atKey_put_same hm (by trivial)]; simp⟩
 ·have hne : (Lit.string x) ≠ Lit.string k := fun e => hx (by injection e)
  have hd : decide (x ∈ k :: l) = decide (x ∈ l) := by simp [hx]
  rw [hd]
  exact ⟨by rw [has_put_other hne]; exact (h2 x).1, by rw [atKey_put_other hne]; exact (h2 x).2⟩
end
end Go.Proofs.YtpfkjejknlkkoaaGreatDoor
