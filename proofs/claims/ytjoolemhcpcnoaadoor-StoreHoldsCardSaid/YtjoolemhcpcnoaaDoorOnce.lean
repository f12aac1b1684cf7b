/- StoreOnce, walked. -/
import Derived.Test.YtjoolemhcpcnoaaDoorStoreH
namespace Go.Proofs.YtjoolemhcpcnoaaDoor
open Go.RowKit Go.Shelf
attribute [local go_sem] bs_size bs_extract bs_append bs_toList errV_0 errV_2 errV_4 errV_14
theorem errV_7 : errV 7 = .iface 42 (.int .i64 7) := rfl
attribute [local go_sem] errV_7
theorem long3_pred (l : List Bs) (w : World) : PredAt 26 #[] (fun s => decide (300 < s.length)) l w := by
  intro s hs W hk
  have h : ∀ W : World, Calls Tryd.prog 26 #[.string (bs s)] W fun e W' => e = .returned (.bool (decide (300 < s.length))) ∧ Keeps [] W W' := fun W => by
    have hd : Hid (decide ((300 : Int) < (s.length : Int)) = decide (300 < s.length)) := by rw [Hid, decide_eq_decide]; omega
    go_enter Tryd.func26, Tryd.ntmps26
    go_wp2
    go_ret
    refine ⟨?_, Keeps.refl _ _⟩
    show Ending.returned (.bool (decide ((300 : Int) < (s.length : Int)))) = _
    rw [hd.out]
  exact h W
set_option maxRecDepth 100000 in
set_option maxHeartbeats 1000000 in
theorem same_pred (l : List Bs) (s : Bs) (b : Nat) (w : World) (hR : Rnds w) (hs : s.length ≤ 4294967296) (hl : ∀ t ∈ l, t.length ≤ 4294967296) (hb : w.cell? ⟨b, 0, none⟩ = some (.string (bs s))) :
    PredAt 32 #[.pointer (some ⟨b, 0, none⟩)] (fun t => shaL t == shaL s) l w := by
  intro t ht W hk
  have htl := hl t ht
  have HRW := Lib.hid (hR.quiet hk)
  have hbW := hk.cell_of hb (by simp)
  have KD := Lib.hid (Keeps.drew (Keeps.refl [] W))
  clear hR hl ht hb
  show Calls Tryd.prog 32 #[.string (bs t), .pointer (some ⟨b, 0, none⟩)] W _
  go_enter Tryd.func32, Tryd.ntmps32
  go_wp2_with fail
  go_region_held3 (fun w' => w'.cell? ⟨b, 0, none⟩ = some (.string (bs s))) (first | exact hbW | exact k5.cell_of (p := ⟨b, 0, none⟩) hbW (by simp) | exact k6.cell_of (p := ⟨b, 0, none⟩) (k5.cell_of (p := ⟨b, 0, none⟩) hbW (by simp)) (by simp) | go_keep) (first | (go_at_call_of 22 (bs t); refine (sum_any t htl _ (by first | exact HRW.out | exact (HRW.out.quiet (KD.out.trans k5)))).mono ?_; first | (rintro e w5 ⟨rfl, k5⟩) ) | (go_at_call_of 22 (bs s); refine (sum_any s hs _ (by first | exact (HRW.out.quiet (KD.out.trans k5)) | exact HRW.out)).mono ?_; rintro e w6 ⟨rfl, k6⟩))
  all_goals go_wp2
  all_goals go_ret
  all_goals exact ⟨rfl, (KD.out.trans k5).trans k6⟩
/-- Which keys are known behind n Puts. -/
def Known (l : List Bs) (n : Nat) (S : Sr) : Prop := (∀ k, k ∈ S.keys ↔ ∃ j, j < n ∧ shaL (l.getD (j % l.length) []) = k) ∧ S.keys.length ≤ n
theorem known_put {l : List Bs} {n : Nat} {S : Sr} (h : Known l n S) (hf : S.Fit) {s : Bs} (hs : l.getD (n % l.length) [] = s) : Known l (n + 1) (if (S.m (shaL s)).isSome then S else kept1 S s) := by
  unfold Known
  rw [put_keys]
  have h1 : ∀ k, (∃ j, j < n + 1 ∧ shaL (l.getD (j % l.length) []) = k) ↔ (∃ j, j < n ∧ shaL (l.getD (j % l.length) []) = k) ∨ shaL s = k := fun k => by
    constructor
    · rintro ⟨j, hj, he⟩
      by_cases e : j = n
      · subst e; right; rw [← hs]; exact he
      · exact .inl ⟨j, by omega, he⟩
    · rintro (⟨j, hj, he⟩ | he)
      · exact ⟨j, by omega, he⟩
      · exact ⟨n, by omega, by rw [hs]; exact he⟩
  cases hm : (S.m (shaL s)).isSome with
  | true =>
    refine ⟨fun k => ?_, by have := h.2; simp only [if_pos]; omega⟩
    rw [h1 k, ← h.1 k]
    simp only [if_pos]
    constructor
    · exact .inl
    · rintro (e | e)
      · exact e
      · rw [← e]; exact (hf.1 _).1 hm
  | false =>
    refine ⟨fun k => ?_, by have := h.2; simp; omega⟩
    rw [h1 k, ← h.1 k]
    simp [eq_comm]
/-- Behind all Puts just the sums of l are known. -/
theorem known_all {l : List Bs} {n : Nat} {S : Sr} (h : Known l n S) (hn : l.length ≤ n) (hn0 : l.length = 0 → n = 0) (hf : S.Fit) (s : Bs) : (S.m (shaL s)).isSome = l.any fun t => shaL t == shaL s := by
  rw [Bool.eq_iff_iff, hf.1, h.1, List.any_eq_true]
  constructor
  · rintro ⟨j, hj, he⟩
    have h0 : 0 < l.length ∨ l.length = 0 := by omega
    rcases h0 with h0 | h0
    · have hlt := Nat.mod_lt j h0
      rw [List.getD_eq_getElem?_getD, List.getElem?_eq_getElem hlt, Option.getD_some] at he
      exact ⟨_, List.getElem_mem hlt, by rw [he]; exact beq_self_eq_true _⟩
    · exact absurd hj (by rw [hn0 h0]; omega)
  · rintro ⟨t, ht, he⟩
    obtain ⟨j, hj, rfl⟩ := List.getElem_of_mem ht
    refine ⟨j, by omega, ?_⟩
    rw [Nat.mod_eq_of_lt hj, List.getD_eq_getElem?_getD, List.getElem?_eq_getElem hj, Option.getD_some]
    exact eq_of_beq he
set_option maxRecDepth 100000 in
set_option maxHeartbeats 4000000 in
theorem once_main (l : List Bs) (s : Bs) (A : Option Addr) (c : Nat) (w : World) (hE : ErrTy w) (hR : Rnds w) (hl : l.length ≤ 15) (hs : s.length ≤ 300) (hlong : ∀ t ∈ l, t.length ≤ 300) (hA : Rd w [] 1 A l.length (strs l)) :
    Calls Tryd.prog 5 #[.slice A l.length c, .string (bs s)] w fun ev w' => ev = .returned (.bool true) ∧ Keeps [] w w' := by
  have hany : (l.any fun s => decide (300 < s.length)) = false := by
    rw [List.any_eq_false]
    intro t ht
    have := hlong t ht
    simpa using this
  have hcf := fun W (q : Keeps [] w W) => containsFunc_any 26 #[] (enters_of Tryd.func26 (by kernel_rfl) rfl) (fun s => decide (300 < s.length)) l A c W (hA.keep q) (by omega) (long3_pred l W)
  rw [hany] at hcf
  have HCF := Lib.hid hcf
  have HE := Lib.hid hE
  have HR := Lib.hid hR
  have HA := Lib.hid hA
  have HLONG := Lib.hid hlong
  clear hcf hE hR hA hlong hany
  go_enter Tryd.func5, Tryd.ntmps5
  go_wp2_with (go_at_call 9; refine (HCF.out _ ((Keeps.refl _ _).alloc _)).mono ?_; rintro e w5 ⟨rfl, k5⟩)
  refine (stored_any w5 (HR.out.quiet (((Keeps.refl _ _).alloc _).trans k5))).mono ?_
  rintro e w6 ⟨rfl, k6⟩
  have cs : w6.cell? ⟨w.heap.size, 0, none⟩ = some (.string (bs s)) := k6.cell_of (k5.cell_of (p := ⟨w.heap.size, 0, none⟩) (by simp) (by simp)) (by simp)
  have hk6 : Keeps [] w w6 := (((Keeps.refl [] w).alloc _).trans k5).trans k6
  have HR6 := Lib.hid (HR.out.quiet hk6)
  have HE6 := Lib.hid (HE.out.keep hk6 (by simp))
  have HA6 := Lib.hid (HA.out.keep hk6)
  have HK6 := Lib.hid hk6
  have CS := Lib.hid cs
  clear k5 k6 cs hk6
  obtain ⟨sb, hsb⟩ : ∃ sb, w.heap.size = sb := ⟨_, rfl⟩
  rw [hsb] at CS ⊢
  clear hsb
  go_wp2_with fail
  refine (new_da (Keeps.refl [] w6) 600 (by omega) (by omega)).mono ?_
  rintro e W1 ⟨rfl, h1, k1⟩
  have H1 := Lib.hid h1
  clear h1 k1
  obtain ⟨gd, hgd⟩ : ∃ gd, w6.heap.size + 1 = gd := ⟨_, rfl⟩
  rw [hgd] at H1 ⊢
  clear hgd
  go_wp2_with fail
  refine (open_sd H1.out.1 H1.out.2.1 H1.out.2.2 HR6.out (Bears.new 600).ok rfl).mono ?_
  rintro e W2 ⟨⟨gx, Lx, rfl, h2⟩, -⟩
  rw [(Bears.new 600).stops (fun _ => at_new 600 _)] at h2
  have H2 := Lib.hid h2
  clear h2
  go_wp2
  go_loopw [8] (fun i wr => ∃ n Ld Lx D S l1, n ≤ 2 * l.length ∧ i = .int .i64 (n : Int) ∧ SD w6 wr Ld Lx gd gx D S ∧ Bears D S l1 ∧ D.fuse < 0 ∧ D.sure.length = 600 ∧ room l1 ≤ 6 * n ∧ Hid (∀ k, S.at_ ≤ k → k < 600 → D.at k = zeros) ∧ Hid (Known l n S)) (fun i _ => 2 * l.length - (intOf i).toNat)
  case atStart => exact ⟨0, _, _, _, _, [], by omega, rfl, H2.out, Bears.new 600, by decide, rfl, by decide, fun k _ _ => at_new 600 k, ⟨fun k => by simp [Sr.new], by simp [Sr.new]⟩⟩
  case round =>
    clear H1 H2
    obtain ⟨n, Ld, Lx, D, S, l1, hn, rfl, h2, hb, hfu, hN, hroom, htail, hkn⟩ := hrel
    have hat := hb.at_
    have H2 := Lib.hid h2
    have HB := Lib.hid hb
    have HN := Lib.hid hN
    have HAT := Lib.hid hat
    clear h2 hb hN hat
    by_cases hlt : n < 2 * l.length
    · obtain ⟨m, hm⟩ : ∃ m, n % l.length = m := ⟨_, rfl⟩
      have hml : m < l.length := by rw [← hm]; exact Nat.mod_lt _ (by omega)
      have hm1 : (n : Int) % (l.length : Int) = (m : Int) := by omega
      have hm2 : (n : Int).tmod (l.length : Int) = (m : Int) := by rw [← hm]; rfl
      have hz : ¬ ((l.length : Int) = 0) := by omega
      have HM := Lib.hid hm
      clear hm
      obtain ⟨b, o, rfl, _, hbl, hc⟩ := (HA6.out.keep H2.out.k).open' (by omega) (by omega)
      have d1 := hc m _ (strs_at' l m hml)
      have htl := HLONG.out l[m] (List.getElem_mem hml)
      have hsecs : secs l[m].length ≤ 6 := by unfold secs; omega
      have hgm : l.getD (n % l.length) [] = l[m] := by rw [HM.out, List.getD_eq_getElem?_getD, List.getElem?_eq_getElem hml]; rfl
      have HGM := Lib.hid hgm
      have HSECS := Lib.hid hsecs
      generalize l[m] = t at d1 htl hsecs HGM HSECS
      clear hc hgm hsecs
      have hrm : S.at_ + secs t.length ≤ D.sure.length := by have := HAT.out; have := HN.out; have := HSECS.out; omega
      have hput := H2.out.put HR6.out t (by omega) hrm (by have := hkn.out.2; omega) HB.out.wait
      have hbp := HB.out.put t (by omega) hrm
      obtain hbp | hbp := hbp
      · obtain ⟨p0, ⟨l2, hb2, hr2⟩, hlen2, hS2, ht2, hat2, hfu2⟩ := hbp
        have hkn2 : Hid (Known l (n + 1) (putP D S t).2.2) := by
          rw [hS2]
          exact known_put hkn.out HB.out.fit HGM.out
        rw [p0] at hput
        generalize (putP D S t).2.1 = D2 at *
        generalize (putP D S t).2.2 = S2 at *
        have HPUT := Lib.hid hput
        have HB2 := Lib.hid hb2
        have HR2 := Lib.hid hr2
        have HL2 := Lib.hid (hlen2.trans HN.out)
        have HT2 : Hid (∀ k, S2.at_ ≤ k → k < 600 → D2.at k = zeros) := fun k h1 h2 => by
          rw [ht2 k h1 (by rw [HN.out]; exact h2)]
          exact htail.out k (by omega) h2
        have HF2 := Lib.hid (hfu2 hfu)
        clear hput hb2 hr2 hlen2 hS2 ht2 hat2 hfu2 p0 hrm
        go_wp2_with fail
        refine HPUT.out.mono ?_
        rintro e W5 ⟨rfl, ⟨Ld2, Lx2, h3, -, -⟩, -⟩
        have H3 := Lib.hid h3
        clear h3
        go_wp2
        go_roundw
        case rel => exact ⟨n + 1, Ld2, Lx2, D2, S2, l2, by omega, by go_num, H3.out, HB2.out, HF2.out, HL2.out, by have := HR2.out; have := HSECS.out; omega, HT2, hkn2⟩
        case measure => simp [intOf]; omega
      · exact absurd hfu hbp.2.2.2.2.2
    · have hne : n = 2 * l.length := by omega
      have hiff := known_all hkn.out (by omega) (by omega) HB.out.fit s
      have hst := HB.out.stops (fun h => htail.out _ (Nat.le_refl _) (by rw [HN.out] at h; exact h))
      have hop := open_sd H2.out.d H2.out.k H2.out.dn HR6.out HB.out.ok HB.out.wait
      rw [hst] at hop
      have HOP := Lib.hid hop
      have hkl : S.keys.length ≤ 30 := by have := hkn.out.2; omega
      have hkr := hkn
      have HIFF := Lib.hid hiff
      clear hop hst hiff hne htail hkn hroom
      go_wp2_with fail
      refine HOP.out.mono ?_
      rintro e W5 ⟨⟨gy, Ly, rfl, h5⟩, k5⟩
      have H5 := Lib.hid h5
      have HX5 := Lib.hid (H2.out.quiet k5)
      clear h5 k5
      go_wp2_with fail
      refine (keys_any H5.out.x (by omega)).mono ?_
      rintro e W6 ⟨A6, c6, rfl, o6, k6⟩
      have H6 := Lib.hid (H5.out.quiet k6)
      have HX6 := Lib.hid (HX5.out.quiet k6)
      have O6 := Lib.hid (Rd.of_own o6 (L := []) (by simp))
      clear o6 k6
      go_wp2_with fail
      refine (keys_any HX6.out.x (by omega)).mono ?_
      rintro e W7 ⟨A7, c7, rfl, o7, k7⟩
      have H7 := Lib.hid (H6.out.quiet k7)
      have O7 := Lib.hid (Rd.of_own o7 (L := []) (by simp))
      have O67 := Lib.hid (O6.out.keep k7)
      clear o7 k7
      have heq := equal_at S.keys S.keys S.keys.length S.keys.length A6 A7 c6 c7 W7 rfl rfl O67.out O7.out (by omega) (by omega)
      rw [beq_self_eq_true] at heq
      have HEQ := Lib.hid heq
      clear heq
      go_wp2_with fail
      refine HEQ.out.mono ?_
      rintro e W8 ⟨rfl, k8⟩
      have H8 := Lib.hid (H7.out.quiet k8)
      clear k8
      have cs8 := H8.out.k.cell_of CS.out (by simp)
      go_wp2_with fail
      refine (sum_any s (by omega) _ (HR6.out.quiet H8.out.k)).mono ?_
      rintro e W9 ⟨rfl, k9⟩
      have H9 := Lib.hid (H8.out.quiet k9)
      clear k9 cs8
      have hcf := fun W (q : Keeps [] w6 W) => containsFunc_any 32 #[.pointer (some ⟨sb, 0, none⟩)] (enters_of Tryd.func32 (by kernel_rfl) rfl) (fun t => shaL t == shaL s) l A c W (HA6.out.keep q) (by omega) (same_pred l s sb W (HR6.out.quiet q) (by omega) (fun t ht => by have := HLONG.out t ht; omega) (q.cell_of CS.out (by simp)))
      have hget := get_any H9.out.x (shaL s) (by rw [shaL_length]; decide)
      rw [HIFF.out] at hget
      cases hb : l.any (fun t => shaL t == shaL s) with
      | true =>
        rw [hb] at hget hcf
        have HGET := Lib.hid hget
        have HCF2 := Lib.hid hcf
        clear hget hcf hb
        go_wp2_with fail
        refine HGET.out.mono ?_
        rintro e W10 ⟨rfl, rfl⟩
        go_wp2_with fail
        refine (HCF2.out _ H9.out.k).mono ?_
        rintro e W11 ⟨rfl, k11⟩
        go_wp2
        go_ret
        exact ⟨rfl, HK6.out.trans (H9.out.k.trans k11)⟩
      | false =>
        rw [hb] at hget hcf
        have HGET := Lib.hid hget
        have HCF2 := Lib.hid hcf
        clear hget hcf hb
        go_wp2_with fail
        refine HGET.out.mono ?_
        rintro e W10 ⟨rfl, rfl⟩
        go_wp2_with fail
        refine (HCF2.out _ H9.out.k).mono ?_
        rintro e W11 ⟨rfl, k11⟩
        have htl := tell_any 7 W11 (HE6.out.keep (H9.out.k.trans k11) (by simp))
        rw [errV_7] at htl
        have HTL := Lib.hid htl
        clear htl
        go_wp2_with fail
        refine HTL.out.mono ?_
        rintro e W12 ⟨rfl, k12⟩
        go_wp2
        go_ret
        exact ⟨rfl, HK6.out.trans ((H9.out.k.trans k11).trans k12)⟩
/-- StoreOnce at whatever arguments. -/
theorem once_all (l : List Bs) (s : Bs) (A : Option Addr) (c : Nat) (w : World) (hE : ErrTy w) (hR : Rnds w) (hA : Rd w [] 1 A l.length (strs l)) :
    Calls Tryd.prog 5 #[.slice A l.length c, .string (bs s)] w fun ev w' => ev = .returned (.bool true) ∧ Keeps [] w w' := by
  by_cases h1 : (15 : Int) < (l.length : Int)
  · clear hA hE hR
    go_enter Tryd.func5, Tryd.ntmps5
    go_wp2
    go_ret
    exact ⟨rfl, (Keeps.refl _ _).alloc _⟩
  by_cases h2 : (300 : Int) < (s.length : Int)
  · clear hA hE hR
    go_enter Tryd.func5, Tryd.ntmps5
    go_wp2
    go_ret
    exact ⟨rfl, (Keeps.refl _ _).alloc _⟩
  cases hany : (l.any fun s => decide (300 < s.length)) with
  | true =>
    have hcf := fun W (q : Keeps [] w W) => containsFunc_any 26 #[] (enters_of Tryd.func26 (by kernel_rfl) rfl) (fun s => decide (300 < s.length)) l A c W (hA.keep q) (by omega) (long3_pred l W)
    rw [hany] at hcf
    have HCF := Lib.hid hcf
    clear hcf hA hE hR hany
    go_enter Tryd.func5, Tryd.ntmps5
    go_wp2_with (go_at_call 9; refine (HCF.out _ ((Keeps.refl _ _).alloc _)).mono ?_; rintro e w5 ⟨rfl, k5⟩)
    go_ret
    exact ⟨rfl, ((Keeps.refl _ _).alloc _).trans k5⟩
  | false =>
    rw [List.any_eq_false] at hany
    exact once_main l s A c w hE hR (by omega) (by omega) (fun t ht => by have := hany t ht; simp at this; omega) hA
end Go.Proofs.YtjoolemhcpcnoaaDoor
