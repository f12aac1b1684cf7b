/- StoreHolds, walked. -/
import Derived.Test.YtjoolemhcpcnoaaDoorOnce
namespace Go.Proofs.YtjoolemhcpcnoaaDoor
open Go.RowKit Go.Shelf
attribute [local go_sem] bs_size bs_extract bs_append bs_toList errV_0 errV_2 errV_4 errV_14
theorem long4_pred (l : List Bs) (w : World) : PredAt 41 #[] (fun s => decide (300 < s.length)) l w := by
  intro s hs W hk
  have h : ∀ W : World, Calls Tryd.prog 41 #[.string (bs s)] W fun e W' => e = .returned (.bool (decide (300 < s.length))) ∧ Keeps [] W W' := fun W => by
    have hd : Hid (decide ((300 : Int) < (s.length : Int)) = decide (300 < s.length)) := by rw [Hid, decide_eq_decide]; omega
    go_enter Tryd.func41, Tryd.ntmps41
    go_wp2
    go_ret
    refine ⟨?_, Keeps.refl _ _⟩
    show Ending.returned (.bool (decide ((300 : Int) < (s.length : Int)))) = _
    rw [hd.out]
  exact h W
/-- The keys that the law has noted are those that the store knows: one more, or none. -/
theorem any_iff {S : Sr} (hf : S.Fit) (s : Bs) : (S.keys.any fun t => shaL s == t) = (S.m (shaL s)).isSome := by
  rw [Bool.eq_iff_iff, List.any_eq_true, hf.1]
  constructor
  · rintro ⟨t, ht, he⟩
    rw [eq_of_beq he]; exact ht
  · intro h
    exact ⟨_, h, beq_self_eq_true _⟩
/-- What stands where the Puts have ended, one way or the other. -/
def AtCrash (w6 : World) (gd : Nat) (v : Value) (W : World) : Prop :=
  ∃ D0 D1 Ld Lx gx S l1, SD w6 W Ld Lx gd gx D1 S ∧ Bears D0 S l1 ∧ D1.sure = D0.sure ∧ (∀ p ∈ D1.wait, S.at_ ≤ p.1 ∧ p.2.length = 64) ∧ D0.sure.length = 600 ∧ D1.wait.length ≤ 1000 ∧ S.keys.length ≤ 15 ∧
    W.ownsRow w6.heap.size 9 1 v S.keys.length (strs S.keys) ∧ (∀ g, v.ownBlock = some g → g ∉ Ld)
theorem own_cap {w : World} {base : Nat} {e : TypeId} {size n c : Nat} {A : Option Addr} {xs : List Value} (h : w.ownsRow base e size (.slice A n c) n xs) : n ≤ c := by
  rcases h.2 with ⟨h1, h2⟩ | ⟨g, cap, cur, h1, h2, h3, h4, _⟩
  · omega
  · injection h1 with _ _ e; omega
theorem rd_take {w : World} {L : List Nat} {A : Option Addr} {n k : Nat} {l : List Bs} (h : Rd w L 1 A n (strs l)) (hk : k ≤ n) : Rd w L 1 A k (strs (l.take k)) := by
  have hl : l.length = n := by have := h.1; simpa [strs] using this
  refine ⟨by simp [strs]; omega, fun h0 => ?_⟩
  obtain ⟨ad, e, hb, hlt, hc⟩ := h.2 (by omega)
  refine ⟨ad, e, hb, hlt, fun j u hu => hc j u ?_⟩
  simp only [strs, List.getElem?_map, List.getElem?_take] at hu ⊢
  split at hu
  · exact hu
  · cases hu
theorem AtCrash.quiet {w6 W W' : World} {gd : Nat} {v : Value} (h : AtCrash w6 gd v W) (hk : Keeps [] W W') : AtCrash w6 gd v W' := by
  obtain ⟨D0, D1, Ld, Lx, gx, S, l1, h1, h2, h3, h4, h5, h6, h7, h8, h9⟩ := h
  exact ⟨D0, D1, Ld, Lx, gx, S, l1, h1.quiet hk, h2, h3, h4, h5, h6, h7, own_keep h8 hk (by simp), h9⟩
set_option maxRecDepth 100000 in
set_option maxHeartbeats 4000000 in
theorem holds_main (l : List Bs) (ks : List Bool) (fu : Int) (A K : Option Addr) (c d : Nat) (w : World) (hE : ErrTy w) (hR : Rnds w) (hl : l.length ≤ 15) (hkl : ks.length ≤ 100) (hlong : ∀ t ∈ l, t.length ≤ 300) (hA : Rd w [] 1 A l.length (strs l)) (hK : Rd w [] 1 K ks.length (bools ks)) :
    Calls Tryd.prog 7 #[.slice A l.length c, .int .i64 fu, .slice K ks.length d] w fun ev w' => ev = .returned (.bool true) ∧ Keeps [] w w' := by
  have hany : (l.any fun s => decide (300 < s.length)) = false := by
    rw [List.any_eq_false]
    intro t ht
    have := hlong t ht
    simpa using this
  have hcf := containsFunc_any 41 #[] (enters_of Tryd.func41 (by kernel_rfl) rfl) (fun s => decide (300 < s.length)) l A c w hA (by omega) (long4_pred l w)
  rw [hany] at hcf
  have HCF := Lib.hid hcf
  have HE := Lib.hid hE
  have HR := Lib.hid hR
  have HA := Lib.hid hA
  have HKS := Lib.hid hK
  have HLONG := Lib.hid hlong
  clear hcf hE hR hA hlong hany hK
  go_enter Tryd.func7, Tryd.ntmps7
  go_wp2_with (go_at_call 9; refine HCF.out.mono ?_; rintro e w5 ⟨rfl, k5⟩)
  refine (stored_any w5 (HR.out.quiet k5)).mono ?_
  rintro e w6 ⟨rfl, k6⟩
  have hk6 : Keeps [] w w6 := k5.trans k6
  have HR6 := Lib.hid (HR.out.quiet hk6)
  have HE6 := Lib.hid (HE.out.keep hk6 (by simp))
  have HA6 := Lib.hid (HA.out.keep hk6)
  have HKS6 := Lib.hid (HKS.out.keep hk6)
  have HK6 := Lib.hid hk6
  clear k5 k6 hk6
  go_wp2_with fail
  refine (new_da (Keeps.refl [] w6) 600 (by omega) (by omega)).mono ?_
  rintro e W1 ⟨rfl, h1, k1⟩
  have H1 := Lib.hid h1
  clear h1 k1
  obtain ⟨gd, hgd⟩ : ∃ gd, w6.heap.size + 1 = gd := ⟨_, rfl⟩
  rw [hgd] at H1 ⊢
  clear hgd
  go_wp2_with fail
  refine (open_sd H1.out.1 H1.out.2.1 H1.out.2.2 HR6.out (Bears.new 600).ok rfl).mono ?_
  rintro e W2 ⟨⟨gx, Lx, rfl, h2⟩, -⟩
  rw [(Bears.new 600).stops (fun _ => at_new 600 _)] at h2
  have H2 := Lib.hid h2
  clear h2
  have hpl := pickN_lt fu (n := 60) (by omega)
  go_wp2_with fail
  refine (pick_any fu 60 (by omega) (by omega) _).mono ?_
  rintro e W3 ⟨rfl, rfl⟩
  obtain ⟨q, hq⟩ : ∃ q, pickN fu 60 = q := ⟨_, rfl⟩
  rw [hq] at hpl ⊢
  go_wp2_with fail
  refine (fuse_any (Dk.new 600) H2.out.d (q : Int) (by omega)).mono ?_
  rintro e W4 ⟨rfl, d4, k4⟩
  have h4 : SD w6 W4 [gd, w6.heap.size] Lx gd gx ((Dk.new 600).fused q) Sr.new := by
    have hlt : ∀ y ∈ Lx, y ∉ [gd, w6.heap.size] := H2.out.dis
    exact ⟨d4, H2.out.x.keep k4 hlt, hlt, H2.out.k.trans' k4 (fun y hy hl => by have := H2.out.dn y hy; omega), H2.out.dn, H2.out.xn⟩
  have hb4 : Bears ((Dk.new 600).fused q) Sr.new [] := (Bears.new 600).beyond rfl (Bears.new 600).ok rfl (fun _ _ => rfl)
  have H4 := Lib.hid h4
  have HB4 := Lib.hid hb4
  clear d4 k4 h4 hb4 H1 H2
  go_upto_block 0 with (fail)
  go_cut [10] (fun v wx => AtCrash w6 gd v wx)
  case first =>
    go_wp2
    go_loopw [10, 11] (fun v i wr => ∃ n Ld Lx D S l1, n ≤ l.length ∧ i = .int .i64 (n : Int) ∧ SD w6 wr Ld Lx gd gx D S ∧ Bears D S l1 ∧ D.sure.length = 600 ∧ room l1 ≤ 6 * n ∧ S.keys.length ≤ n ∧
      wr.ownsRow w6.heap.size 9 1 v S.keys.length (strs S.keys) ∧ Hid (∀ g, v.ownBlock = some g → g ∉ Ld ∧ g ∉ Lx)) (fun _ i _ => l.length - (intOf i).toNat)
    case atStart => exact ⟨0, _, _, _, _, [], by omega, rfl, H4.out, HB4.out, rfl, by decide, by decide, World.ownsRow_nil _ _ _ _, fun g hg => by simp [Value.ownBlock] at hg⟩
    case round =>
      clear H4 HB4
      obtain ⟨n, Ld, Lx2, D, S, l1, hn, rfl, h2, hb, hN, hroom, hkl2, hown, hvb⟩ := hrel
      have H2 := Lib.hid h2
      have HB := Lib.hid hb
      have HN := Lib.hid hN
      have HO := Lib.hid hown
      have HAT := Lib.hid hb.at_
      clear h2 hb hN hown
      by_cases hlt : n < l.length
      · obtain ⟨b, o, rfl, _, hbl, hc⟩ := HA6.out.open' (by omega) (by omega)
        have d06 := hc n _ (strs_at' l n hlt)
        have htl := HLONG.out l[n] (List.getElem_mem hlt)
        generalize l[n] = t at d06 htl
        have d1 := H2.out.k.cell_of d06 (by simp)
        have D6 := Lib.hid d06
        clear d06
        have hsecs : secs t.length ≤ 6 := by unfold secs; omega
        have HSECS := Lib.hid hsecs
        clear hc hsecs
        have hrm : S.at_ + secs t.length ≤ D.sure.length := by have := HAT.out; have := HN.out; have := HSECS.out; omega
        have hput := H2.out.put HR6.out t (by omega) hrm (by omega) HB.out.wait
        have hbp := HB.out.put t (by omega) hrm
        clear hrm
        obtain hbp | hbp := hbp
        · obtain ⟨p0, ⟨l2, hb2, hr2⟩, hlen2, hS2, ht2, hat2, hfu2⟩ := hbp
          have hany := any_iff HB.out.fit t
          have hkk := put_keys S t
          rw [← hS2] at hkk
          rw [p0] at hput
          have hpk : putK 0 t = shaL t := rfl
          rw [hpk] at hput
          generalize (putP D S t).2.1 = D2 at *
          generalize (putP D S t).2.2 = S2 at *
          have HPUT := Lib.hid hput
          have HB2 := Lib.hid hb2
          have HR2 := Lib.hid hr2
          have HL2 := Lib.hid (hlen2.trans HN.out)
          have HKK := Lib.hid hkk
          have HANY := Lib.hid hany
          clear hput hb2 hr2 hlen2 hS2 ht2 hat2 hfu2 p0 hpk hkk hany
          go_wp2_with fail
          refine HPUT.out.mono ?_
          rintro e W5 ⟨rfl, ⟨Ld2, Lx3, h3, hld, hlx⟩, k5⟩
          have hown5 := own_keep HO.out k5 (fun g hg hm => by
            rcases List.mem_append.1 hm with h | h
            · exact (hvb.out g hg).1 h
            · exact (hvb.out g hg).2 h)
          have hvb5 : Hid (∀ g, u10.ownBlock = some g → g ∉ Ld2 ∧ g ∉ Lx3) := fun g hg => by
            have hg2 := HO.out.lt g hg
            exact ⟨fun hm => (hld g hm).elim (hvb.out g hg).1 (fun h => by omega), fun hm => (hlx g hm).elim (hvb.out g hg).2 (fun h => by omega)⟩
          have H3 := Lib.hid h3
          have HO5 := Lib.hid hown5
          clear h3 hld hlx k5 hown5 hvb
          have hbb : (shaL t == shaL t) = true := beq_self_eq_true _
          have d5 := H3.out.k.cell_of D6.out (by simp)
          go_wp2_with fail
          refine (sum_any t (by omega) _ (HR6.out.quiet H3.out.k)).mono ?_
          rintro e W6 ⟨rfl, k6⟩
          have H4 := Lib.hid (H3.out.quiet k6)
          have HO6 := Lib.hid (own_keep HO5.out k6 (by simp))
          clear k6 d5
          obtain ⟨A6, c6, rfl, -⟩ := own_form HO6.out
          have hct := contains_str (shaL t) S.keys A6 c6 W6 (Rd.of_own HO6.out (by simp)) (by omega)
          rw [HANY.out] at hct
          cases hm : (S.m (shaL t)).isSome with
          | true =>
            rw [hm] at hct
            have HCT := Lib.hid hct
            have hk2 := HKK.out
            rw [if_pos hm] at hk2
            have HK2 := Lib.hid hk2
            clear hct hm hk2
            go_wp2_with fail
            refine HCT.out.mono ?_
            rintro e W7 ⟨rfl, rfl⟩
            go_wp2
            go_roundw
            case rel => exact ⟨n + 1, Ld2, Lx3, D2, S2, l2, by omega, by go_num, H4.out, HB2.out, HL2.out, by have := HR2.out; have := HSECS.out; omega, by rw [HK2.out]; omega, by rw [HK2.out]; exact HO6.out, hvb5⟩
            case measure => simp [intOf]; omega
          | false =>
            rw [hm] at hct
            have HCT := Lib.hid hct
            have hk2 := HKK.out
            rw [if_neg (by rw [hm]; decide)] at hk2
            have HK2 := Lib.hid hk2
            clear hct hm hk2
            obtain ⟨i0, hi, hz0, hz1, hz2⟩ := info_parts sinfo
            have hbd := Lib.hid (show S.keys.length + 1 ≤ maxLen ∧ (S.keys.length + 1) * 16 ≤ 140737488355328 by simp only [maxLen]; omega)
            have HW0 := Lib.hid (show w6.heap.size ≤ W6.heap.size + 1 from Nat.le_succ_of_le H4.out.k.size)
            go_wp2_with fail
            refine HCT.out.mono ?_
            rintro e W7 ⟨rfl, rfl⟩
            go_wp2_with (at_builtin; refine wpList_append_lies _ rfl _ _ 22 rfl _ 9 i0 _ 1 16 Tryd.underlying22 hi hz0 hz1 hz2 rfl (by decide) _ S.keys.length (strs S.keys) rfl (HO6.out.alloc _) ⟨W6.heap.size, 0, none⟩ 1 1 [.string (bs (shaL t))] rfl rfl (World.news_of_block (heap_alloc_new _ _)) (by simp [Value.oneCell']) (by decide) hbd.out.1 hbd.out.2 (by rw [alloc_size']; exact HW0.out) _ rfl ?_; intro gw cap2 w8 hown8 hgrow8 hat8 hlt8)
            have hg8 : (W6.alloc (.cells #[.string (bs (shaL t))] 9)).grownBy w8 (Value.slice A6 S.keys.length c6).ownBlock := hgrow8
            have ha8 : (Value.slice A6 S.keys.length c6).ownBlock = some gw ∨ gw = (W6.alloc (.cells #[.string (bs (shaL t))] 9)).heap.size := hat8
            have k8 : Keeps (Value.slice A6 S.keys.length c6).ownBlock.toList W6 w8 := ((Keeps.refl _ _).alloc _).grown hg8 (fun g hg => .inl (by rw [hg]; simp))
            have h8 := H4.out.keep k8 (fun y hy => by
              have hy' : (Value.slice A6 S.keys.length c6).ownBlock = some y := by simpa using hy
              exact ⟨(HO6.out.lt y hy').1, (hvb5.out y hy').1, (hvb5.out y hy').2⟩)
            have hv8 : Hid (∀ g, (Value.slice (some ⟨gw, 0, none⟩) (S.keys.length + 1) cap2).ownBlock = some g → g ∉ Ld2 ∧ g ∉ Lx3) := fun g hg => by
              have hg' : gw = g := by simpa [Value.ownBlock] using hg
              subst hg'
              rcases ha8 with h | h
              · exact hvb5.out _ h
              · have hge : W6.heap.size ≤ gw := by rw [h]; simp
                exact ⟨fun hm => by have := H4.out.d.lt _ hm; omega, fun hm => by have := H4.out.x.lt _ hm; omega⟩
            rw [← strs_snoc] at hown8
            have HO8 := Lib.hid hown8
            have H8 := Lib.hid h8
            have hkl3 : S2.keys.length = S.keys.length + 1 := by rw [HK2.out]; simp
            have HKL3 := Lib.hid hkl3
            clear hown8 hgrow8 hat8 hlt8 hg8 ha8 k8 h8 hkl3
            go_roundw
            case rel => exact ⟨n + 1, Ld2, Lx3, D2, S2, l2, by omega, by go_num, H8.out, HB2.out, HL2.out, by have := HR2.out; have := HSECS.out; omega, by rw [HKL3.out]; omega, by rw [HKL3.out, HK2.out]; exact HO8.out, hv8⟩
            case measure => simp [intOf]; omega
        · obtain ⟨p14, hS2, hsu, hwm, hwl, -⟩ := hbp
          have hpk : putK 14 t = [] := rfl
          rw [p14, hS2, errV_14, hpk] at hput
          generalize (putP D S t).2.1 = D2 at *
          have HPUT := Lib.hid hput
          have HX := Lib.hid (show D2.sure = D.sure ∧ (∀ p ∈ D2.wait, S.at_ ≤ p.1 ∧ p.2.length = 64) ∧ D2.wait.length ≤ 1000 from ⟨hsu, hwm, by have := HSECS.out; omega⟩)
          clear hput p14 hS2 hsu hwm hwl hpk
          go_wp2_with fail
          refine HPUT.out.mono ?_
          rintro e W5 ⟨rfl, ⟨Ld2, Lx3, h3, hld, hlx⟩, k5⟩
          have hown5 := own_keep HO.out k5 (fun g hg hm => by
            rcases List.mem_append.1 hm with h | h
            · exact (hvb.out g hg).1 h
            · exact (hvb.out g hg).2 h)
          have hvb5 : ∀ g, u10.ownBlock = some g → g ∉ Ld2 := fun g hg hm => (hld g hm).elim (hvb.out g hg).1 (fun h => by have := HO.out.lt g hg; omega)
          have hac := Lib.hid (show AtCrash w6 gd u10 W5 from ⟨D, D2, Ld2, Lx3, gx, S, l1, h3, HB.out, HX.out.1, HX.out.2.1, HN.out, HX.out.2.2, by omega, hown5, hvb5⟩)
          have htl := tell_any 14 W5 (HE6.out.keep h3.k (by simp))
          rw [errV_14] at htl
          have HTL := Lib.hid htl
          clear htl h3 hld hlx k5 hown5 hvb5 hvb
          go_wp2_with fail
          refine HTL.out.mono ?_
          rintro e W6 ⟨rfl, k6⟩
          go_wp2
          go_meet
          case rel => exact hac.out.quiet k6
      · have hac := Lib.hid (show AtCrash w6 gd u10 wr from ⟨D, D, Ld, Lx2, gx, S, l1, H2.out, HB.out, rfl, by rw [HB.out.wait]; simp, HN.out, by rw [HB.out.wait]; exact Nat.zero_le _, by omega, HO.out, fun g hg => (hvb.out g hg).1⟩)
        clear hvb
        go_wp2
        go_meet
        case rel => exact hac.out
  case rest =>
    clear H4 HB4 HA6 HA HLONG HCF
    obtain ⟨D0, D1, Ld, Lx1, gx1, S, l1, h1, hb, hsu, hwm, hN, hwl, hkl, hown, hvb⟩ := hcut
    have hbc := hb.crash hsu hwm ks
    have hlen2 : (D1.crash ks).sure.length = 600 := by show (puts _ _).length = _; rw [puts_length, hsu]; exact hN
    obtain ⟨m, hm⟩ := hbc.opens
    have hcr := crash_any D1 h1.d (by omega) K d ks (HKS6.out.apart h1.k h1.dn) (by omega)
    have hpre := openP_prefix (D1.crash ks) m S
    have hfit := openP_fit (D1.crash ks) m S hb.fit
    have hlen := openP_len (D1.crash ks) (D1.crash ks).sure.length Sr.new
    rw [hm, hlen2] at hlen
    have hlen' : (openP (D1.crash ks) m S).keys.length ≤ 600 := by simpa [Sr.new] using hlen
    have hk1 := h1.k
    have hd1 := h1.dn
    have HOK := Lib.hid hbc.ok
    have HM := Lib.hid hm
    have HO := Lib.hid hown
    have HDN := Lib.hid hd1
    have HK1 := Lib.hid hk1
    have HCR := Lib.hid hcr
    have HPRE := Lib.hid hpre
    have HFIT := Lib.hid hfit
    generalize openP (D1.crash ks) m S = Y at *
    have hple := hpre.length_le
    have HTK := Lib.hid (show Y.keys.take S.keys.length = S.keys from (List.prefix_iff_eq_take.1 hpre).symm)
    clear hcr hpre hfit hlen hm hbc hown hk1 hd1 h1 hb hsu hwm hN
    go_wp2_with fail
    refine HCR.out.mono ?_
    rintro e W5 ⟨rfl, d5, k5⟩
    have hk5 : Keeps [] w6 W5 := HK1.out.trans' k5 (fun y hy hl => by have := HDN.out y hy; omega)
    have hop := open_sd d5 hk5 HDN.out HR6.out HOK.out rfl
    rw [HM.out] at hop
    have HOP := Lib.hid hop
    have HO5 := Lib.hid (own_keep HO.out k5 (fun g hg hm => hvb g hg hm))
    clear hop d5 k5 hk5 hlen2
    go_wp2_with fail
    refine HOP.out.mono ?_
    rintro e W6 ⟨⟨gy, Ly, rfl, h6⟩, k6⟩
    have H6 := Lib.hid h6
    have HO6 := Lib.hid (own_keep HO5.out k6 (by simp))
    clear h6 k6
    go_wp2_with fail
    refine (keys_any H6.out.x (by omega)).mono ?_
    rintro e W7 ⟨A7, c7, rfl, o7, k7⟩
    have H7 := Lib.hid (H6.out.quiet k7)
    have HO7 := Lib.hid (own_keep HO6.out k7 (by simp))
    have O7 := Lib.hid (Rd.of_own o7 (L := []) (by simp))
    have hc7 := own_cap o7
    obtain ⟨A3, c3, rfl, -⟩ := own_form HO7.out
    clear o7 k7
    have O3 := Lib.hid (Rd.of_own HO7.out (L := []) (by simp))
    have heq := equal_at (Y.keys.take S.keys.length) S.keys S.keys.length S.keys.length A7 A3 c7 c3 W7 (by rw [HTK.out]) rfl (rd_take O7.out (by omega)) O3.out (by omega) (by omega)
    rw [HTK.out, beq_self_eq_true] at heq
    have HEQ := Lib.hid heq
    have hltd : decide (Y.keys.length < S.keys.length) = false := by simp; omega
    have hle2 : S.keys.length ≤ c7 := by omega
    clear heq
    go_wp2_with fail
    refine HEQ.out.mono ?_
    rintro e W8 ⟨rfl, k8⟩
    have H8 := Lib.hid (H7.out.quiet k8)
    have O8 := Lib.hid (O7.out.keep k8)
    clear k8 hltd hle2
    go_wp2
    go_loopw [16] (fun i wr => ∃ n : Nat, n ≤ Y.keys.length ∧ i = .int .i64 (n : Int) ∧ Keeps [] W8 wr) (fun i _ => Y.keys.length - (intOf i).toNat)
    case atStart => exact ⟨0, Nat.zero_le _, rfl, Keeps.refl _ _⟩
    case round =>
      obtain ⟨n, hn, rfl, hkr⟩ := hrel
      have HKR := Lib.hid hkr
      clear hkr
      by_cases hlt : n < Y.keys.length
      · obtain ⟨b, o, rfl, _, hbl, hc⟩ := (O8.out.keep HKR.out).open' (by omega) (by omega)
        have d1 := hc n _ (strs_at' Y.keys n hlt)
        have hky := (HFIT.out.1 Y.keys[n]).2 (List.getElem_mem hlt)
        generalize Y.keys[n] = kk at d1 hky
        obtain ⟨u, hu⟩ := Option.isSome_iff_exists.1 hky
        obtain ⟨hu1, hu2⟩ := HFIT.out.2 kk u hu
        have hkkl : kk.length ≤ maxLen := by rw [← hu1, shaL_length]; decide
        have hget := get_any (H8.out.quiet HKR.out).x kk hkkl
        rw [hu] at hget
        subst hu1
        have HGET := Lib.hid hget
        clear hc hky hu hget
        go_wp2_with fail
        refine HGET.out.mono ?_
        rintro e W9 ⟨rfl, rfl⟩
        have hbb : (shaL u == shaL u) = true := beq_self_eq_true _
        have hRr := Lib.hid (HR6.out.quiet (H8.out.k.trans HKR.out))
        have KD := Lib.hid (Keeps.drew (Keeps.refl [] wr))
        have hul : u.length ≤ 4294967296 := by omega
        go_wp2_with fail
        go_region_held3 (fun w' => w'.cell? ⟨b, o + n, none⟩ = some (.string (bs (shaL u)))) (first | exact d1 | exact k5.cell_of (p := ⟨b, o + n, none⟩) d1 (by simp) | go_keep) (first | (go_at_call 22; refine (sum_any u hul _ (by exact hRr.out.quiet KD.out)).mono ?_; rintro e w5 ⟨rfl, k5⟩))
        all_goals go_wp2
        all_goals have K5 := Lib.hid (HKR.out.trans (KD.out.trans k5))
        all_goals clear k5 d1
        all_goals go_roundw
        case rel => exact ⟨n + 1, by omega, by go_num, K5.out⟩
        case measure => simp [intOf]; omega
      · go_wp2
        go_ret
        exact ⟨rfl, HK6.out.trans (H8.out.k.trans HKR.out)⟩
/-- StoreHolds at whatever arguments. -/
theorem holds_all (l : List Bs) (ks : List Bool) (fu : Int) (A K : Option Addr) (c d : Nat) (w : World) (hE : ErrTy w) (hR : Rnds w) (hA : Rd w [] 1 A l.length (strs l)) (hK : Rd w [] 1 K ks.length (bools ks)) :
    Calls Tryd.prog 7 #[.slice A l.length c, .int .i64 fu, .slice K ks.length d] w fun ev w' => ev = .returned (.bool true) ∧ Keeps [] w w' := by
  by_cases h1 : (15 : Int) < (l.length : Int)
  · clear hA hE hR hK
    go_enter Tryd.func7, Tryd.ntmps7
    go_wp2
    go_ret
    exact ⟨rfl, Keeps.refl _ _⟩
  by_cases h2 : (100 : Int) < (ks.length : Int)
  · clear hA hE hR hK
    go_enter Tryd.func7, Tryd.ntmps7
    go_wp2
    go_ret
    exact ⟨rfl, Keeps.refl _ _⟩
  cases hany : (l.any fun s => decide (300 < s.length)) with
  | true =>
    have hcf := containsFunc_any 41 #[] (enters_of Tryd.func41 (by kernel_rfl) rfl) (fun s => decide (300 < s.length)) l A c w hA (by omega) (long4_pred l w)
    rw [hany] at hcf
    have HCF := Lib.hid hcf
    clear hcf hA hE hR hany hK
    go_enter Tryd.func7, Tryd.ntmps7
    go_wp2_with (go_at_call 9; refine HCF.out.mono ?_; rintro e w5 ⟨rfl, k5⟩)
    go_ret
    exact ⟨rfl, k5⟩
  | false =>
    rw [List.any_eq_false] at hany
    exact holds_main l ks fu A K c d w hE hR (by omega) (by omega) (fun t ht => by have := hany t ht; simp at this; omega) hA hK
end Go.Proofs.YtjoolemhcpcnoaaDoor
