/- DiskSure, walked. -/
import Derived.Test.YtelafmakgokhbaaDoorSureB
import Derived.Test.YtelafmakgokhbaaDoorSureC
import Derived.Laws.EntriesVeiled
namespace Go.Proofs.YtelafmakgokhbaaDoor
open Go.RowKit Go.BigFrame Go.Maps
attribute [local go_sem] bs_size bs_extract bs_append bs_toList errV_0 errV_2 errV_4 errV_14
theorem ranges_keeps {P : Program} {K : TypeId} {b r n cnt : Nat} {D : DataW Value} {left : Lit → Bool} {w w' : World} (h : w.ranges P K asIs b r n D left cnt) (hk : Keeps [] w w') : w'.ranges P K asIs b r n D left cnt := by
  have h1 := h.owns.lt
  have h2 := h.lt
  obtain ⟨es, clock, since, seen, c0, hb, F, hs, hD, hr, rest⟩ := h
  exact ⟨es, clock, since, seen, c0, (hk.block b h1 (by simp)).trans hb, F, hs, hD, (hk.block r h2 (by simp)).trans hr, rest⟩
theorem keeps_grown {w0 w w' : World} {row : Option Nat} (h : Keeps [] w0 w) (hg : w.grownBy w' row) (hr : ∀ g, row = some g → w0.heap.size ≤ g) : Keeps [] w0 w' := h.grown hg (fun g e => .inr (hr g e))
def boxLeft (p : Value) (W : World) : Nat := match p with
  | .pointer (some a) => (match W.cell? a with
    | some v => 16 - (intOf v).toNat
    | none => 0)
  | _ => 0
theorem boxLeft_of {W : World} {b : Nat} {t : TypeId} {k : Nat} (h : Blk W b t #[.int .i64 (k : Int)]) : boxLeft (.pointer (some ⟨b, 0, none⟩)) W = 16 - k := by
  unfold boxLeft
  have : W.cell? ⟨b, 0, none⟩ = some (.int .i64 (k : Int)) := h.cell 0
  simp only [this, intOf]
  rw [Int.toNat_natCast]
theorem asz (w : World) (o : Obj) : (w.alloc o).heap.size = w.heap.size + 1 := Array.size_push _
set_option maxRecDepth 100000 in
set_option maxHeartbeats 8000000 in
theorem sure_main (l more : List Bs) (at_ : List Int) (ks : List Bool) (A M B C : Option Addr) (c cm d e : Nat) (w : World) (hl : l.length ≤ 20) (hm : more.length ≤ 20) (ha : 0 < at_.length) (ha2 : at_.length ≤ 20) (hk : ks.length ≤ 30) (hs : ∀ s ∈ l, s.length ≤ 64) (hs2 : ∀ s ∈ more, s.length ≤ 64)
    (hA : Rd w [] 1 A l.length (strs l)) (hM : Rd w [] 1 M more.length (strs more)) (hB : Rd w [] 1 B at_.length (ints at_)) (hC : Rd w [] 1 C ks.length (bools ks)) :
    Calls Tryd.prog 3 #[.slice A l.length c, .slice M more.length cm, .slice B at_.length d, .slice C ks.length e] w fun ev w' => ev = .returned (.bool true) ∧ Keeps [] w w' := by
  have HA := Lib.hid hA
  have HM := Lib.hid hM
  have HB := Lib.hid hB
  have HC := Lib.hid hC
  have HS := Lib.hid hs
  have HS2 := Lib.hid hs2
  have c1 : ¬ (20 : Int) < (l.length : Int) := by omega
  have c2 : ¬ (20 : Int) < (more.length : Int) := by omega
  have c3 : ((at_.length : Int) == 0) = false := by rw [beq_eq_false_iff_ne]; omega
  have c4 : ¬ (20 : Int) < (at_.length : Int) := by omega
  have c5 : ¬ (30 : Int) < (ks.length : Int) := by omega
  have hany : ∀ l : List Bs, (∀ s ∈ l, s.length ≤ 64) → (l.any fun s => decide (64 < s.length)) = false := fun l h => by
    rw [List.any_eq_false]
    intro s hs
    have := h s hs
    simp; omega
  have HF1 : Hid (∀ W, Keeps [] w W → Calls Tryd.prog 5 #[.slice A l.length c, .func (.func 4) #[] #[]] W fun ev W' => ev = .returned (.bool false) ∧ Keeps [] W W') := Lib.hid (fun W q => by
    have h := containsFunc_any 4 #[] (enters_of Tryd.func4 (by kernel_rfl) rfl) (fun s => decide (64 < s.length)) l A c W (hA.keep q) (by omega) (long1_predS l W)
    rw [hany l hs] at h
    exact h)
  have HF2 : Hid (∀ W, Keeps [] w W → Calls Tryd.prog 5 #[.slice M more.length cm, .func (.func 4) #[] #[]] W fun ev W' => ev = .returned (.bool false) ∧ Keeps [] W W') := Lib.hid (fun W q => by
    have h := containsFunc_any 4 #[] (enters_of Tryd.func4 (by kernel_rfl) rfl) (fun s => decide (64 < s.length)) more M cm W (hM.keep q) (by omega) (long1_predS more W)
    rw [hany more hs2] at h
    exact h)
  clear hA hM hB hC hs hs2 hany
  go_enter Tryd.func3, Tryd.ntmps3
  go_upto_region 2 with (fail)
  have HX1 := Lib.hid (Blk.new w 23 #[.slice B at_.length d])
  have HK0 := Lib.hid ((Keeps.refl [] w).alloc (.cells #[.slice B at_.length d] 23))
  obtain ⟨W1, hW1⟩ : ∃ x, w.alloc (.cells #[.slice B at_.length d] 23) = x := ⟨_, rfl⟩
  rw [hW1] at HX1 HK0 ⊢
  obtain ⟨x1, hx1⟩ : ∃ x, w.heap.size = x := ⟨_, rfl⟩
  have HX10 : Hid (w.heap.size ≤ x1) := Lib.hid (Nat.le_of_eq hx1)
  rw [hx1] at HX1 ⊢
  clear hW1 hx1
  have y1 : W1.cell? ⟨x1, 0, none⟩ = some (.slice B at_.length d) := HX1.out.cell 0
  have ly1 := HX1.out.lt
  go_wp2_with fail
  refine (HF1.out W1 HK0.out).mono ?_
  rintro ev W2 ⟨rfl, k2⟩
  go_wp2_with fail
  refine (HF2.out W2 (HK0.out.trans k2)).mono ?_
  rintro ev W3 ⟨rfl, k3⟩
  have HK3 := Lib.hid ((HK0.out.trans k2).trans k3)
  have HX3 := Lib.hid ((HX1.out.keep k2 (by simp)).keep k3 (by simp))
  clear y1 ly1 k2 k3 HX1 HK0 HF1 HF2 c3
  go_wp2_with fail
  refine (lost_any W3).mono ?_
  rintro ev W4 ⟨rfl, k4⟩
  have HK4 := Lib.hid (HK3.out.trans k4)
  have HX4 := Lib.hid (HX3.out.keep k4 (by simp))
  clear k4 HK3 HX3
  go_wp2_with fail
  refine (new_da HK4.out 16 (by decide) (by decide)).mono ?_
  rintro ev W5 ⟨rfl, hd5, k5⟩
  have HK5 := Lib.hid (HK4.out.trans k5)
  have HX5 := Lib.hid (HX4.out.keep k5 (by simp))
  have HXL : Hid (∀ x ∈ [W4.heap.size + 1, W4.heap.size], x < W5.heap.size ∧ w.heap.size ≤ x ∧ x1 ≠ x) := Lib.hid (fun x hx => by
    have h1 := hd5.1.lt x hx
    have h2 := hd5.2.2 x hx
    have h3 := HX4.out.lt
    refine ⟨h1, h2, ?_⟩
    rcases List.mem_cons.1 hx with rfl | hx
    · omega
    · rw [List.mem_singleton.1 hx]; omega)
  have HD5 := Lib.hid hd5
  generalize W4.heap.size + 1 = g at *
  generalize [g, W4.heap.size] = L at *
  clear hd5 k5 HX4 HK4
  go_upto_region 9 with (fail)
  have HX36 := Lib.hid (Blk.new W5 28 #[.pointer (some ⟨g, 0, none⟩)])
  have HK56 := Lib.hid ((Keeps.refl [] W5).alloc (.cells #[.pointer (some ⟨g, 0, none⟩)] 28))
  have HS6 := Lib.hid (asz W5 (.cells #[.pointer (some ⟨g, 0, none⟩)] 28))
  obtain ⟨W6, hW6⟩ : ∃ x, W5.alloc (.cells #[.pointer (some ⟨g, 0, none⟩)] 28) = x := ⟨_, rfl⟩
  rw [hW6] at HX36 HK56 HS6 ⊢
  clear hW6
  go_upto_region 10 with (fail)
  have HX27 := Lib.hid (Blk.new W6 34 #[.func (.func 8) #[] #[]])
  have HK67 := Lib.hid ((Keeps.refl [] W6).alloc (.cells #[.func (.func 8) #[] #[]] 34))
  have HS7 := Lib.hid (asz W6 (.cells #[.func (.func 8) #[] #[]] 34))
  obtain ⟨W7, hW7⟩ : ∃ x, W6.alloc (.cells #[.func (.func 8) #[] #[]] 34) = x := ⟨_, rfl⟩
  rw [hW7] at HX27 HK67 HS7 ⊢
  clear hW7
  have hmm := @run_makeMap Tryd.prog
  go_upto_region 11 with (fail)
  clear hmm
  have hL7 : ∀ x ∈ L, x < W7.heap.size := fun x hx => by
    have h1 := (HXL.out x hx).1
    have h2 := HK56.out.size
    have h3 := HK67.out.size
    omega
  have hmm7 := MayIn.made W7 L hL7
  have HX48 := Lib.hid (Blk.new (W7.alloc (.map #[] 0)) 35 #[.map (some W7.heap.size)])
  have hs8 := asz W7 (.map #[] 0)
  rw [hs8] at HX48
  have HK78 := Lib.hid (((Keeps.refl [] W7).alloc (.map #[] 0)).alloc (.cells #[.map (some W7.heap.size)] 35))
  have HM8 := Lib.hid (hmm7.quiet ((Keeps.refl [] _).alloc (.cells #[.map (some W7.heap.size)] 35)))
  clear hmm7
  obtain ⟨W8, hW8⟩ : ∃ x, (W7.alloc (.map #[] 0)).alloc (.cells #[.map (some W7.heap.size)] 35) = x := ⟨_, rfl⟩
  rw [hW8] at HX48 HK78 HM8 ⊢
  have hx4 : W7.heap.size + 1 ≠ W7.heap.size := by omega
  have hsize : x1 < W5.heap.size ∧ W5.heap.size < W6.heap.size ∧ W6.heap.size < W7.heap.size ∧ w.heap.size ≤ W5.heap.size := by
    have h1 := HX5.out.lt
    have h2 := HS6.out
    have h3 := HS7.out
    have h4 := HK5.out.size
    omega
  have hSS : SS w W8 L g W7.heap.size (W7.heap.size + 1) x1 W6.heap.size W5.heap.size (W7.heap.size + 1) B at_.length d (Dk.new 16) 0 may0 := by
    refine ⟨((HD5.out.quiet HK56.out).quiet HK67.out).quiet HK78.out, HM8.out, ((HX5.out.keep HK56.out (by simp)).keep HK67.out (by simp)).keep HK78.out (by simp), HX27.out.keep HK78.out (by simp), (HX36.out.keep HK67.out (by simp)).keep HK78.out (by simp), HX48.out, ⟨fun hx => (HXL.out x1 hx).2.2 rfl, by omega⟩, ⟨fun hx => ?_, by omega⟩, ⟨fun hx => ?_, by omega⟩, ⟨fun hx => ?_, hx4⟩, by omega, by omega⟩
    · have := (HXL.out _ hx).1; omega
    · have := (HXL.out _ hx).1; omega
    · have := (HXL.out _ hx).1; omega
  have HSS := Lib.hid hSS
  clear hSS hsize hx4 hW8 HX48 HK78 HM8 hs8 hL7 HX27 HK67 HS7 HX36 HK56 HS6 HD5 HXL HX5 HK5
  generalize W7.heap.size + 1 = x4 at *
  generalize W7.heap.size = bm at *
  generalize W6.heap.size = x2 at *
  generalize W5.heap.size = x3 at *
  go_wp2_with fail
  refine (put_any true l at_ HS.out hl ha ha2 A c HA.out HB.out HSS.out (by simp [Dk.new]) rfl (by simp [Dk.new]) (by omega) (fun j l h => by cases h)).mono ?_
  rintro ev W9 ⟨rfl, L9, n9, h9, hn9⟩
  have H9 : Hid (SS w W9 L9 g bm x4 x1 x2 x3 x4 B at_.length d (sureD1 l at_) n9 (sureM1 l at_)) := Lib.hid h9
  clear h9 HSS
  have y3 : W9.cell? ⟨x3, 0, none⟩ = some (.pointer (some ⟨g, 0, none⟩)) := H9.out.b3.cell 0
  have ly3 := H9.out.b3.lt
  go_wp2_with fail
  refine (sync_da H9.out.da 0 _ (by show (wroteOf l at_ l.length).length ≤ _; rw [wroteOf_len]; omega) (sure_sync l at_)).mono ?_
  rintro ev Wa ⟨rfl, hda, hka⟩
  have Ha := Lib.hid (H9.out.disk hda hka (fun x hx => .inl hx))
  clear hda hka y3 ly3 H9
  go_upto_region 15 with (fail)
  have y4 : Wa.cell? ⟨x4, 0, none⟩ = some (.map (some bm)) := Ha.out.b4.cell 0
  have ly4 := Ha.out.b4.lt
  obtain ⟨vs, hmv, hrows, hap, hoff, hbL, hdom, hbase⟩ := Ha.out.may
  obtain ⟨D1, hD1, hD2⟩ := hmv
  have HROW := Lib.hid hrows
  have HD2 := Lib.hid hD2
  clear hrows hap hoff hbL hdom hbase hD2
  obtain ⟨r, hr⟩ : ∃ r, Wa.heap.size = r := ⟨_, rfl⟩
  have HRS : Hid (Wa.heap.size ≤ r) := Lib.hid (Nat.le_of_eq hr)
  go_wp2_with (first | (at_range; refine wpList_range_own _ rfl _ 35 rfl 3 22 (int_keyed Tryd.underlying3) Tryd.underlying35 asIs bm n9 D1 rfl hD1 ?_; intro wR hrg0 hg0 hs0))
  have HG0 := Lib.hid (keeps_grown (Keeps.refl [] Wa) hg0 (fun g e => by cases e))
  rw [hr] at hrg0 ⊢
  have HRG := Lib.hid hrg0
  clear hD1 hg0 hs0 hrg0 hr y4 ly4
  go_frame
  go_loopw [17] (fun _ wx => ∃ (left : Lit → Bool) (cnt : Nat), Hid (wx.ranges Tryd.prog 3 asIs bm r n9 D1 left cnt) ∧ Hid (Keeps [] Wa wx)) (fun _ wx => wx.rangeLeft bm r)
  case atStart => exact ⟨_, _, HRG, HG0⟩
  case round =>
    clear HRG HG0
    obtain ⟨left, cnt, HRG, HK⟩ := hrel
    have hrg := HRG.out
    go_wp2_with (first | (at_next; refine wpList_next_ranges _ rfl _ rfl 3 (int_keyed Tryd.underlying3) asIs (fun x : Int => Value.int .i64 x) (fun c : Value => c) (fun key kl h => by obtain ⟨x, e, _⟩ := keyOf_int_inv Tryd.underlying3 h; exact ⟨x, e⟩) (fun v y _ => ⟨v, rfl⟩) bm r n9 D1 left cnt rfl hrg ?_ ?_))
    · intro _ _
      clear hrg
      have HSa := Lib.hid (Ha.out.quiet HK.out)
      clear HRG HK Ha
      obtain ⟨Wc, hWc⟩ : ∃ x : World, x = wr := ⟨_, rfl⟩
      subst hWc
      go_wp2_with fail
      refine (put_any false more at_ HS2.out hm ha ha2 M cm HM.out HB.out HSa.out (by show (puts _ _).length = 16; rw [puts_length, List.length_replicate]) rfl (by simp [sureD2]) (by omega) (fun j l' h => by
        have := may_len true may0 0 (fun j l h => by cases h) (wroteOf l at_ l.length) j l' h
        rw [wroteOf_len] at this
        omega)).mono ?_
      rintro ev Wd ⟨rfl, Ld, nd, hd, hnd⟩
      have Hd : Hid (SS w Wd Ld g bm x4 x1 x2 x3 x4 B at_.length d (sureD3 l more at_) nd (sureM2 l more at_)) := Lib.hid hd
      clear hd HSa
      have y3 : Wd.cell? ⟨x3, 0, none⟩ = some (.pointer (some ⟨g, 0, none⟩)) := Hd.out.b3.cell 0
      have ly3 := Hd.out.b3.lt
      have hks : Rd Wd Ld 1 C ks.length (bools ks) := (HC.out.move (L' := Ld) (fun x hx hl => by have := Hd.out.da.2.2 x hx; omega)).keep Hd.out.da.2.1.of_nil
      have HKS := Lib.hid hks
      clear hks
      go_wp2_with fail
      refine (crash_da Hd.out.da (by show (wroteOf more at_ more.length).length ≤ _; rw [wroteOf_len]; omega) C e ks.length ks rfl HKS.out (by omega)).mono ?_
      rintro ev We ⟨rfl, he, hke⟩
      have He := Lib.hid (Hd.out.disk he hke (fun x hx => .inl hx))
      clear he hke y3 ly3 Hd HKS
      go_upto_region 24 with (fail)
      have HBK0 := Lib.hid (Blk.new We 3 #[.int .i64 0])
      have HKE0 := Lib.hid ((Keeps.refl [] We).alloc (.cells #[.int .i64 0] 3))
      have HPZ : Hid (padded [] = zeros) := Lib.hid (by unfold padded; rfl)
      go_loopw [19] (fun p wx => ∃ k bk : Nat, k ≤ 16 ∧ p = .pointer (some ⟨bk, 0, none⟩) ∧ We.heap.size ≤ bk ∧ Hid (Blk wx bk 3 #[.int .i64 (k : Int)]) ∧ Hid (Keeps [] We wx)) (fun p wx => boxLeft p wx)
      case atStart => exact ⟨0, _, by omega, rfl, Nat.le_refl _, HBK0, HKE0⟩
      case round =>
        clear HBK0 HKE0
        obtain ⟨k, bk, hk16, rfl, hbe, HBK, HKE⟩ := hrel
        have HBE := Lib.hid hbe
        have HMS := Lib.hid (boxLeft_of HBK.out)
        clear hbe
        by_cases hlt : k < 16
        · have hlt2 : (k : Int) < 16 := by omega
          have hkw : IntKind.i64.wrap ((k : Int) + 1) = (k : Int) + 1 := IntWalk.i64_in _ (by omega)
          have HKC : Hid ((k : Int) + 1 = ((k + 1 : Nat) : Int)) := Lib.hid (by omega)
          obtain ⟨t, ht⟩ : ∃ t, ((sureD3 l more at_).crash ks).at k = t := ⟨_, rfl⟩
          obtain ⟨x, hx⟩ : ∃ x, (sureM2 l more at_ k).getD [] = x := ⟨_, rfl⟩
          have hfin := sure_final HS.out HS2.out at_ ks hlt ht hx
          have h64 := sure_64 HS.out HS2.out at_ hx
          have hrd : ((sureD3 l more at_).crash ks).read (k : Int) = (0, t) := by
            unfold Dk.read
            rw [if_neg (by show ¬ (_ ∨ ((puts (puts _ _) _).length : Int) ≤ _); rw [puts_length, puts_length, List.length_replicate]; omega), Int.toNat_natCast, ht]
          obtain ⟨v, hlook, hrow⟩ := He.out.may.look hlt
          rw [hx] at hrow
          have HLK := Lib.hid hlook
          have yk : wr.cell? ⟨bk, 0, none⟩ = some (.int .i64 (k : Int)) := HBK.out.cell 0
          have lyk := HBK.out.lt
          have y3 : wr.cell? ⟨x3, 0, none⟩ = some (.pointer (some ⟨g, 0, none⟩)) := (He.out.b3.keep HKE.out (by simp)).cell 0
          have ly3 : x3 < wr.heap.size := (He.out.b3.keep HKE.out (by simp)).lt
          have HRDA := Lib.hid (read_da (He.out.da.quiet HKE.out) (k : Int) (by show ([] : List (Nat × Bs)).length ≤ _; simp) 0 t hrd)
          have hxl : x.length ≤ 100 := by
            rw [← hx]
            cases hm : sureM2 l more at_ k with
            | none => simp
            | some lx =>
              have h1 := may_len true may0 0 (fun j l h => by cases h) (wroteOf l at_ l.length)
              have h2 := may_len false (sureM1 l at_) (0 + (wroteOf l at_ l.length).length) h1 (wroteOf more at_ more.length) k lx hm
              rw [wroteOf_len, wroteOf_len] at h2
              simp only [Option.getD_some]
              omega
          clear ht hx hrd hlook
          go_wp2_with fail
          refine HRDA.out.mono ?_
          rintro ev w2 ⟨rfl, _, k2⟩
          clear yk lyk y3 ly3 HRDA
          cases x with
          | nil =>
            obtain ⟨A', cap, rfl⟩ : ∃ A' cap, v = .slice A' 0 cap := by
              rcases hrow.2 with ⟨hv, _⟩ | ⟨gv, cap, cur, hv, _⟩
              · exact ⟨none, 0, hv⟩
              · exact ⟨_, cap, hv⟩
            obtain rfl : t = zeros := hfin.1 rfl
            clear hrow hfin hxl h64
            have yk : w2.cell? ⟨bk, 0, none⟩ = some (.int .i64 (k : Int)) := (HBK.out.keep k2 (by simp)).cell 0
            have lyk : bk < w2.heap.size := (HBK.out.keep k2 (by simp)).lt
            have y4 : w2.cell? ⟨x4, 0, none⟩ = some (.map (some bm)) := (He.out.b4.keep (HKE.out.trans k2) (by simp)).cell 0
            have ly4 : x4 < w2.heap.size := (He.out.b4.keep (HKE.out.trans k2) (by simp)).lt
            have y2 : w2.cell? ⟨x2, 0, none⟩ = some (.func (.func 8) #[] #[]) := (He.out.b2.keep (HKE.out.trans k2) (by simp)).cell 0
            have ly2 : x2 < w2.heap.size := (He.out.b2.keep (HKE.out.trans k2) (by simp)).lt
            have q := HLK.out w2 ((HKE.out.trans k2)).of_nil
            go_wp2_with fail
            refine (full_any [] (by decide) w2).mono ?_
            rintro ev w3 ⟨rfl, k3⟩
            clear yk lyk y4 ly4 y2 ly2 q
            have K3 := Lib.hid (k2.trans k3)
            have KE3 := Lib.hid (HKE.out.trans K3.out)
            have hne : (bs zeros != bs (padded [])) = false := by rw [HPZ.out, bne, bs_beqs, decide_eq_true rfl]; rfl
            have hne3 : (zeros == padded []) = true := by rw [HPZ.out]; exact beq_self_eq_true _
            clear k2 k3
            have yk : w3.cell? ⟨bk, 0, none⟩ = some (.int .i64 (k : Int)) := (HBK.out.keep K3.out (by simp)).cell 0
            have lyk : bk < w3.heap.size := (HBK.out.keep K3.out (by simp)).lt
            have y4 : w3.cell? ⟨x4, 0, none⟩ = some (.map (some bm)) := (He.out.b4.keep KE3.out (by simp)).cell 0
            have ly4 : x4 < w3.heap.size := (He.out.b4.keep KE3.out (by simp)).lt
            have y2 : w3.cell? ⟨x2, 0, none⟩ = some (.func (.func 8) #[] #[]) := (He.out.b2.keep KE3.out (by simp)).cell 0
            have ly2 : x2 < w3.heap.size := (He.out.b2.keep KE3.out (by simp)).lt
            have q := HLK.out w3 (KE3.out).of_nil
            go_wp2
            go_roundw
            case rel => exact ⟨k + 1, w3.heap.size, by omega, rfl, (KE3.out).size, Lib.hid ((Blk.new w3 3 #[.int .i64 ((k : Int) + 1)]).congr (by rw [HKC.out])), Lib.hid (((KE3.out)).alloc _)⟩
            case measure =>
              rw [boxLeft_of ((Blk.new w3 3 #[.int .i64 ((k : Int) + 1)]).congr (by rw [HKC.out])), HMS.out]
              omega
          | cons y xs =>
            obtain ⟨N, hN⟩ : ∃ N, (y :: xs).length = N := ⟨_, rfl⟩
            have hN0 : 0 < N := by rw [← hN]; simp
            obtain ⟨gv, cap, rfl, -, -⟩ := hrow.form (by simp)
            have hrdx : Rd We [] 1 (some ⟨gv, 0, none⟩) (y :: xs).length (strs (y :: xs)) := Rd.of_own hrow (fun _ _ => by simp)
            have HROWX := Lib.hid hrdx
            have hcell : We.cell? ⟨gv, 0, none⟩ = some (.string (bs y)) := by
              have := hrow.cells (g := gv) rfl 0 _ (show (strs (y :: xs))[0]? = some (.string (bs y)) from rfl)
              rwa [add_at, Nat.zero_add] at this
            have HCELL := Lib.hid hcell
            have HCT := Lib.hid (fun W' (q : Keeps [] We W') => contains_str t (y :: xs) (some ⟨gv, 0, none⟩) cap W' (hrdx.keep q) (by omega))
            rw [hN] at HLK HCT hxl
            have hf1 : ((y :: xs).any fun u => t == u) = false → t = zeros := fun h => by
              rcases hfin.2.1 with h1 | h1
              · rw [List.any_eq_false] at h
                exact absurd (beq_self_eq_true t) (h t h1)
              · exact h1
            have hf2 : N = 1 → (more.any fun s => decide (padded s = y)) = false → t = y := fun h1 h2 => by
              have hxs : xs = [] := by
                rw [← hN] at h1
                exact List.eq_nil_of_length_eq_zero (by simpa using h1)
              rcases hfin.2.2 y (by rw [hxs]) with h3 | h3
              · rw [List.any_eq_true] at h3
                obtain ⟨s, hs, he⟩ := h3
                rw [List.any_eq_false] at h2
                exact absurd (decide_eq_true (by simpa using he)) (h2 s hs)
              · exact h3
            have HF1 := Lib.hid hf1
            have HF2 := Lib.hid hf2
            have n0 : ((N : Int) == 0) = false := by rw [beq_eq_false_iff_ne]; omega
            have n1 : (0 : Int) < (N : Int) := by omega
            have HY64 := Lib.hid (h64 y (List.mem_cons_self ..))
            clear h64
            have HTR : Hid (∀ W', Calls Tryd.prog 17 #[.string (bs y), .string ⟨#[0]⟩] W' fun e w' => e = .returned (.string (bs (Lib.trimRightB y 0))) ∧ w' = W') := Lib.hid (fun W' => Tryd.strings_TrimRight_one (bs y) 0 (by decide) W' (by rw [bs_size, HY64.out]; decide))
            have HCL := Lib.hid (fun W' (q : Keeps [] w W') => contains_str (Lib.trimRightB y 0) l A c W' (HA.out.keep q) (by omega))
            have HCM := Lib.hid (fun W' (q : Keeps [] We W') (hb : W'.cell? ⟨bk, 0, none⟩ = some (.int .i64 (k : Int))) => containsFunc_any 18 #[.pointer (some ⟨x2, 0, none⟩), .pointer (some ⟨x4, 0, none⟩), .pointer (some ⟨bk, 0, none⟩)] (enters_of Tryd.func18 (by kernel_rfl) rfl) (fun s => decide (padded s = y)) more M cm W' (HM.out.keep (He.out.da.2.1.trans q)) (by omega) (fun s hs W2 q2 => sure4_any s y (HS2.out s hs) x2 x4 bk bm k gv N cap hN0 W2 ((He.out.b2.keep (q.trans q2) (by simp)).cell 0) ((He.out.b4.keep (q.trans q2) (by simp)).cell 0) (q2.cell_of hb (by simp)) (fun W3 q3 => HLK.out W3 ((q.trans q2).trans q3).of_nil) ((q.trans q2).cell_of HCELL.out (by simp))))
            clear hrow hrdx hcell hf1 hf2 hfin hxl hN
            generalize ((y :: xs).any fun u => t == u) = cb at HCT HF1
            generalize (l.any fun u => Lib.trimRightB y 0 == u) = c1b at HCL
            generalize (more.any fun s => decide (padded s = y)) = c2b at HCM HF2
            generalize Lib.trimRightB y 0 = z at HTR HCL
            have K2 := Lib.hid k2
            have KE2 := Lib.hid (HKE.out.trans k2)
            clear k2
            have yk : w2.cell? ⟨bk, 0, none⟩ = some (.int .i64 (k : Int)) := (HBK.out.keep K2.out (by simp)).cell 0
            have lyk : bk < w2.heap.size := (HBK.out.keep K2.out (by simp)).lt
            have y4 : w2.cell? ⟨x4, 0, none⟩ = some (.map (some bm)) := (He.out.b4.keep KE2.out (by simp)).cell 0
            have ly4 : x4 < w2.heap.size := (He.out.b4.keep KE2.out (by simp)).lt
            have y2 : w2.cell? ⟨x2, 0, none⟩ = some (.func (.func 8) #[] #[]) := (He.out.b2.keep KE2.out (by simp)).cell 0
            have ly2 : x2 < w2.heap.size := (He.out.b2.keep KE2.out (by simp)).lt
            have q := HLK.out w2 (KE2.out).of_nil
            cases cb with
            | true =>
              go_wp2_with fail
              refine (HCT.out w2 KE2.out).mono ?_
              rintro ev wc ⟨rfl, rfl⟩
              by_cases hN1 : N = 1
              · have e1 : ((N : Int) == 1) = true := by rw [hN1]; rfl
                have dy : w2.cell? ⟨gv, 0, none⟩ = some (.string (bs y)) := (KE2.out).cell_of HCELL.out (by simp)
                have ldy := World.block_lt_of_cell? _ _ dy
                go_wp2_with fail
                refine (HTR.out w2).mono ?_
                rintro ev wt ⟨rfl, rfl⟩
                cases c1b with
                | false =>
                  go_wp2_with fail
                  refine (HCL.out wt (He.out.da.2.1.trans (KE2.out))).mono ?_
                  rintro ev wu ⟨rfl, rfl⟩
                  go_wp2
                  go_roundw
                  case rel => exact ⟨k + 1, wt.heap.size, by omega, rfl, (KE2.out).size, Lib.hid ((Blk.new wt 3 #[.int .i64 ((k : Int) + 1)]).congr (by rw [HKC.out])), Lib.hid (((KE2.out)).alloc _)⟩
                  case measure =>
                    rw [boxLeft_of ((Blk.new wt 3 #[.int .i64 ((k : Int) + 1)]).congr (by rw [HKC.out])), HMS.out]
                    omega
                | true =>
                  go_wp2_with fail
                  refine (HCL.out wt (He.out.da.2.1.trans (KE2.out))).mono ?_
                  rintro ev wu ⟨rfl, rfl⟩
                  go_wp2_with fail
                  refine (HCM.out wt (KE2.out) yk).mono ?_
                  rintro ev wv ⟨rfl, kv⟩
                  have KV := Lib.hid ((K2.out).trans kv)
                  have KEV := Lib.hid ((KE2.out).trans kv)
                  have dyv := kv.cell_of dy (by simp)
                  have ldv := World.block_lt_of_cell? _ _ dyv
                  clear kv dy ldy yk lyk y4 ly4 y2 ly2 q
                  have yk : wv.cell? ⟨bk, 0, none⟩ = some (.int .i64 (k : Int)) := (HBK.out.keep KV.out (by simp)).cell 0
                  have lyk : bk < wv.heap.size := (HBK.out.keep KV.out (by simp)).lt
                  have y4 : wv.cell? ⟨x4, 0, none⟩ = some (.map (some bm)) := (He.out.b4.keep KEV.out (by simp)).cell 0
                  have ly4 : x4 < wv.heap.size := (He.out.b4.keep KEV.out (by simp)).lt
                  have y2 : wv.cell? ⟨x2, 0, none⟩ = some (.func (.func 8) #[] #[]) := (He.out.b2.keep KEV.out (by simp)).cell 0
                  have ly2 : x2 < wv.heap.size := (He.out.b2.keep KEV.out (by simp)).lt
                  have q := HLK.out wv (KEV.out).of_nil
                  cases c2b with
                  | true =>
                    go_wp2
                    go_roundw
                    case rel => exact ⟨k + 1, wv.heap.size, by omega, rfl, (KEV.out).size, Lib.hid ((Blk.new wv 3 #[.int .i64 ((k : Int) + 1)]).congr (by rw [HKC.out])), Lib.hid (((KEV.out)).alloc _)⟩
                    case measure =>
                      rw [boxLeft_of ((Blk.new wv 3 #[.int .i64 ((k : Int) + 1)]).congr (by rw [HKC.out])), HMS.out]
                      omega
                  | false =>
                    have hty : t = y := HF2.out hN1 rfl
                    have hne2 : (bs t != bs y) = false := by rw [hty, bne, bs_beqs, decide_eq_true rfl]; rfl
                    have hne4 : (t == y) = true := by rw [hty]; exact beq_self_eq_true _
                    go_wp2
                    go_roundw
                    case rel => exact ⟨k + 1, wv.heap.size, by omega, rfl, (KEV.out).size, Lib.hid ((Blk.new wv 3 #[.int .i64 ((k : Int) + 1)]).congr (by rw [HKC.out])), Lib.hid (((KEV.out)).alloc _)⟩
                    case measure =>
                      rw [boxLeft_of ((Blk.new wv 3 #[.int .i64 ((k : Int) + 1)]).congr (by rw [HKC.out])), HMS.out]
                      omega
              · have e1 : ((N : Int) == 1) = false := by rw [beq_eq_false_iff_ne]; omega
                go_wp2
                go_roundw
                case rel => exact ⟨k + 1, w2.heap.size, by omega, rfl, (KE2.out).size, Lib.hid ((Blk.new w2 3 #[.int .i64 ((k : Int) + 1)]).congr (by rw [HKC.out])), Lib.hid (((KE2.out)).alloc _)⟩
                case measure =>
                  rw [boxLeft_of ((Blk.new w2 3 #[.int .i64 ((k : Int) + 1)]).congr (by rw [HKC.out])), HMS.out]
                  omega
            | false =>
              obtain rfl : t = zeros := HF1.out rfl
              go_wp2_with fail
              refine (HCT.out w2 KE2.out).mono ?_
              rintro ev wc ⟨rfl, rfl⟩
              go_wp2_with fail
              refine (full_any [] (by decide) w2).mono ?_
              rintro ev w3 ⟨rfl, k3⟩
              have hne : (bs zeros != bs (padded [])) = false := by rw [HPZ.out, bne, bs_beqs, decide_eq_true rfl]; rfl
              have hne3 : (zeros == padded []) = true := by rw [HPZ.out]; exact beq_self_eq_true _
              have K3 := Lib.hid (K2.out.trans k3)
              have KE3 := Lib.hid (KE2.out.trans k3)
              clear k3 yk lyk y4 ly4 y2 ly2 q
              have yk : w3.cell? ⟨bk, 0, none⟩ = some (.int .i64 (k : Int)) := (HBK.out.keep K3.out (by simp)).cell 0
              have lyk : bk < w3.heap.size := (HBK.out.keep K3.out (by simp)).lt
              have y4 : w3.cell? ⟨x4, 0, none⟩ = some (.map (some bm)) := (He.out.b4.keep KE3.out (by simp)).cell 0
              have ly4 : x4 < w3.heap.size := (He.out.b4.keep KE3.out (by simp)).lt
              have y2 : w3.cell? ⟨x2, 0, none⟩ = some (.func (.func 8) #[] #[]) := (He.out.b2.keep KE3.out (by simp)).cell 0
              have ly2 : x2 < w3.heap.size := (He.out.b2.keep KE3.out (by simp)).lt
              have q := HLK.out w3 (KE3.out).of_nil
              by_cases hN1 : N = 1
              · have e1 : ((N : Int) == 1) = true := by rw [hN1]; rfl
                have dy : w3.cell? ⟨gv, 0, none⟩ = some (.string (bs y)) := (KE3.out).cell_of HCELL.out (by simp)
                have ldy := World.block_lt_of_cell? _ _ dy
                go_wp2_with fail
                refine (HTR.out w3).mono ?_
                rintro ev wt ⟨rfl, rfl⟩
                cases c1b with
                | false =>
                  go_wp2_with fail
                  refine (HCL.out wt (He.out.da.2.1.trans (KE3.out))).mono ?_
                  rintro ev wu ⟨rfl, rfl⟩
                  go_wp2
                  go_roundw
                  case rel => exact ⟨k + 1, wt.heap.size, by omega, rfl, (KE3.out).size, Lib.hid ((Blk.new wt 3 #[.int .i64 ((k : Int) + 1)]).congr (by rw [HKC.out])), Lib.hid (((KE3.out)).alloc _)⟩
                  case measure =>
                    rw [boxLeft_of ((Blk.new wt 3 #[.int .i64 ((k : Int) + 1)]).congr (by rw [HKC.out])), HMS.out]
                    omega
                | true =>
                  go_wp2_with fail
                  refine (HCL.out wt (He.out.da.2.1.trans (KE3.out))).mono ?_
                  rintro ev wu ⟨rfl, rfl⟩
                  go_wp2_with fail
                  refine (HCM.out wt (KE3.out) yk).mono ?_
                  rintro ev wv ⟨rfl, kv⟩
                  have KV := Lib.hid ((K3.out).trans kv)
                  have KEV := Lib.hid ((KE3.out).trans kv)
                  have dyv := kv.cell_of dy (by simp)
                  have ldv := World.block_lt_of_cell? _ _ dyv
                  clear kv dy ldy yk lyk y4 ly4 y2 ly2 q
                  have yk : wv.cell? ⟨bk, 0, none⟩ = some (.int .i64 (k : Int)) := (HBK.out.keep KV.out (by simp)).cell 0
                  have lyk : bk < wv.heap.size := (HBK.out.keep KV.out (by simp)).lt
                  have y4 : wv.cell? ⟨x4, 0, none⟩ = some (.map (some bm)) := (He.out.b4.keep KEV.out (by simp)).cell 0
                  have ly4 : x4 < wv.heap.size := (He.out.b4.keep KEV.out (by simp)).lt
                  have y2 : wv.cell? ⟨x2, 0, none⟩ = some (.func (.func 8) #[] #[]) := (He.out.b2.keep KEV.out (by simp)).cell 0
                  have ly2 : x2 < wv.heap.size := (He.out.b2.keep KEV.out (by simp)).lt
                  have q := HLK.out wv (KEV.out).of_nil
                  cases c2b with
                  | true =>
                    go_wp2
                    go_roundw
                    case rel => exact ⟨k + 1, wv.heap.size, by omega, rfl, (KEV.out).size, Lib.hid ((Blk.new wv 3 #[.int .i64 ((k : Int) + 1)]).congr (by rw [HKC.out])), Lib.hid (((KEV.out)).alloc _)⟩
                    case measure =>
                      rw [boxLeft_of ((Blk.new wv 3 #[.int .i64 ((k : Int) + 1)]).congr (by rw [HKC.out])), HMS.out]
                      omega
                  | false =>
                    have hty : zeros = y := HF2.out hN1 rfl
                    have hne2 : (bs zeros != bs y) = false := by rw [hty, bne, bs_beqs, decide_eq_true rfl]; rfl
                    have hne4 : (zeros == y) = true := by rw [hty]; exact beq_self_eq_true _
                    go_wp2
                    go_roundw
                    case rel => exact ⟨k + 1, wv.heap.size, by omega, rfl, (KEV.out).size, Lib.hid ((Blk.new wv 3 #[.int .i64 ((k : Int) + 1)]).congr (by rw [HKC.out])), Lib.hid (((KEV.out)).alloc _)⟩
                    case measure =>
                      rw [boxLeft_of ((Blk.new wv 3 #[.int .i64 ((k : Int) + 1)]).congr (by rw [HKC.out])), HMS.out]
                      omega
              · have e1 : ((N : Int) == 1) = false := by rw [beq_eq_false_iff_ne]; omega
                go_wp2
                go_roundw
                case rel => exact ⟨k + 1, w3.heap.size, by omega, rfl, (KE3.out).size, Lib.hid ((Blk.new w3 3 #[.int .i64 ((k : Int) + 1)]).congr (by rw [HKC.out])), Lib.hid (((KE3.out)).alloc _)⟩
                case measure =>
                  rw [boxLeft_of ((Blk.new w3 3 #[.int .i64 ((k : Int) + 1)]).congr (by rw [HKC.out])), HMS.out]
                  omega
        · obtain rfl : k = 16 := by omega
          have yk : wr.cell? ⟨bk, 0, none⟩ = some (.int .i64 ((16 : Nat) : Int)) := HBK.out.cell 0
          have lyk := HBK.out.lt
          go_wp2
          go_ret
          exact ⟨rfl, He.out.da.2.1.trans HKE.out⟩
    · intro x v kl ya yb w1 cnt1 hkey hleft hRv hat hrg1 hlt hg1 hs1 hen
      -- BEGIN rng
      have hkx : (x, kl) = (x, Lit.int .i64 x) := by
        obtain ⟨x', e1, e2, hwf⟩ := keyOf_int_inv Tryd.underlying3 hkey
        injection e1 with _ e1
        subst e1
        rw [e2]
      have hwf : (Lit.int .i64 x).wf = true := by
        obtain ⟨x', e1, e2, hwf⟩ := keyOf_int_inv Tryd.underlying3 hkey
        injection e1 with _ e1
        subst e1
        exact hwf
      have hkl : kl = Lit.int .i64 x := congrArg Prod.snd hkx
      subst hkl
      have hy : ya = .held v := (congrArg Prod.fst (Option.some.inj hRv)).symm
      have hheld : heldV (sureM1 l at_) vs x = some v := by
        cases hh : heldV (sureM1 l at_) vs x with
        | some u =>
          have h1 := (HD2.out x hwf).2 u hh .nil
          rw [hat .nil, hy] at h1
          injection h1 with h1
          rw [h1]
        | none =>
          have h0 : Maps.has D1 (.int .i64 x) = false := by rw [(HD2.out x hwf).1, hh]; rfl
          have h1 := atKey_of_not_has h0 (.nil : DataW Value)
          rw [hat .nil, hy] at h1
          cases h1
      obtain ⟨k, rfl, hk16, s, hms, hvs⟩ : ∃ k : Nat, x = (k : Int) ∧ k < 16 ∧ ∃ s, sureM1 l at_ k = some [s] ∧ vs k = v := by
        unfold heldV at hheld
        split at hheld
        · rename_i hx
          obtain ⟨k, rfl⟩ := Int.eq_ofNat_of_zero_le hx.1
          refine ⟨k, rfl, by omega, ?_⟩
          rw [Int.toNat_natCast] at hheld
          cases hm : sureM1 l at_ k with
          | none => rw [hm] at hheld; cases hheld
          | some ls =>
            rw [hm] at hheld
            have hs1 := hm
            rw [sureM1_at] at hs1
            obtain ⟨s, _, rfl⟩ := Option.map_eq_some_iff.1 hs1
            exact ⟨s, rfl, Option.some.inj hheld⟩
        · cases hheld
      have hrow := HROW.out k [s] hms
      rw [hvs] at hrow
      have hg1' : Keeps [] Wa w1 := keeps_grown HK.out hg1 (fun g e => by injection e with e; rw [← e]; exact HRS.out)
      obtain ⟨gv, cap, rfl, -, -⟩ := hrow.form (by simp)
      have hcell : Wa.cell? ⟨gv, 0, none⟩ = some (.string (bs s)) := by
        have := hrow.cells (g := gv) rfl 0 _ (show (strs [s])[0]? = some (.string (bs s)) from rfl)
        rwa [add_at, Nat.zero_add] at this
      have hat' := sure_at HS.out at_ hk16 hms
      have hrd : (sureD2 l at_).read (k : Int) = (0, s) := by
        unfold Dk.read
        rw [if_neg (by show ¬ (_ ∨ ((puts _ _).length : Int) ≤ _); rw [puts_length, List.length_replicate]; omega), Int.toNat_natCast, hat']
      have HK1 := Lib.hid hg1'
      have HRG1 := Lib.hid hrg1
      have HCELL := Lib.hid hcell
      have HA1 := Lib.hid (Ha.out.quiet hg1')
      have hrl := hrg.left_eq
      clear hg1' hrg1 hcell hat' hheld hy hkx hat hRv hkey hleft hrow hvs hms hg1 hs1 hrg hwf
      have y3 : w1.cell? ⟨x3, 0, none⟩ = some (.pointer (some ⟨g, 0, none⟩)) := HA1.out.b3.cell 0
      have ly3 := HA1.out.b3.lt
      go_wp2_with fail
      refine (read_da HA1.out.da (k : Int) (by simp [sureD2]) 0 s hrd).mono ?_
      rintro ev w2 ⟨rfl, _, k2⟩
      have hself := bs_beqs s s
      rw [decide_eq_true rfl] at hself
      have d1 : w2.cell? ⟨gv, 0, none⟩ = some (.string (bs s)) := (HK1.out.trans k2).cell_of HCELL.out (by simp)
      have hne : (bs s != bs s) = false := by rw [bne, hself]; rfl
      have HRG2 := Lib.hid (ranges_keeps HRG1.out k2)
      have HK2 := Lib.hid (HK1.out.trans k2)
      clear y3 ly3 k2 hself hen HRG1 HK1
      go_wp2
      go_roundw
      case rel => exact ⟨_, _, HRG2, HK2⟩
      case measure => rw [HRG2.out.left_eq, hrl]; exact hlt
      -- END rng
end Go.Proofs.YtelafmakgokhbaaDoor
