/- 'stored': a fact that both store laws open with. -/
import Derived.Test.YtjoolemhcpcnoaaDoorStoreG
namespace Go.Proofs.YtjoolemhcpcnoaaDoor
open Go.RowKit
attribute [local go_sem] bs_size bs_extract bs_append bs_toList errV_0 errV_2 errV_4 errV_14
def hello : Bs := [104, 101, 108, 108, 111]
theorem hello_secs : secs hello.length = 2 := rfl
theorem crash_same {D : Dk} (h : D.wait = []) (ks : List Bool) (k : Nat) : (D.crash ks).at k = D.at k := by
  rw [at_sure rfl, at_sure h]
  have : (D.crash ks).sure = D.sure := by show puts D.sure (kept D.wait ks) = _; rw [h]; rfl
  rw [this]
set_option maxRecDepth 100000 in
set_option maxHeartbeats 2000000 in
theorem stored_any (w : World) (hR : Rnds w) : Calls Tryd.prog 27 #[] w fun e w' => e = .returned (.bool true) ∧ Keeps [] w w' := by
  have hb0 := Bears.new 64
  have ho0 : openP (Dk.new 64) (Dk.new 64).sure.length Sr.new = Sr.new := hb0.stops (fun _ => at_new 64 _)
  obtain hput | hput := hb0.put hello (by decide) (by decide)
  · obtain ⟨p0, ⟨l1, hb1, -⟩, hlen, hS, htail, hat, hfu⟩ := hput
    have hS1 : (putP (Dk.new 64) Sr.new hello).2.2 = kept1 Sr.new hello := hS
    have hm1 : (putP (Dk.new 64) Sr.new hello).2.2.m (shaL hello) = some hello := by
      rw [hS1, kept1_out rfl]
      show (if shaL hello = shaL hello then some hello else _) = _
      rw [if_pos rfl]
    have hk1 : (putP (Dk.new 64) Sr.new hello).2.2.keys = [shaL hello] := by rw [hS1, kept1_out rfl]; rfl
    have hb2 : Bears ((putP (Dk.new 64) Sr.new hello).2.1.crash []) (putP (Dk.new 64) Sr.new hello).2.2 l1 := hb1.crash rfl (by rw [hb1.wait]; simp) []
    have hlen2 : ((putP (Dk.new 64) Sr.new hello).2.1.crash []).sure.length = 64 := by show (puts _ _).length = _; rw [puts_length, hlen]; rfl
    have ho2 := hb2.stops (fun h => by rw [crash_same hb1.wait, htail _ (Nat.le_refl _) (by rw [hlen2] at h; exact h), at_new])
    have hput := fun (W : World) (Ld Lx : List Nat) (gd gx : Nat) (h : SD w W Ld Lx gd gx (Dk.new 64) Sr.new) => h.put hR hello (by decide) (by decide) (by decide) rfl
    have hwl1 := hb1.wait
    rw [p0] at hput
    generalize (putP (Dk.new 64) Sr.new hello).2.1 = D1 at *
    generalize (putP (Dk.new 64) Sr.new hello).2.2 = S1 at *
    have hok2 := hb2.ok
    have HO0 := Lib.hid ho0
    have HO2 := Lib.hid ho2
    have HM1 := Lib.hid hm1
    have HK1 := Lib.hid hk1
    have HPUT := Lib.hid hput
    have HR := Lib.hid hR
    have HB2 := Lib.hid hb2
    have HW1 := Lib.hid hwl1
    clear hb0 ho0 hlen hS hS1 htail hat hfu hm1 hk1 hb2 hlen2 ho2 hput hwl1 p0 hb1 hR hok2
    go_enter Tryd.func27, Tryd.ntmps27
    go_wp2_with fail
    refine (new_da (Keeps.refl [] w) 64 (by omega) (by omega)).mono ?_
    rintro e W1 ⟨rfl, h1, k1⟩
    go_wp2_with fail
    refine (open_sd h1.1 h1.2.1 h1.2.2 HR.out (Bears.new 64).ok rfl).mono ?_
    rintro e W2 ⟨⟨gx, Lx, rfl, h2⟩, k2⟩
    rw [HO0.out] at h2
    have H2 := Lib.hid h2
    clear h1 k1 k2 h2
    go_wp2_with fail
    refine (HPUT.out _ _ _ _ _ H2.out).mono ?_
    rintro e W3 ⟨rfl, ⟨Ld3, Lx3, h3, -, -⟩, -⟩
    have H3 := Lib.hid h3
    clear h3
    have hpk : putK 0 hello = shaL hello := rfl
    rw [hpk]
    have hsum := fun W q => sum_any hello (by decide) W (HR.out.quiet q)
    have HSUM := Lib.hid hsum
    have hbb : (shaL hello == shaL hello) = true := beq_self_eq_true _
    clear hpk hsum
    go_wp2_with (go_at_call 22; refine (HSUM.out _ H3.out.k).mono ?_; rintro e W4 ⟨rfl, k4⟩)
    have H4 := Lib.hid (H3.out.quiet k4)
    clear k4
    have hcr := crash_any D1 H4.out.d (by rw [HW1.out]; exact Nat.zero_le _) none 0 [] Rd.nil (by decide)
    have HCR := Lib.hid hcr
    clear hcr
    refine HCR.out.mono ?_
    rintro e W5 ⟨rfl, d5, k5⟩
    have hk5 : Keeps [] w W5 := H4.out.k.trans' k5 (fun y hy hl => by have := H4.out.dn y hy; omega)
    have D5 := Lib.hid d5
    have HK5 := Lib.hid hk5
    clear d5 k5 hk5
    go_wp2_with fail
    refine (open_sd D5.out HK5.out H4.out.dn HR.out HB2.out.ok rfl).mono ?_
    rintro e W6 ⟨⟨gy, Ly, rfl, h6⟩, -⟩
    rw [HO2.out] at h6
    have H6 := Lib.hid h6
    clear h6
    go_wp2_with fail
    refine (get_any H6.out.x (shaL hello) (by rw [shaL_length]; decide)).mono ?_
    rw [HM1.out]
    rintro e W7 ⟨rfl, rfl⟩
    have hlb : (hello == [104, 101, 108, 108, 111]) = true := rfl
    have hky := keys_any H6.out.x (by rw [HK1.out]; decide)
    rw [HK1.out] at hky
    have HKY := Lib.hid hky
    clear hky
    go_wp2_with fail
    refine HKY.out.mono ?_
    rintro e W8 ⟨A8, c8, rfl, o8, k8⟩
    go_wp2
    go_ret
    exact ⟨rfl, H6.out.k.trans k8⟩
  · exact absurd (show (Dk.new 64).fuse < 0 by decide) hput.2.2.2.2.2
end Go.Proofs.YtjoolemhcpcnoaaDoor
