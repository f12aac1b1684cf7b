/- foremankeep.written: a closed text through Parse and Print. -/
import Derived.Test.YtodjaomghmcoiaaGreatDoorParse
import Derived.Test.YtodjaomghmcoiaaGreatDoorTabLaw
namespace Go.Proofs.YtodjaomghmcoiaaGreatDoor
open Go.RowKit
attribute [local go_sem] bs_size bs_extract bs_append bs_toList
def t0 : Tb := ⟨[⟨[105, 100], 1⟩, ⟨[110, 97, 109, 101], 2⟩], [[⟨1, 1, []⟩, ⟨2, 0, [97, 32, 98]⟩], [⟨1, -2, []⟩, ⟨2, 0, []⟩]]⟩
def s0 : Bs := [105, 100, 58, 105, 110, 116, 32, 110, 97, 109, 101, 58, 116, 101, 120, 116, 10, 49, 32, 39, 97, 32, 98, 39, 10, 45, 50, 32, 39, 39, 10]
theorem t0_right : rightB t0 = true := by decide
theorem t0_print : printL t0 = s0 := by
  have h1 : Lib.decDigits 1 = [49] := Lib.decDigits_one (by decide)
  have h2 : Lib.decDigits 2 = [50] := Lib.decDigits_one (by decide)
  simp [printL, t0, s0, colsT, rowsT, rowT, valueL, Lib.itoa, h1, h2, kindW]
theorem s0_parse : parseL s0 = .ok t0 := by rw [← t0_print]; exact parse_print t0_right
theorem parse_ok {s : Bs} {t : Tb} (h : parseL s = .ok t) (hs : s.length ≤ 1000000) (w : World) (hE : TEnv w) :
    Calls Tryz.prog 8 #[.string (bs s)] w fun e w' => ∃ A B c d, e = .returned (.tuple #[.agg #[.slice A t.cols.length c, .slice B t.rows.length d], .nilIface]) ∧ TabIn w' t A B c d ∧ Keeps [] w w' := by
  have := parse_any s hs w hE
  rw [h] at this
  refine this.mono ?_
  rintro e w' ⟨⟨A, B, c, d, h1, h2⟩, hk⟩
  exact ⟨A, B, c, d, h1, h2, hk⟩
theorem parse_bad {s : Bs} {x : Int} {p : Nat} (h : parseL s = .bad x p) (hs : s.length ≤ 1000000) (w : World) (hE : TEnv w) :
    Calls Tryz.prog 8 #[.string (bs s)] w fun e w' => ∃ g, e = .returned (.tuple #[.agg #[.slice none 0 0, .slice none 0 0], .iface 71 (.pointer (some ⟨g, 0, none⟩))]) ∧ Blk w' g 72 #[.int .i64 x, .int .i64 p] ∧ Keeps [] w w' := by
  have := parse_any s hs w hE
  rw [h] at this
  refine this.mono ?_
  rintro e w' ⟨⟨g, h1, h2⟩, hk⟩
  exact ⟨g, h1, h2, hk⟩
set_option maxHeartbeats 2000000 in
theorem written_any (w : World) (hE : TEnv w) :
    Calls Tryz.prog 7 #[] w fun e w' => e = .returned (.bool true) ∧ Keeps [] w w' := by
  have HP : Hid (Calls Tryz.prog 8 #[.string (bs s0)] w fun e w' => ∃ A B c d, e = .returned (.tuple #[.agg #[.slice A 2 c, .slice B 2 d], .nilIface]) ∧ TabIn w' t0 A B c d ∧ Keeps [] w w') := Lib.hid (parse_ok s0_parse (by decide) w hE)
  have HE := Lib.hid hE
  clear hE
  go_enter Tryz.func7, Tryz.ntmps7
  go_wp2_with fail
  refine HP.out.mono ?_
  rintro e w2 ⟨A, B, c, d, rfl, hT, hk⟩
  obtain ⟨us, hul, hu1, hu2⟩ := hT.rows
  obtain ⟨b, o, rfl, _, hb, hc⟩ := hu1.open' (by decide) (by decide)
  have hul2 : us.length = 2 := hul
  have d1 := hc 0 _ (List.getElem?_eq_getElem (by omega))
  obtain ⟨Ar, cr, hue, hcr, hRr⟩ := hu2 0 (by omega) (by decide)
  rw [hue] at d1
  obtain ⟨br, or, rfl, _, hbr, hcr2⟩ := hRr.open' (by decide) (by decide)
  have d2 := hcr2 (1 * 3 + 2) _ (vsCells_at _ 1 (by decide)).2.2
  have d1' : w2.cell? ⟨b, o, none⟩ = some (.slice (some ⟨br, or, none⟩) 2 cr) := d1
  have d2' : w2.cell? ⟨br, or + 1 * 3 + 2, none⟩ = some (.string ⟨#[97, 32, 98]⟩) := d2
  have HT := Lib.hid hT
  have HK := Lib.hid hk
  have HPR : Hid (∀ W, Keeps [] w2 W → Calls Tryz.prog 9 #[.agg #[.slice A 2 c, .slice (some ⟨b, o, none⟩) 2 d]] W fun e w' => e = .returned (.tuple #[.string (bs (printL t0)), .nilIface]) ∧ Keeps [] W w') := Lib.hid (fun W (q : Keeps [] w2 W) => print_yes t0 A (some ⟨b, o, none⟩) c d W (hT.quiet q) (HE.out.quiet (hk.trans q)) t0_right)
  rw [t0_print] at HPR
  clear hT hk hu1 hu2 hue hcr hRr hcr2 hc d1 d2
  go_wp2_with fail
  refine (HPR.out _ ((Keeps.refl _ _).alloc _)).mono ?_
  rintro e w3 ⟨rfl, hk3⟩
  have HK3 := Lib.hid (((HK.out).alloc _).trans hk3)
  clear hk3
  have e1 : (bs s0).toList = s0 := bs_toList s0
  go_wp2
  go_ret
  exact ⟨by first | rfl | (congr), HK3.out⟩
end Go.Proofs.YtodjaomghmcoiaaGreatDoor
