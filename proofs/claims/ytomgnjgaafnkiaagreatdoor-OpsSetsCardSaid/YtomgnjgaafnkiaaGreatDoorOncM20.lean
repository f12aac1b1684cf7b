/- ops: grouped, where one column is told twice. foremankeep.done: closed jobs through Do. one, at tables whose array has just been made. -/
import Derived.Test.YtomgnjgaafnkiaaGreatDoorOncM7
import Derived.Test.YtomgnjgaafnkiaaGreatDoorOncM14
import Derived.Test.YtomgnjgaafnkiaaGreatDoorOncM19
import Derived.Test.YtomgnjgaafnkiaaGreatDoorOncM8
namespace Go.Proofs.YtomgnjgaafnkiaaGreatDoor
open Go.RowKit Go.BigFrame
attribute [local go_sem] bs_size bs_extract bs_append bs_toList
attribute [local go_sem] KW.cell
set_option maxHeartbeats 8000000 in
theorem grouped_twice (j : Jb) (a : List Cl) (n1 n2 : Bs) (k : Nat) (Ao : Option Addr) (co : Nat) (Ai : Option Addr) (ni ci : Nat) (Ac : Option Addr) (cc : Nat) (A : Option Addr) (c : Nat) (w : World) (hJ : JobIn w j Ao co Ac cc) (hA : Rd w [] 2 A a.length (csCells a)) (hl : a.length ≤ 4294967296)
    (hcols : j.cols = [n1, n2]) (hop : j.op = [115, 117, 109]) (h1 : colIx a n1 = some k) (h2 : colIx a n2 = some k) (hk : (a.getD k zC).kind = 1) :
    Calls Tryz.prog 68 #[jAgg j Ao co Ai ni ci Ac cc, .slice A a.length c] w fun e w' => ColsOut (.error 9) e w' ∧ Keeps [] w w' := by
  have HF0 := Lib.hid (fun (nm : Bs) W (q : Keeps [] w W) => find_any a nm A c W (hA.keep q) hl)
  have hkl : k < a.length := (List.findIdx?_eq_some_iff_getElem.1 h1).1
  have hgd : a.getD k zC = a[k] := by rw [List.getD_eq_getElem?_getD, List.getElem?_eq_getElem hkl]; rfl
  obtain ⟨b4, o4, hAe, _, hb4, hcs⟩ := hA.open' (by omega) (by omega)
  subst hAe
  have d1 := hcs (k * 2 + 1) _ (csCells_at a k hkl).2
  rw [← Nat.add_assoc, ← hgd, hk] at d1
  have HJ := hJ.cols
  obtain ⟨at_, code, outs, ins, cols, op, ⟨lc, lk, ln, lw⟩, ⟨rc, rk, rn, rw'⟩, retry⟩ := j
  simp only at hcols hop HJ
  subst hcols hop
  obtain ⟨b, o, rfl, _, hb, hcs2⟩ := HJ.open' (by simp) (by decide)
  have s0 : w.cell? ⟨b, o, none⟩ = some (.string (bs n1)) := hcs2 0 _ rfl
  have s1 : w.cell? ⟨b, o + 1, none⟩ = some (.string (bs n2)) := hcs2 1 _ rfl
  have HF1 := HF0.out n1
  have HF2 := HF0.out n2
  rw [h1] at HF1
  rw [h2] at HF2
  have hi0 : ((k : Int) < 0) = False := eq_false (by omega)
  have hi1 : (0 : Int) ≤ (k : Int) := by omega
  have hi2 : (k : Int) < (a.length : Int) := by omega
  have HD1 := Lib.hid d1
  have HS0 := Lib.hid s0
  have HS1 := Lib.hid s1
  clear hcs hcs2 d1 hgd hk hA hJ HJ h1 h2 HF0 s0 s1
  show Calls _ _ #[.agg #[.int .i64 at_, .int .i64 code, .slice Ao outs.length co, .slice Ai ni ci, .slice (some ⟨b, o, none⟩) 2 cc, .string ⟨#[115, 117, 109]⟩, .string (bs lc), .int .i64 lk, .int .i64 ln, .string (bs lw), .string (bs rc), .int .i64 rk, .int .i64 rn, .string (bs rw'), .int .i64 retry], .slice (some ⟨b4, o4, none⟩) a.length c] w _
  obtain ⟨w2, hw2⟩ : ∃ w2, w.alloc (.cells #[.int .i64 at_, .int .i64 code, .slice Ao outs.length co, .slice Ai ni ci, .slice (some ⟨b, o, none⟩) 2 cc, .string ⟨#[115, 117, 109]⟩, .string (bs lc), .int .i64 lk, .int .i64 ln, .string (bs lw), .string (bs rc), .int .i64 rk, .int .i64 rn, .string (bs rw'), .int .i64 retry] 36) = w2 := ⟨_, rfl⟩
  have HK0 : Hid (Keeps [] w w2) := Lib.hid (by rw [← hw2]; exact (Keeps.refl _ _).alloc _)
  have HBX : Hid (Blk w2 w.heap.size 36 #[.int .i64 at_, .int .i64 code, .slice Ao outs.length co, .slice Ai ni ci, .slice (some ⟨b, o, none⟩) 2 cc, .string ⟨#[115, 117, 109]⟩, .string (bs lc), .int .i64 lk, .int .i64 ln, .string (bs lw), .string (bs rc), .int .i64 rk, .int .i64 rn, .string (bs rw'), .int .i64 retry]) := Lib.hid (by rw [← hw2]; exact Blk.new _ _ _)
  have HW := Lib.hid hw2
  have HF1' : Hid (∀ W, Keeps [] w2 W → Calls Tryz.prog 72 #[.slice (some ⟨b4, o4, none⟩) a.length c, .string (bs n1)] W fun e W' => e = .returned (.int .i64 (k : Int)) ∧ Keeps [] W W') := Lib.hid fun W q => HF1 W (HK0.out.trans q)
  have HF2' : Hid (∀ W, Keeps [] w2 W → Calls Tryz.prog 72 #[.slice (some ⟨b4, o4, none⟩) a.length c, .string (bs n2)] W fun e W' => e = .returned (.int .i64 (k : Int)) ∧ Keeps [] W W') := Lib.hid fun W q => HF2 W (HK0.out.trans q)
  clear HF1 HF2 hw2
  go_enter Tryz.func68, Tryz.ntmps68
  go_wp2_with fail
  rw [HW.out]
  have y4 : w2.cell? ⟨w.heap.size, 4, none⟩ = some (.slice (some ⟨b, o, none⟩) 2 cc) := HBX.out.cell 4
  have s0 := HK0.out.cell_of HS0.out (by simp)
  have s1 := HK0.out.cell_of HS1.out (by simp)
  have hz1 : w.heap.size < w2.heap.size := HBX.out.lt
  have hz2 : b < w2.heap.size := World.block_lt_of_cell? _ _ s0
  generalize w.heap.size = bx at *
  refine wp_region_keeps (by kernel_rfl) (by kernel_rfl) ?_
  repeat (go_big_quiet_step (first | with_reducible exact KW.of HF1'.out _ | with_reducible exact KW.of HF2'.out _))
  refine wpQuiet_nil ?_
  intro w3 hk3
  have HK3 := Lib.hid (HK0.out.trans hk3)
  have x1 := HK3.out.cell_of HD1.out (by simp)
  clear hk3 y4 s0 s1
  go_wp2
  go_ret2
  exact ⟨rfl, HK3.out⟩
end Go.Proofs.YtomgnjgaafnkiaaGreatDoor
namespace Go.Proofs.YtomgnjgaafnkiaaGreatDoor
open Go.RowKit
attribute [local go_sem] bs_size bs_extract bs_append bs_toList
def t1 : Tb := ⟨[⟨[105, 100], 1⟩, ⟨[110, 97, 109, 101], 2⟩], [[⟨1, 2, []⟩, ⟨2, 0, [98]⟩], [⟨1, 1, []⟩, ⟨2, 0, [97]⟩], [⟨1, 2, []⟩, ⟨2, 0, [99]⟩]]⟩
def t2 : Tb := ⟨[⟨[105, 100], 1⟩, ⟨[110, 97, 109, 101], 2⟩], [[⟨1, 2, []⟩, ⟨2, 0, [98]⟩], [⟨1, 2, []⟩, ⟨2, 0, [99]⟩]]⟩
def s1 : Bs := [105, 100, 58, 105, 110, 116, 32, 110, 97, 109, 101, 58, 116, 101, 120, 116, 10, 50, 32, 39, 98, 39, 10, 49, 32, 39, 97, 39, 10, 50, 32, 39, 99, 39, 10]
def s2 : Bs := [105, 100, 58, 105, 110, 116, 32, 110, 97, 109, 101, 58, 116, 101, 120, 116, 10, 50, 32, 39, 98, 39, 10, 50, 32, 39, 99, 39, 10]
def jG : Jb := ⟨0, 8, [[120]], [], [[105, 100], [105, 100]], [115, 117, 109], ⟨[], zV⟩, ⟨[], zV⟩, 0⟩
def jF : Jb := ⟨0, 1, [[120]], [], [], [62], ⟨[105, 100], zV⟩, ⟨[], ⟨1, 1, []⟩⟩, 0⟩
theorem t1_right : rightB t1 = true := by decide
theorem t2_right : rightB t2 = true := by decide
theorem t1_print : printL t1 = s1 := by
  have h1 : Lib.decDigits 1 = [49] := Lib.decDigits_one (by decide)
  have h2 : Lib.decDigits 2 = [50] := Lib.decDigits_one (by decide)
  simp [printL, t1, s1, colsT, rowsT, rowT, valueL, Lib.itoa, h1, h2, kindW]
theorem t2_print : printL t2 = s2 := by
  have h2 : Lib.decDigits 2 = [50] := Lib.decDigits_one (by decide)
  simp [printL, t2, s2, colsT, rowsT, rowT, valueL, Lib.itoa, h2, kindW]
theorem s1_parse : parseL s1 = .ok t1 := by rw [← t1_print]; exact parse_print t1_right
theorem jG_cols : colsJ jG [t1.cols] = .error 9 := by rfl
theorem jG_do : doJ jG [t1] = .error 9 := by rfl
theorem jF_do : doJ jF [t1] = .ok [t2] := by rfl
/-- Values in a block of their own. -/
theorem rd_blk {W : World} {b : Nat} {ty : TypeId} {cs : Array Value} (h : Blk W b ty cs) (l : List Value) (hl : cs = l.toArray) : Rd W [] 1 (some ⟨b, 0, none⟩) l.length l := by
  subst hl
  refine ⟨by omega, fun _ => ⟨_, rfl, by simp, h.lt, fun j u hu => ?_⟩⟩
  rw [add_at, Nat.zero_add, h.cell j]
  simpa using hu
theorem rdTbs_blk {W : World} {b : Nat} {ty : TypeId} {t : Tb} {A B : Option Addr} {c d : Nat} (h : Blk W b ty #[.slice A t.cols.length c, .slice B t.rows.length d]) (hT : TabIn W t A B c d) : RdTbs W (some ⟨b, 0, none⟩) [t] := by
  refine ⟨[(.slice A t.cols.length c, .slice B t.rows.length d)], rfl, ⟨rfl, fun _ => ⟨_, rfl, by simp, h.lt, fun j u hu => ?_⟩⟩, fun i hi h' => ?_⟩
  · rw [add_at, Nat.zero_add, h.cell j]
    simpa [flat2] using hu
  · have hi : i = 0 := by simp at hi; omega
    subst hi
    exact ⟨⟨A, c, rfl, hT.cc, hT.cols⟩, ⟨B, d, rfl, hT.cd, hT.rows⟩⟩
theorem TabIn.tbB {w : World} {t : Tb} {A B : Option Addr} {c d : Nat} (hT : TabIn w t A B c d) : TbB t := ⟨hT.names, hT.ln, hT.lm, hT.lr⟩
theorem do_G (W : World) (Ao Ac AT : Option Addr) (ct : Nat) (hE : OEnv W) (ho : Rd W [] 1 Ao 1 (strs [[120]])) (hc : Rd W [] 1 Ac 2 (strs [[105, 100], [105, 100]])) (hI : RdTbs W AT [t1]) (hB : TbB t1) :
    Calls Tryz.prog 18 #[jAgg jG Ao 1 none 0 0 Ac 2, .slice AT 1 ct] W fun e w' => e = .returned (.tuple #[.slice none 0 0, .iface 74 (.int .i64 9)]) ∧ Keeps [] W w' := by
  have hJ : JobIn W jG Ao 1 Ac 2 := ⟨ho, Nat.le_refl _, hc, Nat.le_refl _, by decide, by decide⟩
  have h := do_any jG Ao 1 none 0 0 Ac 2 [t1] AT ct W hI (fun t ht => by rw [List.mem_singleton] at ht; rw [ht]; exact hB) (by decide) (fun V q AH ch hH => cols_any jG Ao 1 none 0 0 Ac 2 [t1.cols] AH ch V (hE.quiet q) (hJ.quiet q) hH (fun l hl => by rw [List.mem_singleton] at hl; rw [hl]; decide) (by decide) (fun _ A d U hd hA hk => by
    have hg := grouped_twice jG t1.cols [105, 100] [105, 100] 0 Ao 1 none 0 0 Ac 2 A d U ((hJ.quiet q).quiet hk) (hA.keep hk) (by decide) rfl rfl rfl rfl rfl
    exact hg)) (fun out _ hco => by rw [show ([t1].map (·.cols)) = [t1.cols] from rfl, jG_cols] at hco; cases hco)
  rw [jG_do] at h
  exact h
theorem do_F (W : World) (Ao AT : Option Addr) (ct : Nat) (hE : OEnv W) (ho : Rd W [] 1 Ao 1 (strs [[120]])) (hI : RdTbs W AT [t1]) (hB : TbB t1) :
    Calls Tryz.prog 18 #[jAgg jF Ao 1 none 0 0 none 0, .slice AT 1 ct] W fun e w' => (∃ B d, e = .returned (.tuple #[.slice B 1 d, .nilIface]) ∧ 1 ≤ d ∧ RdTbs w' B [t2]) ∧ Keeps [] W w' := by
  have hJ : JobIn W jF Ao 1 none 0 := ⟨ho, Nat.le_refl _, Rd.nil, Nat.le_refl _, by decide, by decide⟩
  have h := do_cmp jF (.inl rfl) Ao 1 none 0 0 none 0 [t1] AT ct W hE hJ hI (fun t ht => by rw [List.mem_singleton] at ht; rw [ht]; exact hB) (by decide)
  rw [jF_do] at h
  exact h
theorem t2_B : TbB t2 := ⟨by decide, by decide, by decide, by decide⟩
set_option maxHeartbeats 4000000 in
theorem done_any (w : World) (hE : OEnv w) :
    Calls Tryz.prog 10 #[] w fun e w' => e = .returned (.bool true) ∧ Keeps [] w w' := by
  have HP : Hid (Calls Tryz.prog 40 #[.string (bs s1)] w fun e w' => ∃ A B c d, e = .returned (.tuple #[.agg #[.slice A 2 c, .slice B 3 d], .nilIface]) ∧ TabIn w' t1 A B c d ∧ Keeps [] w w') := Lib.hid (parse_ok s1_parse (by decide) w hE.t)
  have HE := Lib.hid hE
  clear hE
  go_enter Tryz.func10, Tryz.ntmps10
  go_wp2_with fail
  refine HP.out.mono ?_
  rintro e w2 ⟨A, B, c, d, rfl, hT, hk⟩
  have HT := Lib.hid hT
  have HK := Lib.hid hk
  clear hT hk HP
  go_wp2_with fail
  have HK4 : Hid (Keeps [] w2 ((((w2.alloc (.cells #[.slice A 2 c, .slice B 3 d] 25)).alloc (.cells #[.string ⟨#[120]⟩] 9)).alloc (.cells #[.string ⟨#[105, 100]⟩, .string ⟨#[105, 100]⟩] 9)).alloc (.cells #[.slice A 2 c, .slice B 3 d] 25))) := Lib.hid ((((Keeps.refl _ _).alloc _).alloc _).alloc _ |>.alloc _)
  have HB0 := Lib.hid ((((Blk.new w2 25 #[.slice A 2 c, .slice B 3 d]).alloc (.cells #[.string ⟨#[120]⟩] 9)).alloc (.cells #[.string ⟨#[105, 100]⟩, .string ⟨#[105, 100]⟩] 9)).alloc (.cells #[.slice A 2 c, .slice B 3 d] 25))
  have HB1 := Lib.hid (((Blk.new (w2.alloc (.cells #[.slice A 2 c, .slice B 3 d] 25)) 9 #[.string ⟨#[120]⟩]).alloc (.cells #[.string ⟨#[105, 100]⟩, .string ⟨#[105, 100]⟩] 9)).alloc (.cells #[.slice A 2 c, .slice B 3 d] 25))
  have HB2 := Lib.hid ((Blk.new ((w2.alloc (.cells #[.slice A 2 c, .slice B 3 d] 25)).alloc (.cells #[.string ⟨#[120]⟩] 9)) 9 #[.string ⟨#[105, 100]⟩, .string ⟨#[105, 100]⟩]).alloc (.cells #[.slice A 2 c, .slice B 3 d] 25))
  have HB3 := Lib.hid (Blk.new (((w2.alloc (.cells #[.slice A 2 c, .slice B 3 d] 25)).alloc (.cells #[.string ⟨#[120]⟩] 9)).alloc (.cells #[.string ⟨#[105, 100]⟩, .string ⟨#[105, 100]⟩] 9)) 25 #[.slice A 2 c, .slice B 3 d])
  simp only [size_alloc] at HB1 HB2 HB3
  obtain ⟨w3, hw3⟩ : ∃ w3, ((((w2.alloc (.cells #[.slice A 2 c, .slice B 3 d] 25)).alloc (.cells #[.string ⟨#[120]⟩] 9)).alloc (.cells #[.string ⟨#[105, 100]⟩, .string ⟨#[105, 100]⟩] 9)).alloc (.cells #[.slice A 2 c, .slice B 3 d] 25)) = w3 := ⟨_, rfl⟩
  rw [hw3] at HK4 HB0 HB1 HB2 HB3 ⊢
  obtain ⟨bt, hbt⟩ : ∃ bt, w2.heap.size = bt := ⟨_, rfl⟩
  rw [hbt] at HB0 HB1 HB2 HB3 ⊢
  have HG : Hid (Calls Tryz.prog 18 #[.agg #[.int .i64 0, .int .i64 8, .slice (some ⟨bt + 1, 0, none⟩) 1 1, .slice none 0 0, .slice (some ⟨bt + 1 + 1, 0, none⟩) 2 2, .string ⟨#[115, 117, 109]⟩, .string ⟨#[]⟩, .int .i64 0, .int .i64 0, .string ⟨#[]⟩, .string ⟨#[]⟩, .int .i64 0, .int .i64 0, .string ⟨#[]⟩, .int .i64 0], .slice (some ⟨bt + 1 + 1 + 1, 0, none⟩) 1 1] w3 fun e w' => e = .returned (.tuple #[.slice none 0 0, .iface 74 (.int .i64 9)]) ∧ Keeps [] w3 w') := Lib.hid (do_G w3 (some ⟨bt + 1, 0, none⟩) (some ⟨bt + 1 + 1, 0, none⟩) (some ⟨bt + 1 + 1 + 1, 0, none⟩) 1 (HE.out.quiet (HK.out.trans HK4.out)) (rd_blk HB1.out _ rfl) (rd_blk HB2.out _ rfl) (rdTbs_blk HB3.out (HT.out.quiet HK4.out)) HT.out.tbB)
  clear hw3 hbt HB1 HB2 HB3
  with_reducible refine HG.out.mono ?_
  rintro e w4 ⟨rfl, hk4⟩
  have HK5 := Lib.hid (HK4.out.trans hk4)
  have HB5 := Lib.hid (HB0.out.keep hk4 (by simp))
  have c0 : w4.cell? ⟨bt, 0, none⟩ = some (.slice A 2 c) := HB5.out.cell 0
  have c1 : w4.cell? ⟨bt, 1, none⟩ = some (.slice B 3 d) := HB5.out.cell 1
  have hlt : bt < w4.heap.size := HB5.out.lt
  clear hk4 HB0 HG HK4
  go_wp2_with fail
  have HK6 : Hid (Keeps [] w4 ((w4.alloc (.cells #[.string ⟨#[120]⟩] 9)).alloc (.cells #[.slice A 2 c, .slice B 3 d] 25))) := Lib.hid (((Keeps.refl _ _).alloc _).alloc _)
  have HB1 := Lib.hid ((Blk.new w4 9 #[.string ⟨#[120]⟩]).alloc (.cells #[.slice A 2 c, .slice B 3 d] 25))
  have HB3 := Lib.hid (Blk.new (w4.alloc (.cells #[.string ⟨#[120]⟩] 9)) 25 #[.slice A 2 c, .slice B 3 d])
  simp only [size_alloc] at HB3
  obtain ⟨w5, hw5⟩ : ∃ w5, ((w4.alloc (.cells #[.string ⟨#[120]⟩] 9)).alloc (.cells #[.slice A 2 c, .slice B 3 d] 25)) = w5 := ⟨_, rfl⟩
  rw [hw5] at HK6 HB1 HB3 ⊢
  have HKA := Lib.hid (HK5.out.trans HK6.out)
  have HF : Hid (Calls Tryz.prog 18 #[.agg #[.int .i64 0, .int .i64 1, .slice (some ⟨w4.heap.size, 0, none⟩) 1 1, .slice none 0 0, .slice none 0 0, .string ⟨#[62]⟩, .string ⟨#[105, 100]⟩, .int .i64 0, .int .i64 0, .string ⟨#[]⟩, .string ⟨#[]⟩, .int .i64 1, .int .i64 1, .string ⟨#[]⟩, .int .i64 0], .slice (some ⟨w4.heap.size + 1, 0, none⟩) 1 1] w5 fun e w' => (∃ B d, e = .returned (.tuple #[.slice B 1 d, .nilIface]) ∧ 1 ≤ d ∧ RdTbs w' B [t2]) ∧ Keeps [] w5 w') := Lib.hid (do_F w5 (some ⟨w4.heap.size, 0, none⟩) (some ⟨w4.heap.size + 1, 0, none⟩) 1 (HE.out.quiet (HK.out.trans HKA.out)) (rd_blk HB1.out _ rfl) (rdTbs_blk HB3.out (HT.out.quiet HKA.out)) HT.out.tbB)
  clear hw5 HB1 HB3 c0 c1 hlt
  with_reducible refine HF.out.mono ?_
  rintro e w6 ⟨⟨B6, d6, rfl, hd6, hr6⟩, hk6⟩
  obtain ⟨b, o, A1, c1, A2, c2, rfl, e0, e1, hT6⟩ := hr6.first (k := 0) (by simp) rfl t2_B
  rw [Nat.zero_mul, Nat.add_zero] at e0 e1
  have e0' : w6.cell? ⟨b, o, none⟩ = some (.slice A1 2 c1) := e0
  have e1' : w6.cell? ⟨b, o + 1, none⟩ = some (.slice A2 2 c2) := e1
  have HK7 := Lib.hid ((HK.out.trans HKA.out).trans hk6)
  have HPR : Hid (∀ W, Keeps [] w6 W → Calls Tryz.prog 41 #[.agg #[.slice A1 2 c1, .slice A2 2 c2]] W fun e w' => e = .returned (.tuple #[.string (bs (printL t2)), .nilIface]) ∧ Keeps [] W w') := Lib.hid (fun W (q : Keeps [] w6 W) => print_yes t2 A1 A2 c1 c2 W (hT6.quiet q) ((HE.out.quiet HK7.out).quiet q).t t2_right)
  rw [t2_print] at HPR
  clear hd6 hr6 hk6 hT6 e0 e1
  go_wp2_with fail
  refine (HPR.out _ (Keeps.refl _ _)).mono ?_
  rintro e w7 ⟨rfl, hk7⟩
  go_wp2
  go_ret
  exact ⟨rfl, HK7.out.trans hk7⟩
end Go.Proofs.YtomgnjgaafnkiaaGreatDoor
namespace Go.Proofs.YtomgnjgaafnkiaaGreatDoor
open Go.RowKit
attribute [local go_sem] bs_size bs_extract bs_append bs_toList
theorem TabIn.of_is {w : World} {t : Tb} {A B : Option Addr} {c d : Nat} (h : TbIs w (.slice A t.cols.length c, .slice B t.rows.length d) t) (hb : TbB t) : TabIn w t A B c d := by
  obtain ⟨⟨A1, c1, e1, h1, h2⟩, ⟨B1, d1, e2, h3, h4⟩⟩ := h
  injection e1 with e1 _ e1c
  injection e2 with e2 _ e2c
  subst e1 e2 e1c e2c
  exact ⟨h2, h1, h4, h3, hb.names, hb.ln, hb.lm, hb.lr⟩
theorem TabIn.rd {w : World} {t : Tb} {A B : Option Addr} {c d : Nat} (h : TabIn w t A B c d) : TabRd w t A B := ⟨h.cols, h.rows, h.ln, h.lm, h.lr⟩
theorem TbB.of_right' {t : Tb} (h : rightB t = true) : TbB t := by
  obtain ⟨h1, h2, h3, _⟩ := rightB_of h
  refine ⟨fun x hx => ?_, by omega, by omega, fun r hr => by rw [row_len h r hr]; omega⟩
  obtain ⟨k, hk, rfl⟩ := List.getElem_of_mem hx
  have := nameB_len (okCol_of h1 hk).1
  omega
/-- one, at a job and tables of which it makes a table that may be. -/
theorem one_some {j : Jb} {ins : List Tb} {u : Tb} (hcode : j.code = 1 ∨ j.code = 2 ∨ j.code = 3 ∨ j.code = 5 ∨ j.code = 6) (hu : oneJ j ins = some u) (Ao : Option Addr) (co : Nat) (Ai : Option Addr) (ni ci : Nat) (Ac : Option Addr) (cc : Nat) (AT : Option Addr) (ct : Nat) (w : World) (hE : OEnv w) (hA : Rd w [] 1 Ac j.cols.length (strs j.cols)) (hcc : j.cols.length ≤ cc) (hlc : j.cols.length ≤ 4294967296) (hI : RdTbs w AT ins) (hB : ∀ t ∈ ins, TbB t) (hl : ins.length ≤ 4294967296) :
    Calls Tryz.prog 11 #[jAgg j Ao co Ai ni ci Ac cc, .slice AT ins.length ct] w fun e w' => (∃ A1 c1 A2 c2, e = .returned (.tuple #[.agg #[.slice A1 u.cols.length c1, .slice A2 u.rows.length c2], .bool true]) ∧ TabIn w' u A1 A2 c1 c2) ∧ Keeps [] w w' := by
  have h := one_all j hcode Ao co Ai ni ci Ac cc ins AT ct w hE hA hcc hlc hI hB hl
  rw [hu] at h
  refine h.mono ?_
  rintro e w' ⟨⟨A1, c1, A2, c2, he, ht⟩, hk⟩
  exact ⟨⟨A1, c1, A2, c2, he, .of_is ht (TbB.of_right' (one_right hcode hu))⟩, hk⟩
theorem one_noth {j : Jb} {ins : List Tb} (hcode : j.code = 1 ∨ j.code = 2 ∨ j.code = 3 ∨ j.code = 5 ∨ j.code = 6) (hu : oneJ j ins = none) (Ao : Option Addr) (co : Nat) (Ai : Option Addr) (ni ci : Nat) (Ac : Option Addr) (cc : Nat) (AT : Option Addr) (ct : Nat) (w : World) (hE : OEnv w) (hA : Rd w [] 1 Ac j.cols.length (strs j.cols)) (hcc : j.cols.length ≤ cc) (hlc : j.cols.length ≤ 4294967296) (hI : RdTbs w AT ins) (hB : ∀ t ∈ ins, TbB t) (hl : ins.length ≤ 4294967296) :
    Calls Tryz.prog 11 #[jAgg j Ao co Ai ni ci Ac cc, .slice AT ins.length ct] w fun e w' => e = .returned (.tuple #[.agg #[.slice none 0 0, .slice none 0 0], .bool false]) ∧ Keeps [] w w' := by
  have h := one_all j hcode Ao co Ai ni ci Ac cc ins AT ct w hE hA hcc hlc hI hB hl
  rw [hu] at h
  exact h
theorem rdTbs_blk2 {W : World} {b : Nat} {ty : TypeId} {t u : Tb} {A B A' B' : Option Addr} {c d c' d' : Nat} (h : Blk W b ty #[.slice A t.cols.length c, .slice B t.rows.length d, .slice A' u.cols.length c', .slice B' u.rows.length d']) (hT : TabIn W t A B c d) (hU : TabIn W u A' B' c' d') : RdTbs W (some ⟨b, 0, none⟩) [t, u] := by
  refine ⟨[(.slice A t.cols.length c, .slice B t.rows.length d), (.slice A' u.cols.length c', .slice B' u.rows.length d')], rfl, ⟨rfl, fun _ => ⟨_, rfl, by simp, h.lt, fun j x hx => ?_⟩⟩, fun i hi h' => ?_⟩
  · rw [add_at, Nat.zero_add, h.cell j]
    simpa [flat2] using hx
  · match i, hi with
    | 0, _ => exact ⟨⟨A, c, rfl, hT.cc, hT.cols⟩, ⟨B, d, rfl, hT.cd, hT.rows⟩⟩
    | 1, _ => exact ⟨⟨A', c', rfl, hU.cc, hU.cols⟩, ⟨B', d', rfl, hU.cd, hU.rows⟩⟩
/-- one of one table, whose array has just been made. -/
theorem oneT {j : Jb} {t u : Tb} (hcode : j.code = 1 ∨ j.code = 2 ∨ j.code = 3 ∨ j.code = 5 ∨ j.code = 6) (hu : oneJ j [t] = some u) (Ac : Option Addr) (cc : Nat) (A B : Option Addr) (c d : Nat) (w : World) (n : Nat) (hn : w.heap.size = n) (hE : OEnv w) (hA : Rd w [] 1 Ac j.cols.length (strs j.cols)) (hcc : j.cols.length ≤ cc) (hlc : j.cols.length ≤ 4294967296) (hT : TabIn w t A B c d) :
    Calls Tryz.prog 11 #[jAgg j none 0 none 0 0 Ac cc, .slice (some ⟨n, 0, none⟩) 1 1] (w.alloc (.cells #[.slice A t.cols.length c, .slice B t.rows.length d] 25)) fun e w' => (∃ A1 c1 A2 c2, e = .returned (.tuple #[.agg #[.slice A1 u.cols.length c1, .slice A2 u.rows.length c2], .bool true]) ∧ TabIn w' u A1 A2 c1 c2) ∧ Keeps [] w w' := by
  subst hn
  have hk : Keeps [] w (w.alloc (.cells #[.slice A t.cols.length c, .slice B t.rows.length d] 25)) := (Keeps.refl _ _).alloc _
  refine (one_some hcode hu none 0 none 0 0 Ac cc _ 1 _ (hE.quiet hk) (hA.keep hk) hcc hlc (rdTbs_blk (Blk.new _ _ _) (hT.quiet hk)) (fun x hx => by rw [List.mem_singleton] at hx; rw [hx]; exact hT.tbB) (by show 1 ≤ _; omega)).mono ?_
  rintro e w' ⟨h, hk2⟩
  exact ⟨h, hk.trans hk2⟩
theorem oneN {j : Jb} {t : Tb} (hcode : j.code = 1 ∨ j.code = 2 ∨ j.code = 3 ∨ j.code = 5 ∨ j.code = 6) (hu : oneJ j [t] = none) (Ac : Option Addr) (cc : Nat) (A B : Option Addr) (c d : Nat) (w : World) (n : Nat) (hn : w.heap.size = n) (hE : OEnv w) (hA : Rd w [] 1 Ac j.cols.length (strs j.cols)) (hcc : j.cols.length ≤ cc) (hlc : j.cols.length ≤ 4294967296) (hT : TabIn w t A B c d) :
    Calls Tryz.prog 11 #[jAgg j none 0 none 0 0 Ac cc, .slice (some ⟨n, 0, none⟩) 1 1] (w.alloc (.cells #[.slice A t.cols.length c, .slice B t.rows.length d] 25)) fun e w' => e = .returned (.tuple #[.agg #[.slice none 0 0, .slice none 0 0], .bool false]) ∧ Keeps [] w w' := by
  subst hn
  have hk : Keeps [] w (w.alloc (.cells #[.slice A t.cols.length c, .slice B t.rows.length d] 25)) := (Keeps.refl _ _).alloc _
  refine (one_noth hcode hu none 0 none 0 0 Ac cc _ 1 _ (hE.quiet hk) (hA.keep hk) hcc hlc (rdTbs_blk (Blk.new _ _ _) (hT.quiet hk)) (fun x hx => by rw [List.mem_singleton] at hx; rw [hx]; exact hT.tbB) (by show 1 ≤ _; omega)).mono ?_
  rintro e w' ⟨h, hk2⟩
  exact ⟨h, hk.trans hk2⟩
theorem oneT2 {j : Jb} {t s u : Tb} (hcode : j.code = 1 ∨ j.code = 2 ∨ j.code = 3 ∨ j.code = 5 ∨ j.code = 6) (hu : oneJ j [t, s] = some u) (Ac : Option Addr) (cc : Nat) (A B : Option Addr) (c d : Nat) (A' B' : Option Addr) (c' d' : Nat) (w : World) (n : Nat) (hn : w.heap.size = n) (hE : OEnv w) (hA : Rd w [] 1 Ac j.cols.length (strs j.cols)) (hcc : j.cols.length ≤ cc) (hlc : j.cols.length ≤ 4294967296) (hT : TabIn w t A B c d) (hS : TabIn w s A' B' c' d') :
    Calls Tryz.prog 11 #[jAgg j none 0 none 0 0 Ac cc, .slice (some ⟨n, 0, none⟩) 2 2] (w.alloc (.cells #[.slice A t.cols.length c, .slice B t.rows.length d, .slice A' s.cols.length c', .slice B' s.rows.length d'] 25)) fun e w' => (∃ A1 c1 A2 c2, e = .returned (.tuple #[.agg #[.slice A1 u.cols.length c1, .slice A2 u.rows.length c2], .bool true]) ∧ TabIn w' u A1 A2 c1 c2) ∧ Keeps [] w w' := by
  subst hn
  have hk : Keeps [] w (w.alloc (.cells #[.slice A t.cols.length c, .slice B t.rows.length d, .slice A' s.cols.length c', .slice B' s.rows.length d'] 25)) := (Keeps.refl _ _).alloc _
  refine (one_some hcode hu none 0 none 0 0 Ac cc _ 2 _ (hE.quiet hk) (hA.keep hk) hcc hlc (rdTbs_blk2 (Blk.new _ _ _) (hT.quiet hk) (hS.quiet hk)) (fun x hx => by
    simp only [List.mem_cons, List.not_mem_nil, or_false] at hx
    rcases hx with rfl | rfl
    · exact hT.tbB
    · exact hS.tbB) (by show 2 ≤ _; omega)).mono ?_
  rintro e w' ⟨h, hk2⟩
  exact ⟨h, hk.trans hk2⟩
theorem oneN2 {j : Jb} {t s : Tb} (hcode : j.code = 1 ∨ j.code = 2 ∨ j.code = 3 ∨ j.code = 5 ∨ j.code = 6) (hu : oneJ j [t, s] = none) (Ac : Option Addr) (cc : Nat) (A B : Option Addr) (c d : Nat) (A' B' : Option Addr) (c' d' : Nat) (w : World) (n : Nat) (hn : w.heap.size = n) (hE : OEnv w) (hA : Rd w [] 1 Ac j.cols.length (strs j.cols)) (hcc : j.cols.length ≤ cc) (hlc : j.cols.length ≤ 4294967296) (hT : TabIn w t A B c d) (hS : TabIn w s A' B' c' d') :
    Calls Tryz.prog 11 #[jAgg j none 0 none 0 0 Ac cc, .slice (some ⟨n, 0, none⟩) 2 2] (w.alloc (.cells #[.slice A t.cols.length c, .slice B t.rows.length d, .slice A' s.cols.length c', .slice B' s.rows.length d'] 25)) fun e w' => e = .returned (.tuple #[.agg #[.slice none 0 0, .slice none 0 0], .bool false]) ∧ Keeps [] w w' := by
  subst hn
  have hk : Keeps [] w (w.alloc (.cells #[.slice A t.cols.length c, .slice B t.rows.length d, .slice A' s.cols.length c', .slice B' s.rows.length d'] 25)) := (Keeps.refl _ _).alloc _
  refine (one_noth hcode hu none 0 none 0 0 Ac cc _ 2 _ (hE.quiet hk) (hA.keep hk) hcc hlc (rdTbs_blk2 (Blk.new _ _ _) (hT.quiet hk) (hS.quiet hk)) (fun x hx => by
    simp only [List.mem_cons, List.not_mem_nil, or_false] at hx
    rcases hx with rfl | rfl
    · exact hT.tbB
    · exact hS.tbB) (by show 2 ≤ _; omega)).mono ?_
  rintro e w' ⟨h, hk2⟩
  exact ⟨h, hk.trans hk2⟩
end Go.Proofs.YtomgnjgaafnkiaaGreatDoor
