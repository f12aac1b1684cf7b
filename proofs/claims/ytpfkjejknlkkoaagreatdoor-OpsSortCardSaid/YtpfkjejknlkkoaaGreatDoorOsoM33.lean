/- foremankeep.done: closed jobs through Do. Which is the first that something says of; plain. slices.IndexFunc and ContainsFunc over values and over rows, with a predicate that is handed in by its contract. -/
import Derived.Test.YtpfkjejknlkkoaaGreatDoorOsoM28
import Derived.Test.YtpfkjejknlkkoaaGreatDoorOsoM32
import Derived.Test.YtpfkjejknlkkoaaGreatDoorOsoM1
import Derived.Test.YtpfkjejknlkkoaaGreatDoorOsoM4
import Derived.Test.YtpfkjejknlkkoaaGreatDoorOsoM9
set_option linter.unusedSimpArgs false
set_option linter.unusedVariables false
namespace Go.Proofs.YtpfkjejknlkkoaaGreatDoor
open Go.RowKit
attribute [local go_sem] bs_size bs_extract bs_append bs_toList
def t1 : Tb := ⟨[⟨[105, 100], 1⟩, ⟨[110, 97, 109, 101], 2⟩], [[⟨1, 2, []⟩, ⟨2, 0, [98]⟩], [⟨1, 1, []⟩, ⟨2, 0, [97]⟩], [⟨1, 2, []⟩, ⟨2, 0, [99]⟩]]⟩
def t2 : Tb := ⟨[⟨[105, 100], 1⟩, ⟨[110, 97, 109, 101], 2⟩], [[⟨1, 2, []⟩, ⟨2, 0, [98]⟩], [⟨1, 2, []⟩, ⟨2, 0, [99]⟩]]⟩
def s1 : Bs := [105, 100, 58, 105, 110, 116, 32, 110, 97, 109, 101, 58, 116, 101, 120, 116, 10, 50, 32, 39, 98, 39, 10, 49, 32, 39, 97, 39, 10, 50, 32, 39, 99, 39, 10]
def s2 : Bs := [105, 100, 58, 105, 110, 116, 32, 110, 97, 109, 101, 58, 116, 101, 120, 116, 10, 50, 32, 39, 98, 39, 10, 50, 32, 39, 99, 39, 10]
def jG : Jb := ⟨0, 8, [[120]], [], [[105, 100], [105, 100]], [115, 117, 109], ⟨[], zV⟩, ⟨[], zV⟩, 0⟩
def jF : Jb := ⟨0, 1, [[120]], [], [], [62], ⟨[105, 100], zV⟩, ⟨[], ⟨1, 1, []⟩⟩, 0⟩
theorem t1_right : rightB t1 = true := by decide
theorem t2_right : rightB t2 = true := by decide
theorem t1_print : printL t1 = s1 := by
 have h1 : Lib.decDigits 1 = [49] := Lib.decDigits_one (by decide)
 have h2 : Lib.decDigits 2 = [50] := Lib.decDigits_one (by decide)
 simp [printL, t1, s1, colsT, rowsT, rowT, valueL, Lib.itoa, h1, h2, kindW]
theorem t2_print : printL t2 = s2 := by
 have h2 : Lib.decDigits 2 = [50] := Lib.decDigits_one (by decide)
 simp [printL, t2, s2, colsT, rowsT, rowT, valueL, Lib.itoa, h2, kindW]
theorem s1_parse : parseL s1 = .ok t1 := by rw [← t1_print]; exact parse_print t1_right
theorem jG_cols : colsJ jG [t1.cols] = .error 9 := by rfl
theorem jG_do : doJ jG [t1] = .error 9 := by rfl
theorem jF_do : doJ jF [t1] = .ok [t2] := by rfl
theorem rd_blk {W : World} {b : Nat} {ty : TypeId} {cs : Array Value} (h : Blk W b ty cs) (l : List Value) (hl : cs = l.toArray) : Rd W [] 1 (some ⟨b, 0, none⟩) l.length l := by
 subst hl
 refine ⟨by omega, fun _ => ⟨_, rfl, by simp, h.lt, fun j u hu => ?_⟩⟩
 rw [add_at, Nat.zero_add, h.cell j]
 simpa using hu
theorem rdTbs_blk {W : World} {b : Nat} {ty : TypeId} {t : Tb} {A B : Option Addr} {c d : Nat} (h : Blk W b ty #[.slice A t.cols.length c, .slice B t.rows.length d]) (hT : TabIn W t A B c d) : RdTbs W (some ⟨b, 0, none⟩) [t] := by
 refine ⟨[(.slice A t.cols.length c, .slice B t.rows.length d)], rfl, ⟨rfl, fun _ => ⟨_, rfl, by simp, h.lt, fun j u hu => ?_⟩⟩, fun i hi h' => ?_⟩
 ·rw [add_at, Nat.zero_add, h.cell j]
  simpa [flat2] using hu
 ·have hi : i = 0 := by simp at hi; omega
  subst hi
  exact ⟨⟨A, c, rfl, hT.cc, hT.cols⟩, ⟨B, d, rfl, hT.cd, hT.rows⟩⟩
theorem TabIn.tbB {w : World} {t : Tb} {A B : Option Addr} {c d : Nat} (hT : TabIn w t A B c d) : TbB t := ⟨hT.names, hT.ln, hT.lm, hT.lr⟩
theorem do_G (W : World) (Ao Ac AT : Option Addr) (ct : Nat) (hE : OEnv W) (ho : Rd W [] 1 Ao 1 (strs [[120]])) (hc : Rd W [] 1 Ac 2 (strs [[105, 100], [105, 100]])) (hI : RdTbs W AT [t1]) (hB : TbB t1) :
  Calls Tryz.prog 27 #[jAgg jG Ao 1 none 0 0 Ac 2, .slice AT 1 ct] W fun e w' => e = .returned (.tuple #[.slice none 0 0, .iface 71 (.int .i64 9)]) ∧ Keeps [] W w' := by
 have hJ : JobIn W jG Ao 1 Ac 2 := ⟨ho, Nat.le_refl _, hc, Nat.le_refl _, by decide, by decide⟩
 have h := do_any jG Ao 1 none 0 0 Ac 2 [t1] AT ct W hI (fun t ht => by rw [List.mem_singleton] at ht; rw [ht]; exact hB) (by decide) (fun V q AH ch hH => cols_any jG Ao 1 none 0 0 Ac 2 [t1.cols] AH ch V (hE.quiet q).c (hJ.quiet q) hH (fun l hl => by rw [List.mem_singleton] at hl; rw [hl]; decide) (by decide) (fun _ A d U hd hA hk => by
  have hg := grouped_twice jG t1.cols [105, 100] [105, 100] 0 Ao 1 none 0 0 Ac 2 A d U ((hJ.quiet q).quiet hk) (hA.keep hk) (by decide) rfl rfl rfl rfl rfl
  exact hg)) (fun out _ hco => by rw [show ([t1].map (·.cols)) = [t1.cols] from rfl, jG_cols] at hco; cases hco)
 rw [jG_do] at h
 exact h
theorem do_F (W : World) (Ao AT : Option Addr) (ct : Nat) (hE : OEnv W) (ho : Rd W [] 1 Ao 1 (strs [[120]])) (hI : RdTbs W AT [t1]) (hB : TbB t1) :
  Calls Tryz.prog 27 #[jAgg jF Ao 1 none 0 0 none 0, .slice AT 1 ct] W fun e w' => (∃ B d, e = .returned (.tuple #[.slice B 1 d, .nilIface]) ∧ 1 ≤ d ∧ RdTbs w' B [t2]) ∧ Keeps [] W w' := by
 have hJ : JobIn W jF Ao 1 none 0 := ⟨ho, Nat.le_refl _, Rd.nil, Nat.le_refl _, by decide, by decide⟩
 have h := do_cmp jF (.inl rfl) Ao 1 none 0 0 none 0 [t1] AT ct W hE hJ hI (fun t ht => by rw [List.mem_singleton] at ht; rw [ht]; exact hB) (by decide)
 rw [jF_do] at h
 exact h
theorem t2_B : TbB t2 := ⟨by decide, by decide, by decide, by decide⟩
set_option maxHeartbeats 4000000 in
theorem done_any (w : World) (hE : OEnv w) :
  Calls Tryz.prog 6 #[] w fun e w' => e = .returned (.bool true) ∧ Keeps [] w w' := by
 have HP : Hid (Calls Tryz.prog 26 #[.string (bs s1)] w fun e w' => ∃ A B c d, e = .returned (.tuple #[.agg #[.slice A 2 c, .slice B 3 d], .nilIface]) ∧ TabIn w' t1 A B c d ∧ Keeps [] w w') := Lib.hid (parse_ok s1_parse (by decide) w hE.t)
 have HE := Lib.hid hE
 clear hE
 go_enter Tryz.func6, Tryz.ntmps6
 go_wp2_with fail
 refine HP.out.mono ?_
 rintro e w2 ⟨A, B, c, d, rfl, hT, hk⟩
 have HT := Lib.hid hT
 have HK := Lib.hid hk
 clear hT hk HP
 go_wp2_with fail
 have HK4 : Hid (Keeps [] w2 ((((w2.alloc (.cells #[.slice A 2 c, .slice B 3 d] 25)).alloc (.cells #[.string ⟨#[120]⟩] 9)).alloc (.cells #[.string ⟨#[105, 100]⟩, .string ⟨#[105, 100]⟩] 9)).alloc (.cells #[.slice A 2 c, .slice B 3 d] 25))) := Lib.hid ((((Keeps.refl _ _).alloc _).alloc _).alloc _ |>.alloc _)
 have HB0 := Lib.hid ((((Blk.new w2 25 #[.slice A 2 c, .slice B 3 d]).alloc (.cells #[.string ⟨#[120]⟩] 9)).alloc (.cells #[.string ⟨#[105, 100]⟩, .string ⟨#[105, 100]⟩] 9)).alloc (.cells #[.slice A 2 c, .slice B 3 d] 25))
 have HB1 := Lib.hid (((Blk.new (w2.alloc (.cells #[.slice A 2 c, .slice B 3 d] 25)) 9 #[.string ⟨#[120]⟩]).alloc (.cells #[.string ⟨#[105, 100]⟩, .string ⟨#[105, 100]⟩] 9)).alloc (.cells #[.slice A 2 c, .slice B 3 d] 25))
 have HB2 := Lib.hid ((Blk.new ((w2.alloc (.cells #[.slice A 2 c, .slice B 3 d] 25)).alloc (.cells #[.string ⟨#[120]⟩] 9)) 9 #[.string ⟨#[105, 100]⟩, .string ⟨#[105, 100]⟩]).alloc (.cells #[.slice A 2 c, .slice B 3 d] 25))
 have HB3 := Lib.hid (Blk.new (((w2.alloc (.cells #[.slice A 2 c, .slice B 3 d] 25)).alloc (.cells #[.string ⟨#[120]⟩] 9)).alloc (.cells #[.string ⟨#[105, 100]⟩, .string ⟨#[105, 100]⟩] 9)) 25 #[.slice A 2 c, .slice B 3 d])
 simp only [size_alloc] at HB1 HB2 HB3
 obtain ⟨w3, hw3⟩ : ∃ w3, ((((w2.alloc (.cells #[.slice A 2 c, .slice B 3 d] 25)).alloc (.cells #[.string ⟨#[120]⟩] 9)).alloc (.cells #[.string ⟨#[105, 100]⟩, .string ⟨#[105, 100]⟩] 9)).alloc (.cells #[.slice A 2 c, .slice B 3 d] 25)) = w3 := ⟨_, rfl⟩
 rw [hw3] at HK4 HB0 HB1 HB2 HB3 ⊢
 obtain ⟨bt, hbt⟩ : ∃ bt, w2.heap.size = bt := ⟨_, rfl⟩
 rw [hbt] at HB0 HB1 HB2 HB3 ⊢
 have HG : Hid (Calls Tryz.prog 27 #[.agg #[.int .i64 0, .int .i64 8, .slice (some ⟨bt + 1, 0, none⟩) 1 1, .slice none 0 0, .slice (some ⟨bt + 1 + 1, 0, none⟩) 2 2, .string ⟨#[115, 117, 109]⟩, .string ⟨#[]⟩, .int .i64 0, .int .i64 0, .string ⟨#[]⟩, .string ⟨#[]⟩, .int .i64 0, .int .i64 0, .string ⟨#[]⟩, .int .i64 0], .slice (some ⟨bt + 1 + 1 + 1, 0, none⟩) 1 1] w3 fun e w' => e = .returned (.tuple #[.slice none 0 0, .iface 71 (.int .i64 9)]) ∧ Keeps [] w3 w') := Lib.hid (do_G w3 (some ⟨bt + 1, 0, none⟩) (some ⟨bt + 1 + 1, 0, none⟩) (some ⟨bt + 1 + 1 + 1, 0, none⟩) 1 (HE.out.quiet (HK.out.trans HK4.out)) (rd_blk HB1.out _ rfl) (rd_blk HB2.out _ rfl) (rdTbs_blk HB3.out (HT.out.quiet HK4.out)) HT.out.tbB)
 clear hw3 hbt HB1 HB2 HB3
 with_reducible refine HG.out.mono ?_
 rintro e w4 ⟨rfl, hk4⟩
 have HK5 := Lib.hid (HK4.out.trans hk4)
 have HB5 := Lib.hid (HB0.out.keep hk4 (by simp))
 have c0 : w4.cell? ⟨bt, 0, none⟩ = some (.slice A 2 c) := HB5.out.cell 0
 have c1 : w4.cell? ⟨bt, 1, none⟩ = some (.slice B 3 d) := HB5.out.cell 1
 have hlt : bt < w4.heap.size := HB5.out.lt
 clear hk4 HB0 HG HK4
 go_wp2_with fail
 have HK6 : Hid (Keeps [] w4 ((w4.alloc (.cells #[.string ⟨#[120]⟩] 9)).alloc (.cells #[.slice A 2 c, .slice B 3 d] 25))) := Lib.hid (((Keeps.refl _ _).alloc _).alloc _)
 have HB1 := Lib.hid ((Blk.new w4 9 #[.string ⟨#[120]⟩]).alloc (.cells #[.slice A 2 c, .slice B 3 d] 25))
 have HB3 := Lib.hid (Blk.new (w4.alloc (.cells #[.string ⟨#[120]⟩] 9)) 25 #[.slice A 2 c, .slice B 3 d])
 simp only [size_alloc] at HB3
 obtain ⟨w5, hw5⟩ : ∃ w5, ((w4.alloc (.cells #[.string ⟨#[120]⟩] 9)).alloc (.cells #[.slice A 2 c, .slice B 3 d] 25)) = w5 := ⟨_, rfl⟩
 rw [hw5] at HK6 HB1 HB3 ⊢
 have HKA := Lib.hid (HK5.out.trans HK6.out)
 have HF : Hid (Calls Tryz.prog 27 #[.agg #[.int .i64 0, .int .i64 1, .slice (some ⟨w4.heap.size, 0, none⟩) 1 1, .slice none 0 0, .slice none 0 0, .string ⟨#[62]⟩, .string ⟨#[105, 100]⟩, .int .i64 0, .int .i64 0, .string ⟨#[]⟩, .string ⟨#[]⟩, .int .i64 1, .int .i64 1, .string ⟨#[]⟩, .int .i64 0], .slice (some ⟨w4.heap.size + 1, 0, none⟩) 1 1] w5 fun e w' => (∃ B d, e = .returned (.tuple #[.slice B 1 d, .nilIface]) ∧ 1 ≤ d ∧ RdTbs w' B [t2]) ∧ Keeps [] w5 w') := Lib.hid (do_F w5 (some ⟨w4.heap.size, 0, none⟩) (some ⟨w4.heap.size + 1, 0, none⟩) 1 (HE.out.quiet (HK.out.trans HKA.out)) (rd_blk HB1.out _ rfl) (rdTbs_blk HB3.out (HT.out.quiet HKA.out)) HT.out.tbB)
 clear hw5 HB1 HB3 c0 c1 hlt
 with_reducible refine HF.out.mono ?_
 rintro e w6 ⟨⟨B6, d6, rfl, hd6, hr6⟩, hk6⟩
 obtain ⟨b, o, A1, c1, A2, c2, rfl, e0, e1, hT6⟩ := hr6.first (k := 0) (by simp) rfl t2_B
 rw [Nat.zero_mul, Nat.add_zero] at e0 e1
 have e0' : w6.cell? ⟨b, o, none⟩ = some (.slice A1 2 c1) := e0
 have e1' : w6.cell? ⟨b, o + 1, none⟩ = some (.slice A2 2 c2) := e1
 have HK7 := Lib.hid ((HK.out.trans HKA.out).trans hk6)
 have HPR : Hid (∀ W, Keeps [] w6 W → Calls Tryz.prog 28 #[.agg #[.slice A1 2 c1, .slice A2 2 c2]] W fun e w' => e = .returned (.tuple #[.string (bs (printL t2)), .nilIface]) ∧ Keeps [] W w') := Lib.hid (fun W (q : Keeps [] w6 W) => print_yes t2 A1 A2 c1 c2 W (hT6.quiet q) ((HE.out.quiet HK7.out).quiet q).t t2_right)
 rw [t2_print] at HPR
 clear hd6 hr6 hk6 hT6 e0 e1
 go_wp2_with fail
 refine (HPR.out _ (Keeps.refl _ _)).mono ?_
 rintro e w7 ⟨rfl, hk7⟩
 go_wp2
 go_ret
 exact ⟨rfl, HK7.out.trans hk7⟩
end Go.Proofs.YtpfkjejknlkkoaaGreatDoor
namespace Go.Proofs.YtpfkjejknlkkoaaGreatDoor
def findIx {α : Type} (p : α → Bool) (l : List α) : Int := match l.findIdx? p with | some i => (i : Int) | none => -1
theorem findIx_hit {α : Type} {p : α → Bool} {l : List α} {k : Nat} (h : k < l.length) (hn : ∀ j (hj : j < k), p (l[j]'(by omega)) = false) (hp : p l[k] = true) : findIx p l = (k : Int) := by
 unfold findIx
 have : l.findIdx? p = some k := by
  rw [List.findIdx?_eq_some_iff_getElem]
  exact ⟨h, hp, fun j hj => by simpa using hn j hj⟩
 rw [this]
theorem findIx_none {α : Type} {p : α → Bool} {l : List α} (hn : ∀ j (hj : j < l.length), p l[j] = false) : findIx p l = -1 := by
 unfold findIx
 have : l.findIdx? p = none := by
  rw [List.findIdx?_eq_none_iff]
  intro x hx
  obtain ⟨j, hj, rfl⟩ := List.getElem_of_mem hx
  exact hn j hj
 rw [this]
theorem findIx_any {α : Type} (p : α → Bool) (l : List α) : decide (0 ≤ findIx p l) = l.any p := by
 unfold findIx
 cases h : l.findIdx? p with
 | none =>
  rw [List.findIdx?_eq_none_iff] at h
  simp
  intro x hx
  simpa using h x hx
 | some i =>
  rw [List.findIdx?_eq_some_iff_getElem] at h
  obtain ⟨hi, hp, _⟩ := h
  simp
  exact ⟨_, List.getElem_mem hi, hp⟩
end Go.Proofs.YtpfkjejknlkkoaaGreatDoor
namespace Go.Proofs.YtpfkjejknlkkoaaGreatDoor
open Go.RowKit
attribute [local go_sem] bs_size bs_extract bs_append bs_toList
def PredV (k : Nat) (cap : Array Value) (p : Vl → Bool) (l : List Vl) (w : World) : Prop :=
 ∀ c ∈ l, ∀ W, Keeps [] w W → Calls Tryz.prog k (#[vAgg c] ++ cap) W fun e W' => e = .returned (.bool (p c)) ∧ Keeps [] W W'
def PredR (k : Nat) (cap : Array Value) (p : List Vl → Bool) (l : List (List Vl)) (w : World) : Prop :=
 ∀ r ∈ l, ∀ A c W, Keeps [] w W → r.length ≤ c → Rd W [] 3 A r.length (vsCells r) → Calls Tryz.prog k (#[.slice A r.length c] ++ cap) W fun e W' => e = .returned (.bool (p r)) ∧ Keeps [] W W'
set_option maxHeartbeats 2000000 in
theorem indexFuncV_any (k : Nat) (cap : Array Value) (he : ∀ args w, (callFunc k args).run Tryz.prog w = .ok (.enter k args) w) (p : Vl → Bool) (l : List Vl) (A : Option Addr) (c : Nat) (w : World) (hR : Rd w [] 3 A l.length (vsCells l)) (hl : l.length ≤ 4294967296) (hf : PredV k cap p l w) :
  Calls Tryz.prog 35 #[.slice A l.length c, .func (.func k) #[] cap] w fun e w' => e = .returned (.int .i64 (findIx p l)) ∧ Keeps [] w w' := by
 have HR := Lib.hid hR
 have HF := Lib.hid hf
 clear hR hf
 go_enter Tryz.func35, Tryz.ntmps35
 go_wp2
 go_loopw [8] (fun i wr => ∃ n : Nat, n ≤ l.length ∧ i = .int .i64 n ∧ Hid (∀ j (hj : j < n) (hl : j < l.length), p l[j] = false) ∧ Keeps [] w wr) (fun i _ => l.length - (intOf i).toNat)
 case atStart => exact ⟨0, Nat.zero_le _, rfl, fun j hj => absurd hj (by omega), Keeps.refl _ _⟩
 case round =>
  obtain ⟨n, hn, rfl, hno, hk⟩ := hrel
  by_cases hlt : n < l.length
  ·obtain ⟨b, o, rfl, _, hb, hc⟩ := (HR.out.keep hk).open' (by omega) (by omega)
   have d1 := hc (n * 3) _ (vsCells_at l n hlt).1
   have d2 := hc (n * 3 + 1) _ (vsCells_at l n hlt).2.1
   have d3 := hc (n * 3 + 2) _ (vsCells_at l n hlt).2.2
   rw [← Nat.add_assoc] at d2 d3
   have HH := HF.out l[n] (List.getElem_mem hlt) wr hk
   generalize hx : l[n] = x at *
   have HX := Lib.hid hx
   have HH' := Lib.hid HH
   clear HH hc hx
   cases hp : p x with
   | true =>
    have hfin : findIx p l = (n : Int) := findIx_hit hlt (fun j hj => hno j hj (by omega)) ((congrArg p HX.out).trans hp)
    rw [hp] at HH'
    have HP := Lib.hid hfin
    clear hfin hp
    go_wp2_with fail
    refine HH'.out.mono ?_
    rintro e W2 ⟨rfl, hk2⟩
    go_wp2
    go_ret
    exact ⟨by rw [HP.out]; rfl, hk.trans hk2⟩
   | false =>
    have hno' : Hid (∀ j (hj : j < n + 1) (hl : j < l.length), p l[j] = false) := fun j hj hl => by
     by_cases h : j < n
     ·exact hno j h hl
     ·obtain rfl : j = n := by omega
      exact (congrArg p HX.out).trans hp
    rw [hp] at HH'
    clear hp
    go_wp2_with fail
    refine HH'.out.mono ?_
    rintro e W2 ⟨rfl, hk2⟩
    go_wp2
    go_roundw
    case rel => exact ⟨n + 1, by omega, by go_num, hno', hk.trans hk2⟩
    case measure => simp [intOf]; omega
  ·have hfin : Hid (findIx p l = -1) := findIx_none fun j hj => hno j (by omega) hj
   go_wp2
   go_ret
   exact ⟨by rw [hfin.out]; rfl, hk⟩
theorem containsFuncV_any (k : Nat) (cap : Array Value) (he : ∀ args w, (callFunc k args).run Tryz.prog w = .ok (.enter k args) w) (p : Vl → Bool) (l : List Vl) (A : Option Addr) (c : Nat) (w : World) (hR : Rd w [] 3 A l.length (vsCells l)) (hl : l.length ≤ 4294967296) (hf : PredV k cap p l w) :
  Calls Tryz.prog 24 #[.slice A l.length c, .func (.func k) #[] cap] w fun e w' => e = .returned (.bool (l.any p)) ∧ Keeps [] w w' := by
 have HC := Lib.hid (indexFuncV_any k cap he p l A c w hR hl hf)
 clear hR hf he
 rw [← findIx_any]
 go_enter Tryz.func24, Tryz.ntmps24
 go_wp2_with (go_at_call 35; refine HC.out.mono ?_; rintro e W2 ⟨rfl, hk2⟩)
 go_ret
 exact ⟨rfl, hk2⟩
set_option maxHeartbeats 2000000 in
theorem indexFuncR_any (k : Nat) (cap : Array Value) (he : ∀ args w, (callFunc k args).run Tryz.prog w = .ok (.enter k args) w) (p : (List Vl) → Bool) (l : List (List Vl)) (A : Option Addr) (c : Nat) (w : World) (hR : RdRows w [] A l) (hl : l.length ≤ 4294967296) (hf : PredR k cap p l w) :
  Calls Tryz.prog 34 #[.slice A l.length c, .func (.func k) #[] cap] w fun e w' => e = .returned (.int .i64 (findIx p l)) ∧ Keeps [] w w' := by
 have HR := Lib.hid hR
 have HF := Lib.hid hf
 clear hR hf
 go_enter Tryz.func34, Tryz.ntmps34
 go_wp2
 go_loopw [8] (fun i wr => ∃ n : Nat, n ≤ l.length ∧ i = .int .i64 n ∧ Hid (∀ j (hj : j < n) (hl : j < l.length), p l[j] = false) ∧ Keeps [] w wr) (fun i _ => l.length - (intOf i).toNat)
 case atStart => exact ⟨0, Nat.zero_le _, rfl, fun j hj => absurd hj (by omega), Keeps.refl _ _⟩
 case round =>
  obtain ⟨n, hn, rfl, hno, hk⟩ := hrel
  by_cases hlt : n < l.length
  ·obtain ⟨us, hul, hu1, hu2⟩ := HR.out.keep hk
   obtain ⟨b, o, rfl, _, hb, hc⟩ := hu1.open' (by omega) (by omega)
   have d1 := hc n _ (List.getElem?_eq_getElem (by omega))
   obtain ⟨Ar, cr, hue, hcr, hRr⟩ := hu2 n (by omega) hlt
   rw [hue] at d1
   have HH := HF.out l[n] (List.getElem_mem hlt) Ar cr wr hk hcr hRr
   clear hue hcr hRr hu1 hu2
   generalize hx : l[n] = x at *
   have HX := Lib.hid hx
   have HH' := Lib.hid HH
   clear HH hc hx
   cases hp : p x with
   | true =>
    have hfin : findIx p l = (n : Int) := findIx_hit hlt (fun j hj => hno j hj (by omega)) ((congrArg p HX.out).trans hp)
    rw [hp] at HH'
    have HP := Lib.hid hfin
    clear hfin hp
    go_wp2_with fail
    refine HH'.out.mono ?_
    rintro e W2 ⟨rfl, hk2⟩
    go_wp2
    go_ret
    exact ⟨by rw [HP.out]; rfl, hk.trans hk2⟩
   | false =>
    have hno' : Hid (∀ j (hj : j < n + 1) (hl : j < l.length), p l[j] = false) := fun j hj hl => by
     by_cases h : j < n
     ·exact hno j h hl
     ·obtain rfl : j = n := by omega
      exact (congrArg p HX.out).trans hp
    rw [hp] at HH'
    clear hp
    go_wp2_with fail
    refine HH'.out.mono ?_
    rintro e W2 ⟨rfl, hk2⟩
    go_wp2
    go_roundw
    case rel => exact ⟨n + 1, by omega, by go_num, hno', hk.trans hk2⟩
    case measure => simp [intOf]; omega
  ·have hfin : Hid (findIx p l = -1) := findIx_none fun j hj => hno j (by omega) hj
   go_wp2
   go_ret
   exact ⟨by rw [hfin.out]; rfl, hk⟩
theorem containsFuncR_any (k : Nat) (cap : Array Value) (he : ∀ args w, (callFunc k args).run Tryz.prog w = .ok (.enter k args) w) (p : (List Vl) → Bool) (l : List (List Vl)) (A : Option Addr) (c : Nat) (w : World) (hR : RdRows w [] A l) (hl : l.length ≤ 4294967296) (hf : PredR k cap p l w) :
  Calls Tryz.prog 22 #[.slice A l.length c, .func (.func k) #[] cap] w fun e w' => e = .returned (.bool (l.any p)) ∧ Keeps [] w w' := by
 have HC := Lib.hid (indexFuncR_any k cap he p l A c w hR hl hf)
 clear hR hf he
 rw [← findIx_any]
 go_enter Tryz.func22, Tryz.ntmps22
 go_wp2_with (go_at_call 34; refine HC.out.mono ?_; rintro e W2 ⟨rfl, hk2⟩)
 go_ret
 exact ⟨rfl, hk2⟩
end Go.Proofs.YtpfkjejknlkkoaaGreatDoor
