/- Tables as plain data: what is written is read again, and what is read is written so. No program in sight. A region that draws its order, whose operations only read and whose callees keep what was there: walked once, in the order of the text. The reference's low, dig, in. -/
import Derived.Test.YtpagiajlefejcaaGreatDoorTbrM1
import Derived.Test.YtpagiajlefejcaaGreatDoorProg
set_option linter.unusedSimpArgs false
set_option linter.unusedVariables false
namespace Go.Proofs.YtpagiajlefejcaaGreatDoor
def preH (p : Bs) : List Bs → List Bs
 | [] => [p]
 | h :: t => (p ++ h) :: t
def cutR : Bool → Bs → List Bs
 | _, [] => [[]]
 | q, b :: l => if b = 39 then preH [b] (cutR (!q) l) else if b = 32 && !q then [] :: cutR q l else preH [b] (cutR q l)
def Whole (p : Bs) : Prop := ∀ r, cutR false (p ++ r) = preH p (cutR false r)
theorem dec_digit (u : Nat) : ∀ b ∈ Lib.decDigits u, 48 ≤ b.toNat ∧ b.toNat ≤ 57 := by
 induction u using Nat.strongRecOn with
 | _ u ih =>
  intro b hb
  rw [Lib.decDigits] at hb
  split at hb
  ·rw [List.mem_singleton] at hb
   subst hb
   rw [UInt8.toNat_ofNat']
   omega
  ·rw [List.mem_append, List.mem_singleton] at hb
   rcases hb with hb | rfl
   ·exact ih (u / 10) (by omega) b hb
   ·rw [UInt8.toNat_ofNat']
    omega
theorem dec_ne (u : Nat) : Lib.decDigits u ≠ [] := by
 rw [Lib.decDigits]
 split <;> simp
theorem parse_snoc (d : UInt8) (hd : 48 ≤ d.toNat ∧ d.toNat ≤ 57) : ∀ (l : Bs) (a v : Nat), Lib.parseUint10 a l = .ok v → v < 1844674407370955161 → Lib.parseUint10 a (l ++ [d]) = .ok (v * 10 + (d.toNat - 48))
 | [], a, v, h, hv => by
  simp only [Lib.parseUint10] at h
  injection h with h
  subst h
  simp only [List.nil_append, Lib.parseUint10]
  rw [if_pos hd, if_neg (by omega), if_neg (by omega)]
 | c :: l, a, v, h, hv => by
  simp only [List.cons_append, Lib.parseUint10] at h ⊢
  split at h
  ·rename_i h1
   rw [if_pos h1]
   split at h
   ·cases h
   ·rename_i h2
    rw [if_neg h2]
    split at h
    ·cases h
    ·rename_i h3
     rw [if_neg h3]
     exact parse_snoc d hd l _ v h hv
  ·cases h
theorem parse_dec (u : Nat) (h : u < 18446744073709551610) : Lib.parseUint10 0 (Lib.decDigits u) = .ok u := by
 induction u using Nat.strongRecOn with
 | _ u ih =>
  rw [Lib.decDigits]
  split
  ·simp only [Lib.parseUint10]
   have e : (UInt8.ofNat (48 + u)).toNat = 48 + u := by rw [UInt8.toNat_ofNat']; omega
   rw [e, if_pos (by omega), if_neg (by omega), if_neg (by omega)]
   congr 1
   omega
  ·have e : (UInt8.ofNat (48 + u % 10)).toNat = 48 + u % 10 := by rw [UInt8.toNat_ofNat']; omega
   rw [parse_snoc _ (by rw [e]; omega) _ 0 (u / 10) (ih (u / 10) (by omega) (by omega)) (by omega), e]
   congr 1
   omega
theorem itoa_byte (n : Int) : ∀ b ∈ Lib.itoa n, b = 45 ∨ (48 ≤ b.toNat ∧ b.toNat ≤ 57) := fun b hb => by
 unfold Lib.itoa at hb
 split at hb
 ·rcases List.mem_cons.1 hb with rfl | hb
  ·exact .inl rfl
  ·exact .inr (dec_digit _ b hb)
 ·exact .inr (dec_digit _ b hb)
theorem atoi_itoa (n : Int) (h : numOk n) : Lib.atoiAll (Lib.itoa n) = .ok n := by
 unfold numOk at h
 unfold Lib.itoa
 split
 ·rename_i hn
  have hp := parse_dec n.natAbs (by omega)
  simp only [Lib.atoiAll]
  rw [if_pos (by decide)]
  unfold Lib.parseMag
  rw [if_neg (dec_ne _), hp]
  simp only
  rw [if_neg (by simp), if_neg (by omega)]
  have e45 : (45 : UInt8).toNat = 45 := rfl
  rw [if_pos e45]
  congr 1
  omega
 ·rename_i hn
  have hp := parse_dec n.toNat (by omega)
  cases hd : Lib.decDigits n.toNat with
  | nil => exact absurd hd (dec_ne _)
  | cons c r =>
   have hc := dec_digit n.toNat c (by rw [hd]; exact List.mem_cons_self ..)
   rw [hd] at hp
   simp only [Lib.atoiAll]
   rw [if_neg (by omega)]
   unfold Lib.parseMag
   rw [if_neg (by simp), hp]
   simp only
   rw [if_neg (by omega), if_neg (by omega), if_neg (by omega)]
   congr 1
   omega
theorem rvB_int {v : Vl} (h : rvB v = true) (hk : v.kind = 1) : v.word = [] ∧ -1000000000 ≤ v.num ∧ v.num ≤ 1000000000 := by
 unfold rvB at h
 rw [if_pos hk] at h
 simpa [and_assoc] using h
theorem rvB_text {v : Vl} (h : rvB v = true) (hk : v.kind ≠ 1) : v.kind = 2 ∧ v.num = 0 ∧ v.word.length ≤ 16 ∧ ∀ b ∈ v.word, badB b = false := by
 unfold rvB at h
 rw [if_neg hk] at h
 split at h
 ·rename_i h2
  simp only [Bool.and_eq_true, decide_eq_true_eq, Bool.not_eq_true', List.any_eq_false] at h
  exact ⟨h2, h.1.1, h.1.2, fun b hb => by simpa using h.2 b hb⟩
 ·cases h
theorem badB_39 : badB 39 = true := by decide
theorem not_in_word {v : Vl} (h : rvB v = true) {b : UInt8} (hb : badB b = true) : b ∉ v.word := fun hm => by
 by_cases hk : v.kind = 1
 ·rw [(rvB_int h hk).1] at hm; cases hm
 ·have := (rvB_text h hk).2.2.2 b hm
  rw [hb] at this
  cases this
theorem quoted_itoa (n : Int) : quoted (Lib.itoa n) = false := by
 unfold quoted
 cases hi : Lib.itoa n with
 | nil => rfl
 | cons b l =>
  have hb := itoa_byte n b (by rw [hi]; exact List.mem_cons_self ..)
  have : b ≠ 39 := by
   rcases hb with rfl | h2
   ·decide
   ·rintro rfl; exact absurd h2.1 (by decide)
  simp [this]
theorem quoted_text (w : Bs) : quoted ([39] ++ w ++ [39]) = true := by
 unfold quoted
 simp
theorem unquote (w : Bs) : (([39] ++ w ++ [39] : Bs).take (([39] ++ w ++ [39] : Bs).length - 1)).drop 1 = w := by
 simp
theorem pvL_value {v : Vl} (h : rvB v = true) : pvL (valueL v) = some v := by
 unfold pvL pv0 valueL
 by_cases hk : v.kind = 1
 ·have h1 := rvB_int h hk
  rw [if_pos hk, quoted_itoa, if_neg (by simp), atoi_itoa _ ⟨by omega, by omega⟩]
  simp only
  have e : (⟨1, v.num, []⟩ : Vl) = v := by
   obtain ⟨k, n, w⟩ := v
   simp only at hk h1
   rw [hk, h1.1]
  simp only [if_true]
  rw [e, if_pos h]
 ·have h1 := rvB_text h hk
  rw [if_neg hk, quoted_text, if_pos rfl, unquote]
  have e : (⟨2, 0, v.word⟩ : Vl) = v := by
   obtain ⟨k, n, w⟩ := v
   simp only at h1
   rw [h1.1, h1.2.1]
  simp only
  rw [e, if_pos h]
theorem quoted_eq {s : Bs} (h : quoted s = true) : s = [39] ++ (s.take (s.length - 1)).drop 1 ++ [39] := by
 unfold quoted at h
 simp only [Bool.and_eq_true, decide_eq_true_eq] at h
 obtain ⟨⟨h2, h0⟩, h1⟩ := h
 match s, h2, h0, h1 with
 | [], h2, _, _ => simp at h2
 | [_], h2, _, _ => simp at h2
 | a :: b :: t, _, h0, h1 =>
  simp at h0
  subst h0
  obtain ⟨l, x, e⟩ : ∃ l x, b :: t = l ++ [x] := ⟨(b :: t).dropLast, (b :: t).getLast (by simp), (List.dropLast_concat_getLast (by simp)).symm⟩
  rw [e] at h1 ⊢
  simp at h1
  subst h1
  simp
theorem pvL_some {s : Bs} {v : Vl} (h : pvL s = some v) : valueL v = s ∧ rvB v = true := by
 unfold pvL at h
 split at h
 ·rename_i u hu
  split at h
  ·rename_i hr
   injection h with h
   subst h
   refine ⟨?_, hr⟩
   unfold pv0 at hu
   split at hu
   ·rename_i hq
    injection hu with hu
    subst hu
    unfold valueL
    rw [if_neg (by simp)]
    exact (quoted_eq hq).symm
   ·split at hu
    ·split at hu
     ·rename_i he
      injection hu with hu
      subst hu
      unfold valueL
      rw [if_pos rfl]
      exact he
     ·cases hu
    ·cases hu
  ·cases h
 ·cases h
theorem valsP_spec : ∀ (ps : List Bs) (a r : List Vl), valsP ps a = some r ↔ ∃ q, r = a ++ q ∧ q.map valueL = ps ∧ ∀ v ∈ q, rvB v = true
 | [], a, r => by
  simp only [valsP, Option.some.injEq]
  constructor
  ·rintro rfl; exact ⟨[], by simp⟩
  ·rintro ⟨q, rfl, hq, _⟩
   have : q = [] := by simpa using hq
   simp [this]
 | p :: ps, a, r => by
  simp only [valsP]
  cases hp : pvL p with
  | none =>
   simp only
   constructor
   ·intro h; cases h
   ·rintro ⟨q, _, hq, hv⟩
    cases q with
    | nil => simp at hq
    | cons v q =>
     simp at hq
     have := pvL_value (hv v (List.mem_cons_self ..))
     rw [hq.1, hp] at this
     cases this
  | some v =>
   simp only
   rw [valsP_spec ps (a ++ [v]) r]
   have hv := pvL_some hp
   constructor
   ·rintro ⟨q, rfl, hq, hr⟩
    refine ⟨v :: q, by simp, by simp [hv.1, hq], fun x hx => ?_⟩
    rcases List.mem_cons.1 hx with rfl | hx
    ·exact hv.2
    ·exact hr x hx
   ·rintro ⟨q, rfl, hq, hr⟩
    cases q with
    | nil => simp at hq
    | cons u q =>
     simp at hq
     have := pvL_value (hr u (List.mem_cons_self ..))
     rw [hq.1, hp] at this
     injection this with this
     subst this
     exact ⟨q, by simp, hq.2, fun x hx => hr x (List.mem_cons_of_mem _ hx)⟩
theorem rowB_iff {cs : List Cl} {r : List Vl} : rowB cs r = true ↔ fits cs r = true ∧ ∀ v ∈ r, rvB v = true := by
 unfold rowB fits
 simp only [Bool.and_eq_true, decide_eq_true_eq, List.all_eq_true]
 constructor
 ·rintro ⟨h1, h2⟩
  refine ⟨⟨h1, fun p hp => ?_⟩, fun v hv => ?_⟩
  ·obtain ⟨i, hi, rfl⟩ := List.getElem_of_mem hp
   have hi' : i < r.length := by rw [List.length_zip] at hi; omega
   have := h2 i (List.mem_range.2 hi')
   unfold okAt at this
   rw [List.getElem?_eq_getElem hi', List.getElem?_eq_getElem (by omega)] at this
   simp at this
   simp [this.1]
  ·obtain ⟨i, hi, rfl⟩ := List.getElem_of_mem hv
   have := h2 i (List.mem_range.2 hi)
   unfold okAt at this
   rw [List.getElem?_eq_getElem hi, List.getElem?_eq_getElem (by omega)] at this
   simp at this
   exact this.2
 ·rintro ⟨⟨h1, h2⟩, h3⟩
  refine ⟨h1, fun i hi => ?_⟩
  have hi' : i < r.length := List.mem_range.1 hi
  unfold okAt
  rw [List.getElem?_eq_getElem hi', List.getElem?_eq_getElem (by omega)]
  have := h2 (r[i], cs[i]) (by
   rw [List.mem_iff_getElem]
   exact ⟨i, by rw [List.length_zip]; omega, by simp⟩)
  simp at this
  simp [this, h3 _ (List.getElem_mem hi')]
theorem colsB_col {l : List Cl} (h : colsB l = true) : ∀ c ∈ l, nameB c.name = true ∧ (c.kind = 1 ∨ c.kind = 2) := fun c hc => by
 obtain ⟨i, hi, rfl⟩ := List.getElem_of_mem hc
 unfold colsB at h
 simp only [Bool.and_eq_true, List.all_eq_true] at h
 have := h.2 i (List.mem_range.2 hi)
 unfold okCol at this
 rw [List.getElem?_eq_getElem hi] at this
 simp only [Bool.and_eq_true, Bool.or_eq_true, decide_eq_true_eq] at this
 exact this.1
theorem colsB_ne {l : List Cl} (h : colsB l = true) : l ≠ [] ∧ l.length ≤ 6 := by
 unfold colsB at h
 simp only [Bool.and_eq_true, decide_eq_true_eq] at h
 refine ⟨?_, h.1.2⟩
 rintro rfl
 simp at h
end Go.Proofs.YtpagiajlefejcaaGreatDoor
namespace Go.Proofs.YtpagiajlefejcaaGreatDoor
open Go.RowKit
structure KW (w0 : World) where
 w : World
 k : Keeps [] w0 w
instance (w0 : World) : Inhabited (KW w0) := ⟨⟨w0, Keeps.refl [] w0⟩⟩
theorem wp_region_keeps {P : Program} {id : Nat} {Q : Exit → Act → World → Prop} {a : Act} {w : World} {l : List Oper} (hm : P.follows .mixedOrders = true) (hB : Region.lexB .any l.toArray = true)
  (h : wpQuiet P l.toArray (fun w' => ∃ p : KW w, w' = p.w) (fun a' => ∀ w', Keeps [] w w' → Q .normal a' w') l a) : (Code.region id l.toArray true).wp P Q a w := by
 have e : (fun a' => ∀ w', Keeps [] w w' → Q .normal a' w') = fun a' => ∀ w', (∃ p : KW w, w' = p.w) → Q .normal a' w' := by
  funext a'
  exact propext ⟨fun h w' ⟨p, e⟩ => h w' (e ▸ p.k), fun h w' k => h w' ⟨⟨w', k⟩, rfl⟩⟩
 rw [e] at h
 exact wp_region_quiet (C := fun w' => ∃ p : KW w, w' = p.w) hm hB ⟨⟨w.drew, (Keeps.refl [] w).drew⟩, rfl⟩ (by simpa using h)
theorem KW.cell {w0 : World} (p : KW w0) (b o : Nat) (h : b < w0.heap.size) : p.w.cell? ⟨b, o, none⟩ = w0.cell? ⟨b, o, none⟩ := p.k.cell h (by simp)
theorem KW.of {P : Program} {f : FuncId} {args : Array Value} {w0 : World} {v : Value} (h : ∀ W, Keeps [] w0 W → Calls P f args W fun e W' => e = .returned v ∧ Keeps [] W W') (p : KW w0) :
  Calls P f args p.w fun e w'' => e = .returned v ∧ ∃ q : KW w0, w'' = q.w :=
 (h p.w p.k).mono fun _ W' ⟨he, hk⟩ => ⟨he, ⟨W', p.k.trans hk⟩, rfl⟩
end Go.Proofs.YtpagiajlefejcaaGreatDoor
namespace Go.Proofs.YtpagiajlefejcaaGreatDoor
open Go.RowKit
attribute [local go_sem] bs_size bs_extract bs_append bs_toList
def lowB (b : UInt8) : Bool := decide (97 ≤ b.toNat) && decide (b.toNat ≤ 122)
theorem low_any (b : UInt8) (w : World) : Calls Tryz.prog 55 #[.int .u8 (b.toNat : Int)] w fun e w' => e = .returned (.bool (lowB b)) ∧ w = w' := by
 obtain ⟨R, hR⟩ : ∃ R, lowB b = R := ⟨_, rfl⟩
 rw [hR]
 have HR : Hid (R = (decide (97 ≤ b.toNat) && decide (b.toNat ≤ 122))) := Lib.hid hR.symm
 clear hR
 by_cases h1 : 97 ≤ b.toNat
 ·have t1 : (97 : Int) ≤ (b.toNat : Int) := by omega
  by_cases h2 : b.toNat ≤ 122
  ·have t2 : (b.toNat : Int) ≤ (122 : Int) := by omega
   go_enter Tryz.func55, Tryz.ntmps55
   go_wp2
   go_ret
   exact ⟨by rw [HR.out, decide_eq_true h1, decide_eq_true h2]; rfl, rfl⟩
  ·have t2 : ¬ (b.toNat : Int) ≤ (122 : Int) := by omega
   go_enter Tryz.func55, Tryz.ntmps55
   go_wp2
   go_ret
   exact ⟨by rw [HR.out, decide_eq_true h1, decide_eq_false h2]; rfl, rfl⟩
 ·have t1 : ¬ (97 : Int) ≤ (b.toNat : Int) := by omega
  go_enter Tryz.func55, Tryz.ntmps55
  go_wp2
  go_ret
  exact ⟨by rw [HR.out, decide_eq_false h1]; rfl, rfl⟩
def digB (b : UInt8) : Bool := decide (48 ≤ b.toNat) && decide (b.toNat ≤ 57)
theorem dig_any (b : UInt8) (w : World) : Calls Tryz.prog 56 #[.int .u8 (b.toNat : Int)] w fun e w' => e = .returned (.bool (digB b)) ∧ w = w' := by
 obtain ⟨R, hR⟩ : ∃ R, digB b = R := ⟨_, rfl⟩
 rw [hR]
 have HR : Hid (R = (decide (48 ≤ b.toNat) && decide (b.toNat ≤ 57))) := Lib.hid hR.symm
 clear hR
 by_cases h1 : 48 ≤ b.toNat
 ·have t1 : (48 : Int) ≤ (b.toNat : Int) := by omega
  by_cases h2 : b.toNat ≤ 57
  ·have t2 : (b.toNat : Int) ≤ (57 : Int) := by omega
   go_enter Tryz.func56, Tryz.ntmps56
   go_wp2
   go_ret
   exact ⟨by rw [HR.out, decide_eq_true h1, decide_eq_true h2]; rfl, rfl⟩
  ·have t2 : ¬ (b.toNat : Int) ≤ (57 : Int) := by omega
   go_enter Tryz.func56, Tryz.ntmps56
   go_wp2
   go_ret
   exact ⟨by rw [HR.out, decide_eq_true h1, decide_eq_false h2]; rfl, rfl⟩
 ·have t1 : ¬ (48 : Int) ≤ (b.toNat : Int) := by omega
  go_enter Tryz.func56, Tryz.ntmps56
  go_wp2
  go_ret
  exact ⟨by rw [HR.out, decide_eq_false h1]; rfl, rfl⟩
theorem in_any (n lo hi : Int) (w : World) :
  Calls Tryz.prog 50 #[.int .i64 n, .int .i64 lo, .int .i64 hi] w fun ev w' => ev = .returned (.bool (decide (lo ≤ n ∧ n ≤ hi))) ∧ w = w' := by
 by_cases h1 : lo ≤ n
 ·by_cases h2 : n ≤ hi
  ·have hd : decide (lo ≤ n ∧ n ≤ hi) = true := decide_eq_true ⟨h1, h2⟩
   rw [hd]
   clear hd
   go_enter Tryz.func50, Tryz.ntmps50
   go_wp2
   go_ret
   exact ⟨rfl, rfl⟩
  ·have hd : decide (lo ≤ n ∧ n ≤ hi) = false := decide_eq_false fun h => h2 h.2
   rw [hd]
   clear hd
   go_enter Tryz.func50, Tryz.ntmps50
   go_wp2
   go_ret
   exact ⟨rfl, rfl⟩
 ·have hd : decide (lo ≤ n ∧ n ≤ hi) = false := decide_eq_false fun h => h1 h.1
  rw [hd]
  clear hd
  go_enter Tryz.func50, Tryz.ntmps50
  go_wp2
  go_ret
  exact ⟨rfl, rfl⟩
end Go.Proofs.YtpagiajlefejcaaGreatDoor
