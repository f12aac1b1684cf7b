/- Tables as plain data: what is written is read again, and what is read is written so. No program in sight. Stable sorting as plain lists: merges, what their pieces are, one sort alone. No program in sight. The order by which ops.sorted sorts; plain. -/
import Derived.Test.YtpfkjejknlkkoaaGreatDoorOsoM1
import Derived.Lib.Hide
set_option linter.unusedSimpArgs false
set_option linter.unusedVariables false
namespace Go.Proofs.YtpfkjejknlkkoaaGreatDoor
def joinC (c : UInt8) : List Bs → Bs
 | [] => []
 | [a] => a
 | a :: b :: t => a ++ c :: joinC c (b :: t)
theorem joinC_cons (c : UInt8) (a : Bs) {l : List Bs} (h : l ≠ []) : joinC c (a :: l) = a ++ c :: joinC c l := by
 cases l with
 | nil => exact absurd rfl h
 | cons b t => rfl
theorem joinC_snoc (c : UInt8) (x : Bs) : ∀ {l : List Bs}, l ≠ [] → joinC c (l ++ [x]) = joinC c l ++ c :: x
 | [], h => absurd rfl h
 | [a], _ => rfl
 | a :: b :: t, _ => by
  have ih := joinC_snoc c x (l := b :: t) (by simp)
  rw [List.cons_append, joinC_cons c a (by simp), joinC_cons c a (by simp), ih]
  simp
def preH (p : Bs) : List Bs → List Bs
 | [] => [p]
 | h :: t => (p ++ h) :: t
theorem preH_ne (p : Bs) (l : List Bs) : preH p l ≠ [] := by cases l <;> simp [preH]
theorem preH_preH (p r : Bs) (l : List Bs) : preH p (preH r l) = preH (p ++ r) l := by cases l <;> simp [preH]
theorem preH_nil {l : List Bs} (h : l ≠ []) : preH [] l = l := by
 cases l with
 | nil => exact absurd rfl h
 | cons => rfl
theorem splitC_nonnil (c : UInt8) : ∀ s : Bs, splitC c s ≠ []
 | [] => by simp [splitC]
 | b :: l => by
  unfold splitC
  split
  ·simp
  ·split <;> simp
theorem splitC_cons (c b : UInt8) (l : Bs) : splitC c (b :: l) = if b = c then [] :: splitC c l else preH [b] (splitC c l) := by
 conv => lhs; unfold splitC
 split
 ·rfl
 ·split
  ·rename_i h t he; rw [he]; rfl
  ·rename_i he; exact absurd he (splitC_nonnil c l)
theorem splitC_app (c : UInt8) (r : Bs) : ∀ p : Bs, c ∉ p → splitC c (p ++ r) = preH p (splitC c r)
 | [], _ => (preH_nil (splitC_nonnil c r)).symm
 | b :: p, h => by
  have ih := splitC_app c r p (fun hm => h (List.mem_cons_of_mem _ hm))
  have hb : b ≠ c := fun e => h (by rw [e]; exact List.mem_cons_self ..)
  rw [List.cons_append, splitC_cons, if_neg hb, ih, preH_preH]
  rfl
theorem split_join (c : UInt8) : ∀ {l : List Bs}, l ≠ [] → (∀ u ∈ l, c ∉ u) → splitC c (joinC c l) = l
 | [], h, _ => absurd rfl h
 | [a], _, hf => by
  have := splitC_app c [] a (hf a (List.mem_cons_self ..))
  rw [List.append_nil] at this
  show splitC c a = _
  rw [this]
  simp [splitC, preH]
 | a :: b :: t, _, hf => by
  have ih := split_join c (l := b :: t) (by simp) (fun u hu => hf u (List.mem_cons_of_mem _ hu))
  rw [joinC_cons c a (by simp), splitC_app c _ a (hf a (List.mem_cons_self ..)), splitC_cons, if_pos rfl, ih]
  simp [preH]
theorem cutC_hit (c : UInt8) (r : Bs) : ∀ p : Bs, c ∉ p → cutC c (p ++ c :: r) = (p, r)
 | [], _ => by simp [cutC]
 | b :: p, h => by
  have hb : b ≠ c := fun e => h (by rw [e]; exact List.mem_cons_self ..)
  rw [List.cons_append]
  unfold cutC
  rw [if_neg hb, cutC_hit c r p (fun hm => h (List.mem_cons_of_mem _ hm))]
def cutR : Bool → Bs → List Bs
 | _, [] => [[]]
 | q, b :: l => if b = 39 then preH [b] (cutR (!q) l) else if b = 32 && !q then [] :: cutR q l else preH [b] (cutR q l)
theorem cutR_ne (q : Bool) (l : Bs) : cutR q l ≠ [] := by
 cases l with
 | nil => simp [cutR]
 | cons b l =>
  unfold cutR
  split
  ·exact preH_ne _ _
  ·split
   ·simp
   ·exact preH_ne _ _
theorem cut_gen (s : Bs) : ∀ (m k : Nat), k + m = s.length → ∀ o f q, cutS s k = (o, f, q) → f ≤ k → cutL s = o ++ preH ((s.take k).drop f) (cutR q (s.drop k))
 | 0, k, hk, o, f, q, hc, hf => by
  obtain rfl : k = s.length := by omega
  unfold cutL
  rw [hc, List.drop_length, List.take_length]
  simp [cutR, preH]
 | m + 1, k, hk, o, f, q, hc, hf => by
  have hlt : k < s.length := by omega
  have hg : s.getD k 0 = s[k] := by rw [List.getD_eq_getElem?_getD, List.getElem?_eq_getElem hlt]; rfl
  have hd : s.drop k = s[k] :: s.drop (k + 1) := List.drop_eq_getElem_cons hlt
  have ht : (s.take (k + 1)).drop f = (s.take k).drop f ++ [s[k]] := by
   rw [List.take_succ_eq_append_getElem hlt, List.drop_append_of_le_length (by rw [List.length_take]; omega)]
  have hs : cutS s (k + 1) = (if s[k] = 39 then (o, f, !q) else if s[k] = 32 && !q then (o ++ [(s.take k).drop f], k + 1, q) else (o, f, q)) := by
   conv => lhs; unfold cutS
   rw [hc, hg]
  rw [hd]
  unfold cutR
  by_cases h39 : s[k] = 39
  ·rw [if_pos h39] at hs ⊢
   rw [cut_gen s m (k + 1) (by omega) _ _ _ hs (by omega), ht, preH_preH]
  ·rw [if_neg h39] at hs ⊢
   by_cases h32 : (s[k] = 32 && !q) = true
   ·rw [if_pos h32] at hs ⊢
    rw [cut_gen s m (k + 1) (by omega) _ _ _ hs (by omega)]
    have e : (s.take (k + 1)).drop (k + 1) = [] := List.drop_of_length_le (by rw [List.length_take]; omega)
    rw [e, preH_nil (cutR_ne _ _)]
    simp [preH]
   ·rw [if_neg h32] at hs ⊢
    rw [cut_gen s m (k + 1) (by omega) _ _ _ hs (by omega), ht, preH_preH]
theorem cutL_eq (s : Bs) : cutL s = cutR false s := by
 rw [cut_gen s s.length 0 (by omega) [] 0 false rfl (Nat.le_refl _)]
 simp [preH_nil (cutR_ne _ _)]
def Whole (p : Bs) : Prop := ∀ r, cutR false (p ++ r) = preH p (cutR false r)
theorem whole_plain : ∀ {p : Bs}, (∀ b ∈ p, b ≠ 39 ∧ b ≠ 32) → Whole p
 | [], _ => fun r => (preH_nil (cutR_ne _ _)).symm
 | b :: p, h => fun r => by
  have hb := h b (List.mem_cons_self ..)
  have ih := whole_plain (p := p) (fun x hx => h x (List.mem_cons_of_mem _ hx)) r
  rw [List.cons_append]
  conv => lhs; unfold cutR
  rw [if_neg hb.1, if_neg (by simp [hb.2]), ih, preH_preH]
  rfl
theorem cutR_open (r : Bs) : ∀ w : Bs, (39 : UInt8) ∉ w → cutR true (w ++ 39 :: r) = preH (w ++ [39]) (cutR false r)
 | [], _ => by
  show cutR true (39 :: r) = _
  conv => lhs; unfold cutR
  rw [if_pos rfl]; rfl
 | b :: w, h => by
  have hb : b ≠ 39 := fun e => h (by rw [e]; exact List.mem_cons_self ..)
  rw [List.cons_append]
  conv => lhs; unfold cutR
  rw [if_neg hb, if_neg (by simp), cutR_open r w (fun hm => h (List.mem_cons_of_mem _ hm)), preH_preH]
  rfl
theorem whole_quoted {w : Bs} (h : (39 : UInt8) ∉ w) : Whole ([39] ++ w ++ [39]) := fun r => by
 have e : [39] ++ w ++ [39] ++ r = 39 :: (w ++ 39 :: r) := by simp
 rw [e]
 conv => lhs; unfold cutR
 rw [if_pos rfl]
 show preH [39] (cutR true _) = _
 rw [cutR_open r w h, preH_preH]
 simp
theorem cut_join : ∀ {l : List Bs}, l ≠ [] → (∀ u ∈ l, Whole u) → cutR false (joinC 32 l) = l
 | [], h, _ => absurd rfl h
 | [a], _, hf => by
  have := hf a (List.mem_cons_self ..) []
  rw [List.append_nil] at this
  show cutR false a = _
  rw [this]
  simp [cutR, preH]
 | a :: b :: t, _, hf => by
  have ih := cut_join (l := b :: t) (by simp) (fun u hu => hf u (List.mem_cons_of_mem _ hu))
  rw [joinC_cons 32 a (by simp), hf a (List.mem_cons_self ..)]
  conv => lhs; unfold cutR
  rw [if_neg (by decide), if_pos (by decide), ih]
  simp [preH]
theorem dec_digit (u : Nat) : ∀ b ∈ Lib.decDigits u, 48 ≤ b.toNat ∧ b.toNat ≤ 57 := by
 induction u using Nat.strongRecOn with
 | _ u ih =>
  intro b hb
  rw [Lib.decDigits] at hb
  split at hb
  ·rw [List.mem_singleton] at hb
   subst hb
   rw [UInt8.toNat_ofNat']
   omega
  ·rw [List.mem_append, List.mem_singleton] at hb
   rcases hb with hb | rfl
   ·exact ih (u / 10) (by omega) b hb
   ·rw [UInt8.toNat_ofNat']
    omega
theorem dec_ne (u : Nat) : Lib.decDigits u ≠ [] := by
 rw [Lib.decDigits]
 split <;> simp
theorem parse_snoc (d : UInt8) (hd : 48 ≤ d.toNat ∧ d.toNat ≤ 57) : ∀ (l : Bs) (a v : Nat), Lib.parseUint10 a l = .ok v → v < 1844674407370955161 → Lib.parseUint10 a (l ++ [d]) = .ok (v * 10 + (d.toNat - 48))
 | [], a, v, h, hv => by
  simp only [Lib.parseUint10] at h
  injection h with h
  subst h
  simp only [List.nil_append, Lib.parseUint10]
  rw [if_pos hd, if_neg (by omega), if_neg (by omega)]
 | c :: l, a, v, h, hv => by
  simp only [List.cons_append, Lib.parseUint10] at h ⊢
  split at h
  ·rename_i h1
   rw [if_pos h1]
   split at h
   ·cases h
   ·rename_i h2
    rw [if_neg h2]
    split at h
    ·cases h
    ·rename_i h3
     rw [if_neg h3]
     exact parse_snoc d hd l _ v h hv
  ·cases h
theorem parse_dec (u : Nat) (h : u < 18446744073709551610) : Lib.parseUint10 0 (Lib.decDigits u) = .ok u := by
 induction u using Nat.strongRecOn with
 | _ u ih =>
  rw [Lib.decDigits]
  split
  ·simp only [Lib.parseUint10]
   have e : (UInt8.ofNat (48 + u)).toNat = 48 + u := by rw [UInt8.toNat_ofNat']; omega
   rw [e, if_pos (by omega), if_neg (by omega), if_neg (by omega)]
   congr 1
   omega
  ·have e : (UInt8.ofNat (48 + u % 10)).toNat = 48 + u % 10 := by rw [UInt8.toNat_ofNat']; omega
   rw [parse_snoc _ (by rw [e]; omega) _ 0 (u / 10) (ih (u / 10) (by omega) (by omega)) (by omega), e]
   congr 1
   omega
theorem itoa_byte (n : Int) : ∀ b ∈ Lib.itoa n, b = 45 ∨ (48 ≤ b.toNat ∧ b.toNat ≤ 57) := fun b hb => by
 unfold Lib.itoa at hb
 split at hb
 ·rcases List.mem_cons.1 hb with rfl | hb
  ·exact .inl rfl
  ·exact .inr (dec_digit _ b hb)
 ·exact .inr (dec_digit _ b hb)
theorem atoi_itoa (n : Int) (h : numOk n) : Lib.atoiAll (Lib.itoa n) = .ok n := by
 unfold numOk at h
 unfold Lib.itoa
 split
 ·rename_i hn
  have hp := parse_dec n.natAbs (by omega)
  simp only [Lib.atoiAll]
  rw [if_pos (by decide)]
  unfold Lib.parseMag
  rw [if_neg (dec_ne _), hp]
  simp only
  rw [if_neg (by simp), if_neg (by omega)]
  have e45 : (45 : UInt8).toNat = 45 := rfl
  rw [if_pos e45]
  congr 1
  omega
 ·rename_i hn
  have hp := parse_dec n.toNat (by omega)
  cases hd : Lib.decDigits n.toNat with
  | nil => exact absurd hd (dec_ne _)
  | cons c r =>
   have hc := dec_digit n.toNat c (by rw [hd]; exact List.mem_cons_self ..)
   rw [hd] at hp
   simp only [Lib.atoiAll]
   rw [if_neg (by omega)]
   unfold Lib.parseMag
   rw [if_neg (by simp), hp]
   simp only
   rw [if_neg (by omega), if_neg (by omega), if_neg (by omega)]
   congr 1
   omega
theorem rvB_int {v : Vl} (h : rvB v = true) (hk : v.kind = 1) : v.word = [] ∧ -1000000000 ≤ v.num ∧ v.num ≤ 1000000000 := by
 unfold rvB at h
 rw [if_pos hk] at h
 simpa [and_assoc] using h
theorem rvB_text {v : Vl} (h : rvB v = true) (hk : v.kind ≠ 1) : v.kind = 2 ∧ v.num = 0 ∧ v.word.length ≤ 16 ∧ ∀ b ∈ v.word, badB b = false := by
 unfold rvB at h
 rw [if_neg hk] at h
 split at h
 ·rename_i h2
  simp only [Bool.and_eq_true, decide_eq_true_eq, Bool.not_eq_true', List.any_eq_false] at h
  exact ⟨h2, h.1.1, h.1.2, fun b hb => by simpa using h.2 b hb⟩
 ·cases h
theorem badB_39 : badB 39 = true := by decide
theorem badB_10 : badB 10 = true := by decide
theorem not_in_word {v : Vl} (h : rvB v = true) {b : UInt8} (hb : badB b = true) : b ∉ v.word := fun hm => by
 by_cases hk : v.kind = 1
 ·rw [(rvB_int h hk).1] at hm; cases hm
 ·have := (rvB_text h hk).2.2.2 b hm
  rw [hb] at this
  cases this
theorem value_whole {v : Vl} (h : rvB v = true) : Whole (valueL v) := by
 unfold valueL
 split
 ·refine whole_plain fun b hb => ?_
  rcases itoa_byte _ b hb with rfl | h2
  ·decide
  ·constructor
   ·rintro rfl; exact absurd h2.1 (by decide)
   ·rintro rfl; exact absurd h2.1 (by decide)
 ·exact whole_quoted (not_in_word h badB_39)
theorem value_free {v : Vl} (h : rvB v = true) : (10 : UInt8) ∉ valueL v := by
 unfold valueL
 split
 ·intro hb
  rcases itoa_byte _ _ hb with h2 | h2
  ·exact absurd h2 (by decide)
  ·exact absurd h2.1 (by decide)
 ·have := not_in_word h badB_10
  simp [this]
theorem quoted_itoa (n : Int) : quoted (Lib.itoa n) = false := by
 unfold quoted
 cases hi : Lib.itoa n with
 | nil => rfl
 | cons b l =>
  have hb := itoa_byte n b (by rw [hi]; exact List.mem_cons_self ..)
  have : b ≠ 39 := by
   rcases hb with rfl | h2
   ·decide
   ·rintro rfl; exact absurd h2.1 (by decide)
  simp [this]
theorem quoted_text (w : Bs) : quoted ([39] ++ w ++ [39]) = true := by
 unfold quoted
 simp
theorem unquote (w : Bs) : (([39] ++ w ++ [39] : Bs).take (([39] ++ w ++ [39] : Bs).length - 1)).drop 1 = w := by
 simp
theorem pvL_value {v : Vl} (h : rvB v = true) : pvL (valueL v) = some v := by
 unfold pvL pv0 valueL
 by_cases hk : v.kind = 1
 ·have h1 := rvB_int h hk
  rw [if_pos hk, quoted_itoa, if_neg (by simp), atoi_itoa _ ⟨by omega, by omega⟩]
  simp only
  have e : (⟨1, v.num, []⟩ : Vl) = v := by
   obtain ⟨k, n, w⟩ := v
   simp only at hk h1
   rw [hk, h1.1]
  simp only [if_true]
  rw [e, if_pos h]
 ·have h1 := rvB_text h hk
  rw [if_neg hk, quoted_text, if_pos rfl, unquote]
  have e : (⟨2, 0, v.word⟩ : Vl) = v := by
   obtain ⟨k, n, w⟩ := v
   simp only at h1
   rw [h1.1, h1.2.1]
  simp only
  rw [e, if_pos h]
theorem quoted_eq {s : Bs} (h : quoted s = true) : s = [39] ++ (s.take (s.length - 1)).drop 1 ++ [39] := by
 unfold quoted at h
 simp only [Bool.and_eq_true, decide_eq_true_eq] at h
 obtain ⟨⟨h2, h0⟩, h1⟩ := h
 match s, h2, h0, h1 with
 | [], h2, _, _ => simp at h2
 | [_], h2, _, _ => simp at h2
 | a :: b :: t, _, h0, h1 =>
  simp at h0
  subst h0
  obtain ⟨l, x, e⟩ : ∃ l x, b :: t = l ++ [x] := ⟨(b :: t).dropLast, (b :: t).getLast (by simp), (List.dropLast_concat_getLast (by simp)).symm⟩
  rw [e] at h1 ⊢
  simp at h1
  subst h1
  simp
theorem pvL_some {s : Bs} {v : Vl} (h : pvL s = some v) : valueL v = s ∧ rvB v = true := by
 unfold pvL at h
 split at h
 ·rename_i u hu
  split at h
  ·rename_i hr
   injection h with h
   subst h
   refine ⟨?_, hr⟩
   unfold pv0 at hu
   split at hu
   ·rename_i hq
    injection hu with hu
    subst hu
    unfold valueL
    rw [if_neg (by simp)]
    exact (quoted_eq hq).symm
   ·split at hu
    ·split at hu
     ·rename_i he
      injection hu with hu
      subst hu
      unfold valueL
      rw [if_pos rfl]
      exact he
     ·cases hu
    ·cases hu
  ·cases h
 ·cases h
def rowText (r : List Vl) : Bs := joinC 32 (r.map valueL)
theorem rowT_join (r : List Vl) : ∀ k, k ≤ r.length → rowT r k = joinC 32 ((r.take k).map valueL)
 | 0, _ => by simp [rowT, joinC]
 | k + 1, h => by
  have ih := rowT_join r k (by omega)
  unfold rowT
  rw [ih, List.getElem?_eq_getElem (by omega), List.take_succ_eq_append_getElem (by omega), List.map_append]
  cases k with
  | zero => simp [joinC]
  | succ k =>
   rw [if_neg (by omega), List.map_singleton, joinC_snoc]
   ·simp
   ·cases r with
    | nil => simp at h
    | cons a r => simp
theorem rowT_all (r : List Vl) : rowT r r.length = rowText r := by
 rw [rowT_join r r.length (Nat.le_refl _), List.take_length]; rfl
theorem valsP_spec : ∀ (ps : List Bs) (a r : List Vl), valsP ps a = some r ↔ ∃ q, r = a ++ q ∧ q.map valueL = ps ∧ ∀ v ∈ q, rvB v = true
 | [], a, r => by
  simp only [valsP, Option.some.injEq]
  constructor
  ·rintro rfl; exact ⟨[], by simp⟩
  ·rintro ⟨q, rfl, hq, _⟩
   have : q = [] := by simpa using hq
   simp [this]
 | p :: ps, a, r => by
  simp only [valsP]
  cases hp : pvL p with
  | none =>
   simp only
   constructor
   ·intro h; cases h
   ·rintro ⟨q, _, hq, hv⟩
    cases q with
    | nil => simp at hq
    | cons v q =>
     simp at hq
     have := pvL_value (hv v (List.mem_cons_self ..))
     rw [hq.1, hp] at this
     cases this
  | some v =>
   simp only
   rw [valsP_spec ps (a ++ [v]) r]
   have hv := pvL_some hp
   constructor
   ·rintro ⟨q, rfl, hq, hr⟩
    refine ⟨v :: q, by simp, by simp [hv.1, hq], fun x hx => ?_⟩
    rcases List.mem_cons.1 hx with rfl | hx
    ·exact hv.2
    ·exact hr x hx
   ·rintro ⟨q, rfl, hq, hr⟩
    cases q with
    | nil => simp at hq
    | cons u q =>
     simp at hq
     have := pvL_value (hr u (List.mem_cons_self ..))
     rw [hq.1, hp] at this
     injection this with this
     subst this
     exact ⟨q, by simp, hq.2, fun x hx => hr x (List.mem_cons_of_mem _ hx)⟩
theorem rowB_iff {cs : List Cl} {r : List Vl} : rowB cs r = true ↔ fits cs r = true ∧ ∀ v ∈ r, rvB v = true := by
 unfold rowB fits
 simp only [Bool.and_eq_true, decide_eq_true_eq, List.all_eq_true]
 constructor
 ·rintro ⟨h1, h2⟩
  refine ⟨⟨h1, fun p hp => ?_⟩, fun v hv => ?_⟩
  ·obtain ⟨i, hi, rfl⟩ := List.getElem_of_mem hp
   have hi' : i < r.length := by rw [List.length_zip] at hi; omega
   have := h2 i (List.mem_range.2 hi')
   unfold okAt at this
   rw [List.getElem?_eq_getElem hi', List.getElem?_eq_getElem (by omega)] at this
   simp at this
   simp [this.1]
  ·obtain ⟨i, hi, rfl⟩ := List.getElem_of_mem hv
   have := h2 i (List.mem_range.2 hi)
   unfold okAt at this
   rw [List.getElem?_eq_getElem hi, List.getElem?_eq_getElem (by omega)] at this
   simp at this
   exact this.2
 ·rintro ⟨⟨h1, h2⟩, h3⟩
  refine ⟨h1, fun i hi => ?_⟩
  have hi' : i < r.length := List.mem_range.1 hi
  unfold okAt
  rw [List.getElem?_eq_getElem hi', List.getElem?_eq_getElem (by omega)]
  have := h2 (r[i], cs[i]) (by
   rw [List.mem_iff_getElem]
   exact ⟨i, by rw [List.length_zip]; omega, by simp⟩)
  simp at this
  simp [this, h3 _ (List.getElem_mem hi')]
theorem lineL_row {cs : List Cl} {r : List Vl} (h : rowB cs r = true) (hne : r ≠ []) : lineL cs (rowText r) = some r := by
 obtain ⟨hf, hr⟩ := rowB_iff.1 h
 unfold lineL
 have hc : cutL (rowText r) = r.map valueL := by
  rw [cutL_eq]
  refine cut_join (by simpa using hne) fun u hu => ?_
  obtain ⟨v, hv, rfl⟩ := List.mem_map.1 hu
  exact value_whole (hr v hv)
 rw [hc, (valsP_spec _ [] r).2 ⟨r, rfl, rfl, hr⟩]
 simp only
 rw [if_pos hf]
theorem rowText_free {cs : List Cl} {r : List Vl} (h : rowB cs r = true) : (10 : UInt8) ∉ rowText r := by
 have hr := (rowB_iff.1 h).2
 unfold rowText
 clear h
 induction r with
 | nil => simp [joinC]
 | cons v r ih =>
  have h1 := value_free (hr v (List.mem_cons_self ..))
  have h2 := ih (fun x hx => hr x (List.mem_cons_of_mem _ hx))
  cases r with
  | nil => simpa [joinC] using h1
  | cons u r =>
   rw [List.map_cons, joinC_cons 32 _ (by simp)]
   simp only [List.mem_append, List.mem_cons, not_or]
   exact ⟨h1, by decide, h2⟩
theorem linesP_rows (cs : List Cl) (hc : cs ≠ []) : ∀ (rs : List (List Vl)) (i : Nat) (acc : List (List Vl)), (∀ r ∈ rs, rowB cs r = true) → (acc ++ rs).length ≤ 60 → linesP cs (rs.map rowText ++ [[]]) i acc = .ok ⟨cs, acc ++ rs⟩
 | [], i, acc, _, _ => by simp [linesP]
 | r :: rs, i, acc, hr, hn => by
  have h1 := hr r (List.mem_cons_self ..)
  have hne : r ≠ [] := by
   rintro rfl
   have := (rowB_iff.1 h1).1
   unfold fits at this
   simp at this
   exact hc (List.eq_nil_of_length_eq_zero this.symm)
  rw [List.map_cons, List.cons_append]
  unfold linesP
  rw [if_neg (by simp), lineL_row h1 hne]
  simp only
  simp only [List.length_append, List.length_cons] at hn
  rw [if_neg (by omega), linesP_rows cs hc rs (i + 1) (acc ++ [r]) (fun x hx => hr x (List.mem_cons_of_mem _ hx)) (by simp; omega)]
  simp
def colText (c : Cl) : Bs := c.name ++ 58 :: kindW c.kind.toNat
def headText (l : List Cl) : Bs := joinC 32 (l.map colText)
theorem colsT_join (l : List Cl) : ∀ k, k ≤ l.length → colsT l k = joinC 32 ((l.take k).map colText)
 | 0, _ => by simp [colsT, joinC]
 | k + 1, h => by
  have ih := colsT_join l k (by omega)
  unfold colsT
  rw [ih, List.getElem?_eq_getElem (by omega), List.take_succ_eq_append_getElem (by omega), List.map_append]
  cases k with
  | zero => simp [joinC, colText]
  | succ k =>
   rw [if_neg (by omega), List.map_singleton, joinC_snoc]
   ·simp [colText]
   ·cases l with
    | nil => simp at h
    | cons a l => simp
theorem colsT_all (l : List Cl) : colsT l l.length = headText l := by
 rw [colsT_join l l.length (Nat.le_refl _), List.take_length]; rfl
theorem colsB_col {l : List Cl} (h : colsB l = true) : ∀ c ∈ l, nameB c.name = true ∧ (c.kind = 1 ∨ c.kind = 2) := fun c hc => by
 obtain ⟨i, hi, rfl⟩ := List.getElem_of_mem hc
 unfold colsB at h
 simp only [Bool.and_eq_true, List.all_eq_true] at h
 have := h.2 i (List.mem_range.2 hi)
 unfold okCol at this
 rw [List.getElem?_eq_getElem hi] at this
 simp only [Bool.and_eq_true, Bool.or_eq_true, decide_eq_true_eq] at this
 exact this.1
theorem colsB_ne {l : List Cl} (h : colsB l = true) : l ≠ [] ∧ l.length ≤ 6 := by
 unfold colsB at h
 simp only [Bool.and_eq_true, decide_eq_true_eq] at h
 refine ⟨?_, h.1.2⟩
 rintro rfl
 simp at h
theorem name_free {s : Bs} (h : nameB s = true) : ∀ b ∈ s, lettersDigits.contains b = true := by
 unfold nameB at h
 simp only [Bool.and_eq_true, List.all_eq_true] at h
 exact h.2
theorem ld_no {b : UInt8} (h : lettersDigits.contains b = true) : b ≠ 10 ∧ b ≠ 32 ∧ b ≠ 58 := by
 refine ⟨?_, ?_, ?_⟩ <;> (rintro rfl; exact absurd h (by decide))
theorem kindW_free (j : Nat) : ∀ b ∈ kindW j, b ≠ 10 ∧ b ≠ 32 := by
 unfold kindW
 split <;> decide
theorem colText_free {c : Cl} (h : nameB c.name = true) : (10 : UInt8) ∉ colText c ∧ (32 : UInt8) ∉ colText c := by
 have hn := name_free h
 have hk := kindW_free c.kind.toNat
 unfold colText
 simp only [List.mem_append, List.mem_cons, not_or]
 refine ⟨⟨fun hm => (ld_no (hn _ hm)).1 rfl, by decide, fun hm => (hk _ hm).1 rfl⟩, fun hm => (ld_no (hn _ hm)).2.1 rfl, by decide, fun hm => (hk _ hm).2 rfl⟩
theorem colP_text {c : Cl} (h : nameB c.name = true) (hk : c.kind = 1 ∨ c.kind = 2) : colP (colText c) = c := by
 unfold colP colText
 rw [cutC_hit 58 _ _ (fun hm => (ld_no (name_free h _ hm)).2.2 rfl)]
 obtain ⟨n, k⟩ := c
 rcases hk with hk | hk
 ·simp only at hk; subst hk; rfl
 ·simp only at hk; subst hk; rfl
theorem colsP_head {l : List Cl} (h : colsB l = true) : colsP (headText l) = l := by
 have hc := colsB_col h
 unfold colsP headText
 rw [split_join 32 (by simpa using (colsB_ne h).1) (fun u hu => by
  obtain ⟨c, hcm, rfl⟩ := List.mem_map.1 hu
  exact (colText_free (hc c hcm).1).2), List.map_map]
 conv => rhs; rw [← List.map_id l]
 exact List.map_congr_left fun c hcm => colP_text (hc c hcm).1 (hc c hcm).2
theorem headText_free {l : List Cl} (h : colsB l = true) : (10 : UInt8) ∉ headText l := by
 have hc := colsB_col h
 unfold headText
 clear h
 induction l with
 | nil => simp [joinC]
 | cons v r ih =>
  have h1 := (colText_free (hc v (List.mem_cons_self ..)).1).1
  have h2 := ih (fun x hx => hc x (List.mem_cons_of_mem _ hx))
  cases r with
  | nil => simpa [joinC] using h1
  | cons u r =>
   rw [List.map_cons, joinC_cons 32 _ (by simp)]
   simp only [List.mem_append, List.mem_cons, not_or]
   exact ⟨h1, by decide, h2⟩
theorem rowsT_flat (rs : List (List Vl)) : ∀ k, k ≤ rs.length → rowsT rs k = (rs.take k).flatMap fun r => rowText r ++ [10]
 | 0, _ => by simp [rowsT]
 | k + 1, h => by
  have ih := rowsT_flat rs k (by omega)
  unfold rowsT
  rw [ih, List.getElem?_eq_getElem (by omega), List.take_succ_eq_append_getElem (by omega), List.flatMap_append]
  simp [rowT_all]
theorem join_lines : ∀ ls : List Bs, joinC 10 (ls ++ [[]]) = ls.flatMap fun l => l ++ [10]
 | [] => rfl
 | l :: ls => by
  rw [List.cons_append, joinC_cons 10 l (by simp), join_lines ls]
  simp
theorem print_join (t : Tb) : printL t = joinC 10 (headText t.cols :: t.rows.map rowText ++ [[]]) := by
 unfold printL
 rw [List.cons_append, joinC_cons 10 _ (by simp), join_lines, colsT_all, rowsT_flat _ _ (Nat.le_refl _), List.take_length, List.flatMap_map]
 simp
theorem rightB_parts {t : Tb} : rightB t = true ↔ colsB t.cols = true ∧ t.rows.length ≤ 60 ∧ ∀ r ∈ t.rows, rowB t.cols r = true := by
 unfold rightB
 simp only [Bool.and_eq_true, decide_eq_true_eq, List.all_eq_true]
 constructor
 ·rintro ⟨⟨a, b⟩, c⟩; exact ⟨a, b, c⟩
 ·rintro ⟨a, b, c⟩; exact ⟨⟨a, b⟩, c⟩
theorem parse_print {t : Tb} (h : rightB t = true) : parseL (printL t) = .ok t := by
 obtain ⟨hc, hn, hr⟩ := rightB_parts.1 h
 have hs : splitC 10 (printL t) = headText t.cols :: t.rows.map rowText ++ [[]] := by
  rw [print_join]
  refine split_join 10 (by simp) fun u hu => ?_
  rw [List.cons_append, List.mem_cons, List.mem_append] at hu
  rcases hu with rfl | hu | hu
  ·exact headText_free hc
  ·obtain ⟨r, hrm, rfl⟩ := List.mem_map.1 hu
   exact rowText_free (hr r hrm)
  ·rw [List.mem_singleton] at hu
   subst hu
   simp
 have e1 : (splitC 10 (printL t)).headD [] = headText t.cols := by rw [hs]; rfl
 have e2 : (splitC 10 (printL t)).tail = t.rows.map rowText ++ [[]] := by rw [hs]; rfl
 have e3 : colsP ((splitC 10 (printL t)).headD []) = t.cols := by rw [e1, colsP_head hc]
 unfold parseL
 rw [e2]
 simp only [e3]
 rw [if_pos hc, linesP_rows t.cols (colsB_ne hc).1 t.rows 0 [] hr (by simpa using hn)]
 simp
end Go.Proofs.YtpfkjejknlkkoaaGreatDoor
namespace Go.Proofs.YtpfkjejknlkkoaaGreatDoor
section
variable {α : Type}
structure Ord' (le : α → α → Bool) : Prop where
 total : ∀ a b, le a b = true ∨ le b a = true
 trans : ∀ a b c, le a b = true → le b c = true → le a c = true
variable {le : α → α → Bool}
theorem Ord'.flip (h : Ord' le) {a b : α} (hn : le a b = false) : le b a = true := by
 rcases h.total a b with h1 | h1
 ·rw [hn] at h1; cases h1
 ·exact h1
abbrev Srt (le : α → α → Bool) (l : List α) : Prop := l.Pairwise fun a b => le a b = true
abbrev mg (le : α → α → Bool) (a b : List α) : List α := List.merge a b le
theorem mg_nil (l : List α) : mg le l [] = l := by simp [mg]
theorem nil_mg (l : List α) : mg le [] l = l := by simp [mg]
theorem mg_cons (a : α) (l : List α) (b : α) (r : List α) : mg le (a :: l) (b :: r) = if le a b = true then a :: mg le l (b :: r) else b :: mg le (a :: l) r := by
 simp only [mg]
 exact List.cons_merge_cons ..
theorem mg_yes {a b : α} (h : le a b = true) (l r : List α) : mg le (a :: l) (b :: r) = a :: mg le l (b :: r) := by rw [mg_cons, if_pos h]
theorem mg_no {a b : α} (h : le a b = false) (l r : List α) : mg le (a :: l) (b :: r) = b :: mg le (a :: l) r := by rw [mg_cons, if_neg (by rw [h]; decide)]
theorem mg_len (a b : List α) : (mg le a b).length = a.length + b.length := by simp [mg, List.length_merge]
theorem mg_perm (a b : List α) : (mg le a b).Perm (a ++ b) := List.merge_perm_append le
theorem mg_split : ∀ (A1 A2 B1 B2 : List α), (∀ x ∈ A1, ∀ y ∈ B2, le x y = true) → (∀ x ∈ A2, ∀ y ∈ B1, le x y = false) → mg le (A1 ++ A2) (B1 ++ B2) = mg le A1 B1 ++ mg le A2 B2
 | [], A2, [], B2, _, _ => by simp [mg]
 | [], A2, y :: B1, B2, h1, h2 => by
  have ih := mg_split [] A2 B1 B2 h1 fun x hx z hz => h2 x hx z (List.mem_cons_of_mem _ hz)
  cases A2 with
  | nil => simp [mg]
  | cons x A2 =>
   rw [nil_mg] at ih ⊢
   rw [List.nil_append] at ih ⊢
   rw [List.cons_append, mg_no (h2 x (List.mem_cons_self ..) y (List.mem_cons_self ..)), ih, List.cons_append]
 | x :: A1, A2, [], B2, h1, h2 => by
  have ih := mg_split A1 A2 [] B2 (fun z hz => h1 z (List.mem_cons_of_mem _ hz)) h2
  cases B2 with
  | nil => simp [mg]
  | cons y B2 =>
   rw [mg_nil] at ih ⊢
   rw [List.nil_append] at ih ⊢
   rw [List.cons_append, mg_yes (h1 x (List.mem_cons_self ..) y (List.mem_cons_self ..)), ih, List.cons_append]
 | x :: A1, A2, y :: B1, B2, h1, h2 => by
  have ih1 := mg_split A1 A2 (y :: B1) B2 (fun z hz => h1 z (List.mem_cons_of_mem _ hz)) h2
  have ih2 := mg_split (x :: A1) A2 B1 B2 h1 fun z hz w hw => h2 z hz w (List.mem_cons_of_mem _ hw)
  rw [List.cons_append, List.cons_append, mg_cons, mg_cons]
  rw [List.cons_append] at ih1 ih2
  split
  ·rw [ih1, List.cons_append]
  ·rw [ih2, List.cons_append]
termination_by A1 _ B1 _ => A1.length + B1.length
theorem mg_left {A : List α} {y : α} {B : List α} (h : ∀ x ∈ A, le x y = true) : mg le A (y :: B) = A ++ (y :: B) := by
 induction A with
 | nil => rw [nil_mg]; rfl
 | cons x A ih => rw [mg_yes (h x (List.mem_cons_self ..)), ih fun z hz => h z (List.mem_cons_of_mem _ hz)]; rfl
theorem mg_append {A B : List α} (h : ∀ x ∈ A, ∀ y ∈ B, le x y = true) : mg le A B = A ++ B := by
 have := mg_split A [] [] B h fun x hx => by cases hx
 rw [List.append_nil, List.nil_append, mg_nil, nil_mg] at this
 exact this
theorem mg_assoc (ho : Ord' le) : ∀ (A B C : List α), mg le (mg le A B) C = mg le A (mg le B C)
 | [], B, C => by rw [nil_mg, nil_mg]
 | a :: A, [], C => by rw [mg_nil, nil_mg]
 | a :: A, b :: B, [] => by rw [mg_nil, mg_nil]
 | a :: A, b :: B, c :: C => by
  have i1 := mg_assoc ho A (b :: B) (c :: C)
  have i2 := mg_assoc ho (a :: A) B (c :: C)
  have i3 := mg_assoc ho (a :: A) (b :: B) C
  cases hab : le a b with
  | true =>
   rw [mg_yes hab] at i3 ⊢
   cases hbc : le b c with
   | true =>
    rw [mg_yes hbc] at i1 ⊢
    rw [mg_yes (ho.trans _ _ _ hab hbc), mg_yes hab, i1]
   | false =>
    rw [mg_no hbc] at i1 ⊢
    cases hac : le a c with
    | true => rw [mg_yes hac, mg_yes hac, i1]
    | false => rw [mg_no hac, mg_no hac, i3]
  | false =>
   rw [mg_no hab] at i3 ⊢
   cases hbc : le b c with
   | true =>
    rw [mg_yes hbc, mg_yes hbc, mg_no hab, i2]
   | false =>
    have hac : le a c = false := by
     cases h : le a c with
     | false => rfl
     | true => rw [ho.trans _ _ _ (ho.flip hab) h] at hbc; cases hbc
    rw [mg_no hbc, mg_no hbc, mg_no hac, i3]
termination_by A B C => A.length + B.length + C.length
theorem mg_srt (ho : Ord' le) {A B : List α} (hA : Srt le A) (hB : Srt le B) : Srt le (mg le A B) := by
 refine List.pairwise_merge (le := le) (fun a b c => ho.trans a b c) (fun a b => by rcases ho.total a b with h | h <;> simp [h]) A B hA hB
def stS (le : α → α → Bool) (l : List α) : List α := l.foldl (fun acc y => mg le acc [y]) []
theorem stS_snoc (l : List α) (y : α) : stS le (l ++ [y]) = mg le (stS le l) [y] := by
 unfold stS
 rw [List.foldl_append]
 rfl
theorem stS_perm (l : List α) : (stS le l).Perm l := by
 have : ∀ (l acc : List α), (l.foldl (fun acc y => mg le acc [y]) acc).Perm (acc ++ l) := fun l => by
  induction l with
  | nil => intro acc; rw [List.append_nil]; exact .refl _
  | cons y l ih =>
   intro acc
   rw [List.foldl_cons]
   refine (ih _).trans ?_
   have := (mg_perm (le := le) acc [y]).append_right l
   rwa [List.append_assoc] at this
 exact this l []
theorem stS_len (l : List α) : (stS le l).length = l.length := (stS_perm l).length_eq
theorem snoc_ind {p : List α → Prop} (h0 : p []) (hs : ∀ l y, p l → p (l ++ [y])) (l : List α) : p l := by
 rw [← List.reverse_reverse l]
 induction l.reverse with
 | nil => exact h0
 | cons y r ih => rw [List.reverse_cons]; exact hs _ _ ih
theorem stS_srt (ho : Ord' le) (l : List α) : Srt le (stS le l) := by
 refine snoc_ind (p := fun l => Srt le (stS le l)) List.Pairwise.nil (fun l y ih => ?_) l
 rw [stS_snoc]
 exact mg_srt ho ih (List.pairwise_singleton _ _)
theorem stS_append (ho : Ord' le) (A B : List α) : stS le (A ++ B) = mg le (stS le A) (stS le B) := by
 refine snoc_ind (p := fun B => stS le (A ++ B) = mg le (stS le A) (stS le B)) ?_ (fun l y ih => ?_) B
 ·rw [List.append_nil]
  exact (mg_nil _).symm
 ·rw [← List.append_assoc, stS_snoc, stS_snoc, ih, mg_assoc ho]
theorem stS_of_srt {l : List α} (h : Srt le l) : stS le l = l := by
 refine snoc_ind (p := fun l => Srt le l → stS le l = l) (fun _ => rfl) (fun l y ih h => ?_) l h
 rw [stS_snoc, ih (List.pairwise_append.1 h).1]
 exact mg_append fun x hx z hz => (List.pairwise_append.1 h).2.2 x hx z hz
theorem cut_at (ho : Ord' le) (y : α) : ∀ {A : List α}, Srt le A → ∃ A1 A2, A = A1 ++ A2 ∧ (∀ x ∈ A1, le x y = true) ∧ ∀ x ∈ A2, le x y = false
 | [], _ => ⟨[], [], rfl, (fun x hx => by cases hx), fun x hx => by cases hx⟩
 | a :: A, h => by
  rw [Srt, List.pairwise_cons] at h
  cases ha : le a y with
  | true =>
   obtain ⟨A1, A2, e, h1, h2⟩ := cut_at ho y h.2
   refine ⟨a :: A1, A2, by rw [e]; rfl, fun x hx => ?_, h2⟩
   rcases List.mem_cons.1 hx with rfl | hx
   ·exact ha
   ·exact h1 x hx
  | false =>
   refine ⟨[], a :: A, rfl, (fun x hx => by cases hx), fun x hx => ?_⟩
   rcases List.mem_cons.1 hx with rfl | hx
   ·exact ha
   ·cases hy : le x y with
    | false => rfl
    | true => rw [ho.trans _ _ _ (h.1 x hx) hy] at ha; cases ha
theorem mg_one {A1 A2 : List α} {y : α} (h1 : ∀ x ∈ A1, le x y = true) (h2 : ∀ x ∈ A2, le x y = false) : mg le (A1 ++ A2) [y] = A1 ++ y :: A2 := by
 have e := mg_split (le := le) A1 A2 [y] [] (fun x _ z hz => by cases hz) fun x hx z hz => by rw [List.mem_singleton.1 hz]; exact h2 x hx
 rw [List.append_nil, mg_nil] at e
 rw [e, mg_left h1, List.append_assoc]
 rfl
theorem one_mg {B1 B2 : List α} {x : α} (h1 : ∀ y ∈ B1, le x y = false) (h2 : ∀ y ∈ B2, le x y = true) : mg le [x] (B1 ++ B2) = B1 ++ x :: B2 := by
 have e := mg_split (le := le) [] [x] B1 B2 (fun z hz => by cases hz) fun z hz y hy => by rw [List.mem_singleton.1 hz]; exact h1 y hy
 rw [List.nil_append, nil_mg] at e
 rw [e, mg_append fun z hz y hy => by rw [List.mem_singleton.1 hz]; exact h2 y hy]
 rfl
theorem stS_filter (ho : Ord' le) (p : α → Bool) (l : List α) : (stS le l).filter p = stS le (l.filter p) := by
 refine snoc_ind (p := fun l => (stS le l).filter p = stS le (l.filter p)) rfl (fun l y ih => ?_) l
 rw [stS_snoc, List.filter_append]
 obtain ⟨A1, A2, e, h1, h2⟩ := cut_at ho y (stS_srt ho l)
 rw [e] at ih ⊢
 rw [mg_one h1 h2, List.filter_append]
 cases hp : p y with
 | true =>
  rw [List.filter_cons_of_pos hp, List.filter_cons_of_pos hp, List.filter_nil, stS_snoc, ← ih, List.filter_append, mg_one (fun x hx => h1 x (List.mem_filter.1 hx).1) fun x hx => h2 x (List.mem_filter.1 hx).1]
 | false =>
  rw [List.filter_cons_of_neg (by rw [hp]; decide), List.filter_cons_of_neg (by rw [hp]; decide), List.filter_nil, List.append_nil, ← ih, List.filter_append]
theorem srt_last {A : List α} (h : Srt le A) {x : α} (hx : x ∈ A) {n : Nat} (hn : n + 1 = A.length) (ho : Ord' le) : le x (A[n]'(by omega)) = true := by
 obtain ⟨i, hi, rfl⟩ := List.getElem_of_mem hx
 rcases Nat.lt_or_ge i n with hlt | hge
 ·exact List.pairwise_iff_getElem.1 h i n hi (by omega) hlt
 ·obtain rfl : i = n := by omega
  rcases ho.total A[i] A[i] with h | h <;> exact h
theorem srt_head {A : List α} (h : Srt le A) {x : α} (hx : x ∈ A) (hn : 0 < A.length) (ho : Ord' le) : le A[0] x = true := by
 obtain ⟨i, hi, rfl⟩ := List.getElem_of_mem hx
 rcases Nat.eq_zero_or_pos i with rfl | hlt
 ·rcases ho.total A[0] A[0] with h | h <;> exact h
 ·exact List.pairwise_iff_getElem.1 h 0 i (by omega) hi hlt
theorem ends_le (ho : Ord' le) {A B : List α} (hA : Srt le A) (hB : Srt le B) (h : ∀ n, n + 1 = A.length → ∀ (hn : n < A.length) (h0 : 0 < B.length), le A[n] B[0] = true) : ∀ x ∈ A, ∀ y ∈ B, le x y = true := by
 intro x hx y hy
 have hl := List.length_pos_of_mem hx
 have hl2 := List.length_pos_of_mem hy
 exact ho.trans _ _ _ (srt_last hA hx (n := A.length - 1) (by omega) ho) (ho.trans _ _ _ (h (A.length - 1) (by omega) (by omega) hl2) (srt_head hB hy hl2 ho))
theorem ends_no (ho : Ord' le) {A B : List α} (hA : Srt le A) (hB : Srt le B) (h : ∀ n, n + 1 = B.length → ∀ (hn : n < B.length) (h0 : 0 < A.length), le A[0] B[n] = false) : ∀ x ∈ A, ∀ y ∈ B, le x y = false := by
 intro x hx y hy
 have hl := List.length_pos_of_mem hx
 have hl2 := List.length_pos_of_mem hy
 have h1 := h (B.length - 1) (by omega) (by omega) hl
 cases hxy : le x y with
 | false => rfl
 | true =>
  rw [ho.trans _ _ _ (srt_head hA hx hl ho) (ho.trans _ _ _ hxy (srt_last hB hy (n := B.length - 1) (by omega) ho))] at h1
  cases h1
end
end Go.Proofs.YtpfkjejknlkkoaaGreatDoor
namespace Go.Proofs.YtpfkjejknlkkoaaGreatDoor
theorem blS : ∀ a b : Bs, Op.bytesLess a b = decide (a < b)
 | [], [] => by simp [Op.bytesLess]
 | _ :: _, [] => by simp [Op.bytesLess]
 | [], _ :: _ => by simp [Op.bytesLess]
 | x :: a, y :: b => by
  have ih := blS a b
  unfold Op.bytesLess
  rw [ih, Bool.eq_iff_iff]
  simp [List.cons_lt_cons_iff]
def leV (a b : Vl) : Bool := !lessB b a
theorem leV_iff (a b : Vl) : leV a b = true ↔ (a.kind < b.kind ∨ a.kind = b.kind ∧ ((a.kind = 1 ∧ a.num ≤ b.num) ∨ (a.kind ≠ 1 ∧ a.word ≤ b.word))) := by
 unfold leV lessB
 rw [Bool.not_eq_true']
 by_cases hk : b.kind = a.kind
 ·rw [if_pos hk]
  by_cases h1 : b.kind = 1
  ·rw [if_pos h1, decide_eq_false_iff_not]
   constructor
   ·intro h; exact .inr ⟨hk.symm, .inl ⟨by omega, by omega⟩⟩
   ·rintro (h | ⟨_, ⟨_, h⟩ | ⟨h, _⟩⟩)
    ·omega
    ·omega
    ·exact absurd (hk ▸ h1) h
  ·rw [if_neg h1, blS, decide_eq_false_iff_not, List.not_lt]
   constructor
   ·intro h; exact .inr ⟨hk.symm, .inr ⟨by omega, h⟩⟩
   ·rintro (h | ⟨_, ⟨h, _⟩ | ⟨_, h⟩⟩)
    ·omega
    ·omega
    ·exact h
 ·rw [if_neg hk, decide_eq_false_iff_not]
  constructor
  ·intro h; exact .inl (by omega)
  ·rintro (h | ⟨h, _⟩)
   ·omega
   ·omega
theorem leV_ord : Ord' leV where
 total a b := by
  rw [leV_iff, leV_iff]
  rcases Int.lt_trichotomy a.kind b.kind with h | h | h
  ·exact .inl (.inl h)
  ·by_cases h1 : a.kind = 1
   ·rcases Int.le_total a.num b.num with h2 | h2
    ·exact .inl (.inr ⟨h, .inl ⟨h1, h2⟩⟩)
    ·exact .inr (.inr ⟨h.symm, .inl ⟨by omega, h2⟩⟩)
   ·rcases List.le_total a.word b.word with h2 | h2
    ·exact .inl (.inr ⟨h, .inr ⟨h1, h2⟩⟩)
    ·exact .inr (.inr ⟨h.symm, .inr ⟨by omega, h2⟩⟩)
  ·exact .inr (.inl h)
 trans a b c := by
  rw [leV_iff, leV_iff, leV_iff]
  rintro (h1 | ⟨h1, h2⟩) (h3 | ⟨h3, h4⟩)
  ·exact .inl (by omega)
  ·exact .inl (by omega)
  ·exact .inl (by omega)
  ·refine .inr ⟨by omega, ?_⟩
   rcases h2 with ⟨a1, a2⟩ | ⟨a1, a2⟩ <;> rcases h4 with ⟨b1, b2⟩ | ⟨b1, b2⟩
   ·exact .inl ⟨a1, by omega⟩
   ·omega
   ·omega
   ·exact .inr ⟨a1, List.le_trans a2 b2⟩
def cmpK (ks : List Nat) (x z : List Vl) : Int := match ks with
 | [] => 0
 | k :: ks => if lessB (x.getD k ⟨0, 0, []⟩) (z.getD k ⟨0, 0, []⟩) = true then -1 else if lessB (z.getD k ⟨0, 0, []⟩) (x.getD k ⟨0, 0, []⟩) = true then 1 else cmpK ks x z
def leK (ks : List Nat) (x z : List Vl) : Bool := !decide (cmpK ks z x < 0)
theorem leK_cons (k : Nat) (ks : List Nat) (x z : List Vl) : leK (k :: ks) x z = (leV (x.getD k ⟨0, 0, []⟩) (z.getD k ⟨0, 0, []⟩) && (!leV (z.getD k ⟨0, 0, []⟩) (x.getD k ⟨0, 0, []⟩) || leK ks x z)) := by
 have ht := leV_ord.total (x.getD k ⟨0, 0, []⟩) (z.getD k ⟨0, 0, []⟩)
 unfold leK
 rw [cmpK]
 unfold leV at ht ⊢
 cases h1 : lessB (z.getD k ⟨0, 0, []⟩) (x.getD k ⟨0, 0, []⟩) with
 | true => simp
 | false =>
  cases h2 : lessB (x.getD k ⟨0, 0, []⟩) (z.getD k ⟨0, 0, []⟩) with
  | true => simp
  | false => simp
theorem leK_ord : ∀ ks : List Nat, Ord' (leK ks)
 | [] => ⟨fun _ _ => .inl rfl, fun _ _ _ _ _ => rfl⟩
 | k :: ks => by
  have ih := leK_ord ks
  have hv := leV_ord
  refine ⟨fun a b => ?_, fun a b c h1 h2 => ?_⟩
  ·rw [leK_cons, leK_cons]
   have t1 := hv.total (a.getD k ⟨0, 0, []⟩) (b.getD k ⟨0, 0, []⟩)
   have t2 := ih.total a b
   revert t1
   cases leV (a.getD k ⟨0, 0, []⟩) (b.getD k ⟨0, 0, []⟩) <;> cases leV (b.getD k ⟨0, 0, []⟩) (a.getD k ⟨0, 0, []⟩) <;> simp_all
  ·rw [leK_cons, Bool.and_eq_true, Bool.or_eq_true, Bool.not_eq_true'] at h1 h2 ⊢
   refine ⟨hv.trans _ _ _ h1.1 h2.1, ?_⟩
   rcases h1.2 with h3 | h3
   ·left
    cases hx : leV (c.getD k ⟨0, 0, []⟩) (a.getD k ⟨0, 0, []⟩) with
    | false => rfl
    | true => rw [hv.trans _ _ _ h2.1 hx] at h3; cases h3
   ·rcases h2.2 with h4 | h4
    ·left
     cases hx : leV (c.getD k ⟨0, 0, []⟩) (a.getD k ⟨0, 0, []⟩) with
     | false => rfl
     | true => rw [hv.trans _ _ _ hx h1.1] at h4; cases h4
    ·exact .inr (ih.trans _ _ _ h3 h4)
end Go.Proofs.YtpfkjejknlkkoaaGreatDoor
