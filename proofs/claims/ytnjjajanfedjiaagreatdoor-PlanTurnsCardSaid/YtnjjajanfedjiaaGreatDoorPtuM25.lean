/- Jobs, and whole flows, of their own tokens: plain. What a flow that was read is like: every part of the parser: plain. Columns and values compared as wholes. -/
import Derived.Test.YtnjjajanfedjiaaGreatDoorPtuM24
import Derived.Test.YtnjjajanfedjiaaGreatDoorPtuM5
set_option linter.unusedSimpArgs false
set_option linter.unusedVariables false
namespace Go.Proofs.YtnjjajanfedjiaaGreatDoor
end Go.Proofs.YtnjjajanfedjiaaGreatDoor
namespace Go.Proofs.YtnjjajanfedjiaaGreatDoor
def TkN (t : Tk) : Prop := TkW t ∧ (t.kind = 1 → t.text ≠ [] ∧ letC (t.text.headD 0) = true ∧ ∀ c ∈ t.text, ldC c = true)
def Sub (n : Nat) (l r : List Tk) : Prop := (∀ t ∈ r, t ∈ l) ∧ n + r.length ≤ l.length ∧ (EndT l → EndT r)
theorem Sub.refl (l : List Tk) : Sub 0 l l := ⟨fun _ h => h, by omega, fun h => h⟩
theorem Sub.trans {n m k : Nat} {l r q : List Tk} (h : Sub n l r) (g : Sub m r q) (hk : k ≤ n + m) : Sub k l q := ⟨fun t ht => h.1 t (g.1 t ht), by have := h.2.1; have := g.2.1; omega, fun e => g.2.2 (h.2.2 e)⟩
theorem Sub.tail {l : List Tk} (h : (hdT l).kind ≠ 5) : Sub 1 l l.tail := by
 cases l with
 | nil => exact absurd rfl h
 | cons t l => exact ⟨fun u hu => List.mem_cons_of_mem _ hu, by simp; omega, fun e => e.tail h⟩
def AllN (l : List Tk) : Prop := ∀ t ∈ l, TkN t
theorem AllN.sub {n : Nat} {l r : List Tk} (h : AllN l) (g : Sub n l r) : AllN r := fun t ht => h t (g.1 t ht)
theorem AllN.hd {l : List Tk} (h : AllN l) (hk : (hdT l).kind ≠ 5) : TkN (hdT l) := by
 cases l with
 | nil => exact absurd rfl hk
 | cons t l => exact h t (by simp)
theorem name_o {l r : List Tk} {s : Bs} (hn : AllN l) (h : nameP l = .ok (s, r)) : NameW s ∧ Sub 1 l r := by
 obtain ⟨h1, h2, rfl, rfl⟩ := nameP_ok h
 have hk : (hdT l).kind ≠ 5 := by rw [h1]; decide
 obtain ⟨_, h3⟩ := hn.hd hk
 obtain ⟨h4, h5, h6⟩ := h3 h1
 exact ⟨⟨h4, h2, h5, h6⟩, Sub.tail hk⟩
theorem must_o {l r : List Tk} {s : Bs} (h : mustP s l = .ok r) : Sub 1 l r := by
 obtain ⟨h1, rfl⟩ := mustP_ok h
 exact Sub.tail (seeP_kind h1)
theorem one_o {l r : List Tk} {s : Bs} {ms : List Bs} (h : oneP ms l = .ok (s, r)) : s ∈ ms ∧ Sub 1 l r := by
 obtain ⟨k, _, hk, rfl, h2, rfl⟩ := oneP_ok h
 exact ⟨List.getElem_mem hk, Sub.tail (seeP_kind h2)⟩
theorem namesGo_o : ∀ (n : Nat) {l r : List Tk} {acc ns : List Bs}, AllN l → namesGo n l acc = .ok (ns, r) → ∃ ys, ns = acc ++ ys ∧ (∀ s ∈ ys, NameW s) ∧ Sub (2 * ys.length) l r
 | 0, l, r, acc, ns, hn, h => by
  injection h with h
  injection h with h1 h2
  subst h1 h2
  exact ⟨[], by simp, (fun s hs => by cases hs), Sub.refl _⟩
 | n + 1, l, r, acc, ns, hn, h => by
  unfold namesGo at h
  split at h
  ·rename_i hs
   have s1 := Sub.tail (seeP_kind hs)
   obtain ⟨⟨s, r1⟩, h1, h⟩ := bind_ok h
   dsimp only at h h1
   obtain ⟨hw, s2⟩ := name_o (hn.sub s1) h1
   obtain ⟨ys, rfl, hy, s3⟩ := namesGo_o n ((hn.sub s1).sub s2) h
   exact ⟨s :: ys, by simp, fun u hu => by rcases List.mem_cons.1 hu with rfl | hu; exact hw; exact hy u hu, (s1.trans s2 (Nat.le_refl _)).trans s3 (by simp; omega)⟩
  ·injection h with h
   injection h with h1 h2
   subst h1 h2
   exact ⟨[], by simp, (fun s hs => by cases hs), Sub.refl _⟩
theorem namesPc_len (e : Bs) : ∀ l : List Bs, l ≠ [] → (namesPc l e).length + 1 = 2 * l.length
 | [], h => absurd rfl h
 | [a], _ => rfl
 | a :: b :: l, _ => by
  have := namesPc_len e (b :: l) (by simp)
  show (((1, a), []) :: ((4, [44]), [32]) :: namesPc (b :: l) e : List Pc).length + 1 = _
  simp only [List.length_cons] at this ⊢
  omega
theorem colsPc_len : ∀ l : List Cl, l ≠ [] → (colsPc l).length + 1 = 3 * l.length
 | [], h => absurd rfl h
 | [a], _ => rfl
 | a :: b :: l, _ => by
  have := colsPc_len (b :: l) (by simp)
  show (((1, a.name), [32]) :: ((1, kindW a.kind.toNat), []) :: ((4, [44]), [32]) :: colsPc (b :: l) : List Pc).length + 1 = _
  simp only [List.length_cons] at this ⊢
  omega
theorem names_o {l r : List Tk} {ns : List Bs} (hn : AllN l) (hl : l.length ≤ 1000) (h : namesP l = .ok (ns, r)) : NamesW ns ∧ ∀ e, Sub (namesPc ns e).length l r := by
 unfold namesP at h
 obtain ⟨⟨s, r1⟩, h1, h⟩ := bind_ok h
 dsimp only at h h1
 obtain ⟨hw, s1⟩ := name_o hn h1
 obtain ⟨ys, rfl, hy, s2⟩ := namesGo_o _ (hn.sub s1) h
 have s3 := s1.trans s2 (Nat.le_refl _)
 refine ⟨⟨by simp, by have := s3.2.1; simp; omega, fun u hu => ?_⟩, fun e => ⟨s3.1, ?_, s3.2.2⟩⟩
 ·rcases List.mem_append.1 hu with hu | hu
  ·rw [List.mem_singleton.1 hu]; exact hw
  ·exact hy u hu
 ·have := namesPc_len e ([s] ++ ys) (by simp)
  have := s3.2.1
  simp only [List.length_append, List.length_cons, List.length_nil] at *
  omega
theorem colsGo_o : ∀ (n : Nat) {l r : List Tk} {acc cs : List Cl}, AllN l → colsGo n l acc = .ok (cs, r) → l.length ≤ n → 0 < l.length → ∃ ys, cs = acc ++ ys ∧ ys ≠ [] ∧ (∀ c ∈ ys, NameW c.name ∧ (c.kind = 1 ∨ c.kind = 2)) ∧ Sub (3 * ys.length - 1) l r
 | 0, l, r, acc, cs, _, _, h1, h2 => by omega
 | n + 1, l, r, acc, cs, hn, h, hl, _ => by
  rw [colsGo_succ] at h
  obtain ⟨⟨s, r1⟩, h1, h⟩ := bind_ok h
  obtain ⟨⟨k, r2⟩, h2, h⟩ := bind_ok h
  dsimp only at h h2
  obtain ⟨hw, s1⟩ := name_o hn h1
  obtain ⟨hk, s2⟩ := one_o h2
  have hn2 := (hn.sub s1).sub s2
  have s12 := s1.trans s2 (Nat.le_refl _)
  have hkd : ∀ k : Bs, (if k = [116, 101, 120, 116] then (2 : Int) else 1) = 1 ∨ (if k = [116, 101, 120, 116] then (2 : Int) else 1) = 2 := fun k => by split; exact .inr rfl; exact .inl rfl
  split at h
  ·rename_i hs
   have s3 := Sub.tail (seeP_kind hs)
   have s123 := s12.trans s3 (Nat.le_refl _)
   have h5 : 0 < r2.tail.length ∨ r2.tail = [] := by cases r2.tail with | nil => exact .inr rfl | cons _ _ => exact .inl (by simp)
   rcases h5 with h5 | h5
   ·obtain ⟨ys, rfl, _, hy, s4⟩ := colsGo_o n (hn2.sub s3) h (by have := s123.2.1; omega) h5
    exact ⟨⟨s, if k = [116, 101, 120, 116] then 2 else 1⟩ :: ys, by simp, by simp, fun u hu => by rcases List.mem_cons.1 hu with rfl | hu; exact ⟨hw, hkd k⟩; exact hy u hu, s123.trans s4 (by simp; omega)⟩
   ·rw [h5] at h
    cases n with
    | zero => have := s123.2.1; omega
    | succ n =>
     rw [colsGo_succ] at h
     cases h
  ·injection h with h
   injection h with h1 h2
   subst h1 h2
   exact ⟨[⟨s, if k = [116, 101, 120, 116] then 2 else 1⟩], rfl, by simp, fun u hu => by rw [List.mem_singleton.1 hu]; exact ⟨hw, hkd k⟩, s12⟩
theorem fin_o {r q : List Tk} {v u : Vl} (hk : (hdT r).kind ≠ 5) (h : finP r v = .ok (u, q)) : u = v ∧ rvB v = true ∧ Sub 1 r q := by
 unfold finP at h
 split at h
 ·rename_i hv
  injection h with h
  injection h with h1 h2
  subst h1 h2
  exact ⟨rfl, hv, Sub.tail hk⟩
 ·cases h
theorem valPc_len (v : Vl) (e : Bs) : (valPc v e).length ≤ 2 ∧ (0 ≤ v.num ∨ v.kind ≠ 1 → (valPc v e).length = 1) := by
 unfold valPc
 split
 ·rename_i hk
  split
  ·rename_i hn
   exact ⟨by simp, fun h => by rcases h with h | h; omega; exact absurd hk h⟩
  ·exact ⟨by simp, fun _ => rfl⟩
 ·exact ⟨by simp, fun _ => rfl⟩
theorem value_o {l r : List Tk} {v : Vl} (hn : AllN l) (h : valueP l = .ok (v, r)) : rvB v = true ∧ ∀ e, Sub (valPc v e).length l r := by
 unfold valueP at h
 split at h
 ·rename_i hs
  have s1 := Sub.tail (seeP_kind hs)
  unfold val1P at h
  split at h
  ·cases h
  ·split at h
   ·rename_i hk
    obtain ⟨rfl, hv, s2⟩ := fin_o (by rw [hk]; decide) h
    exact ⟨hv, fun e => s1.trans s2 (valPc_len _ e).1⟩
   ·split at h
    ·rename_i hk
     split at h
     ·obtain ⟨rfl, hv, s2⟩ := fin_o (by rw [hk]; decide) h
      exact ⟨hv, fun e => s1.trans s2 (valPc_len _ e).1⟩
     ·cases h
    ·cases h
 ·unfold val1P at h
  split at h
  ·cases h
  ·split at h
   ·rename_i hk
    obtain ⟨rfl, hv, s2⟩ := fin_o (by rw [hk]; decide) h
    exact ⟨hv, fun e => by rw [(valPc_len _ e).2 (.inr (show (2 : Int) ≠ 1 by decide))]; exact s2⟩
   ·split at h
    ·rename_i hk
     split at h
     ·rename_i n ha
      have hk5 : (hdT l).kind ≠ 5 := by rw [hk]; decide
      obtain ⟨rfl, hv, s2⟩ := fin_o hk5 h
      have hp := atoi_pos ha ((hn.hd hk5).1.2.1 hk)
      exact ⟨hv, fun e => by rw [(valPc_len _ e).2 (.inl (by simpa using hp.1))]; exact s2⟩
     ·cases h
    ·cases h
theorem arg_o {l r : List Tk} {a : Ar} (hn : AllN l) (h : argP l = .ok (a, r)) : ArgW a ∧ ∀ e, Sub (argPc a e).length l r := by
 unfold argP at h
 split at h
 ·obtain ⟨⟨s, r1⟩, h1, h⟩ := bind_ok h
  injection h with h
  injection h with h2 h3
  subst h2 h3
  obtain ⟨hw, s1⟩ := name_o hn h1
  exact ⟨.inl ⟨hw, rfl⟩, fun e => by unfold argPc; rw [if_neg hw.ne]; exact s1⟩
 ·obtain ⟨⟨v, r1⟩, h1, h⟩ := bind_ok h
  injection h with h
  injection h with h2 h3
  subst h2 h3
  obtain ⟨hv, s1⟩ := value_o hn h1
  exact ⟨.inr ⟨rfl, hv⟩, fun e => by unfold argPc; rw [if_pos rfl]; exact s1 e⟩
theorem out_o {l r : List Tk} {x : Pb} (hn : AllN l) (h : outP l = .ok (x, r)) : OutW x ∧ Sub (outPc x).length l r := by
 unfold outP at h
 obtain ⟨q1, g1, h⟩ := bind_ok h
 try dsimp only at h
 have s1 := must_o g1
 have hn := hn.sub s1
 have S := s1
 obtain ⟨⟨a2, q2⟩, g2, h⟩ := bind_ok h
 try dsimp only at h g2
 obtain ⟨w2, s2⟩ := name_o hn g2
 have hn := hn.sub s2
 have S := S.trans s2 (Nat.le_refl _)
 obtain ⟨q3, g3, h⟩ := bind_ok h
 try dsimp only at h
 have s3 := must_o g3
 have hn := hn.sub s3
 have S := S.trans s3 (Nat.le_refl _)
 obtain ⟨⟨a4, q4⟩, g4, h⟩ := bind_ok h
 try dsimp only at h g4
 obtain ⟨w4, s4⟩ := name_o hn g4
 have hn := hn.sub s4
 have S := S.trans s4 (Nat.le_refl _)
 obtain ⟨q5, g5, h⟩ := bind_ok h
 try dsimp only at h
 have s5 := must_o g5
 have hn := hn.sub s5
 have S := S.trans s5 (Nat.le_refl _)
 injection h with h
 injection h with h1 h2
 subst h1 h2
 exact ⟨⟨w2, w4⟩, S⟩
theorem in_o {l r : List Tk} {x : In} (hn : AllN l) (hl : l.length ≤ 1000) (he : EndT l) (h : inputP l = .ok (x, r)) : InW x ∧ Sub (inPc x).length l r := by
 unfold inputP at h
 obtain ⟨q1, g1, h⟩ := bind_ok h
 try dsimp only at h
 have s1 := must_o g1
 have hn := hn.sub s1
 have S := s1
 obtain ⟨⟨a2, q2⟩, g2, h⟩ := bind_ok h
 try dsimp only at h g2
 obtain ⟨w2, s2⟩ := name_o hn g2
 have hn := hn.sub s2
 have S := S.trans s2 (Nat.le_refl _)
 obtain ⟨q3, g3, h⟩ := bind_ok h
 try dsimp only at h
 have s3 := must_o g3
 have hn := hn.sub s3
 have S := S.trans s3 (Nat.le_refl _)
 obtain ⟨⟨a4, q4⟩, g4, h⟩ := bind_ok h
 try dsimp only at h g4
 obtain ⟨ys, e4, ne4, w4, s4⟩ := colsGo_o _ hn g4 (Nat.le_refl _) (S.2.2 he).pos
 have hn := hn.sub s4
 have S := S.trans s4 (Nat.le_refl _)
 obtain ⟨q5, g5, h⟩ := bind_ok h
 try dsimp only at h
 have s5 := must_o g5
 have hn := hn.sub s5
 have S := S.trans s5 (Nat.le_refl _)
 injection h with h
 injection h with h1 h2
 subst h1 h2
 rw [List.nil_append] at e4
 subst e4
 have hl4 := colsPc_len a4 ne4
 have hS := S.2.1
 refine ⟨⟨w2, ne4, by show a4.length ≤ 1000; omega, w4⟩, S.1, ?_, S.2.2⟩
 show (((1, [105, 110]), [32]) :: ((1, a2), []) :: ((4, [58]), [32]) :: (colsPc a4 ++ [((4, [59]), [10])]) : List Pc).length + _ ≤ _
 simp only [List.length_cons, List.length_append, List.length_nil]
 omega
theorem retry_o {l r : List Tk} {n : Int} (hn : AllN l) (h : retryP l = .ok (n, r)) : (0 ≤ n ∧ n ≤ 5) ∧ Sub (retryPc n).length l r := by
 unfold retryP at h
 split at h
 ·rename_i hs
  have s1 := Sub.tail (seeP_kind hs)
  split at h
  ·cases h
  ·rename_i hk
   have hk2 : (hdT l.tail).kind = 2 := by
    by_cases e : (hdT l.tail).kind = 2
    ·exact e
    ·exact absurd e hk
   have hk5 : (hdT l.tail).kind ≠ 5 := by rw [hk2]; decide
   split at h
   ·rename_i n' ha
    have hp := atoi_pos ha (((hn.sub s1).hd hk5).1.2.1 hk2)
    split at h
    ·cases h
    ·injection h with h
     injection h with h1 h2
     subst h1 h2
     refine ⟨⟨hp.1, by omega⟩, s1.trans (Sub.tail hk5) ?_⟩
     unfold retryPc
     split
     ·exact Nat.le_refl _
     ·exact Nat.zero_le _
   ·cases h
 ·injection h with h
  injection h with h1 h2
  subst h1 h2
  exact ⟨⟨Int.le_refl _, by decide⟩, Sub.refl _⟩
theorem of_o {l r : List Tk} {j j2 : Jb} (hn : AllN l) (h : ofP j l = .ok (j2, r)) : (∃ a c, NameW a ∧ NameW c ∧ j2 = { j with ins := j.ins ++ [a], cols := j.cols ++ [c] }) ∧ Sub 3 l r := by
 unfold ofP at h
 obtain ⟨⟨a1, q1⟩, g1, h⟩ := bind_ok h
 try dsimp only at h g1
 obtain ⟨w1, s1⟩ := name_o hn g1
 have hn := hn.sub s1
 have S := s1
 obtain ⟨q2, g2, h⟩ := bind_ok h
 try dsimp only at h
 have s2 := must_o g2
 have hn := hn.sub s2
 have S := S.trans s2 (Nat.le_refl _)
 obtain ⟨⟨a3, q3⟩, g3, h⟩ := bind_ok h
 try dsimp only at h g3
 obtain ⟨w3, s3⟩ := name_o hn g3
 have hn := hn.sub s3
 have S := S.trans s3 (Nat.le_refl _)
 injection h with h
 injection h with h1 h2
 subst h1 h2
 exact ⟨⟨a1, a3, w1, w3, rfl⟩, S⟩
theorem join_o {l r : List Tk} {j j2 : Jb} (hn : AllN l) (h : joinP j l = .ok (j2, r)) : (∃ a c b d, NameW a ∧ NameW b ∧ NameW c ∧ NameW d ∧ j2 = { j with ins := j.ins ++ [a] ++ [b], cols := j.cols ++ [c] ++ [d] }) ∧ Sub 7 l r := by
 unfold joinP at h
 obtain ⟨⟨j1, r1⟩, h1, h⟩ := bind_ok h
 dsimp only at h h1
 obtain ⟨⟨a, c, ha, hc, rfl⟩, s1⟩ := of_o hn h1
 obtain ⟨r2, h2, h⟩ := bind_ok h
 have s2 := must_o h2
 obtain ⟨⟨b, d, hb, hd, rfl⟩, s3⟩ := of_o ((hn.sub s1).sub s2) h
 exact ⟨⟨a, c, b, d, ha, hb, hc, hd, rfl⟩, (s1.trans s2 (Nat.le_refl _)).trans s3 (by omega)⟩
theorem union_o {l r : List Tk} {j j2 : Jb} (hn : AllN l) (h : unionP j l = .ok (j2, r)) : (∃ a b, NameW a ∧ NameW b ∧ j2 = { j with ins := j.ins ++ [a] ++ [b] }) ∧ Sub 3 l r := by
 unfold unionP at h
 obtain ⟨⟨a1, q1⟩, g1, h⟩ := bind_ok h
 try dsimp only at h g1
 obtain ⟨w1, s1⟩ := name_o hn g1
 have hn := hn.sub s1
 have S := s1
 obtain ⟨q2, g2, h⟩ := bind_ok h
 try dsimp only at h
 have s2 := must_o g2
 have hn := hn.sub s2
 have S := S.trans s2 (Nat.le_refl _)
 obtain ⟨⟨a3, q3⟩, g3, h⟩ := bind_ok h
 try dsimp only at h g3
 obtain ⟨w3, s3⟩ := name_o hn g3
 have hn := hn.sub s3
 have S := S.trans s3 (Nat.le_refl _)
 injection h with h
 injection h with h1 h2
 subst h1 h2
 exact ⟨⟨a1, a3, w1, w3, rfl⟩, S⟩
theorem where_o {l r : List Tk} {j j2 : Jb} (hn : AllN l) (h : whereP j l = .ok (j2, r)) : (∃ s o a, NameW s ∧ o ∈ cmpL ∧ ArgW a ∧ j2 = { j with left := ⟨s, zV⟩, op := o, right := a } ∧ Sub (3 + (argPc a []).length) l r) := by
 unfold whereP at h
 obtain ⟨q1, g1, h⟩ := bind_ok h
 try dsimp only at h
 have s1 := must_o g1
 have hn := hn.sub s1
 have S := s1
 obtain ⟨⟨a2, q2⟩, g2, h⟩ := bind_ok h
 try dsimp only at h g2
 obtain ⟨w2, s2⟩ := name_o hn g2
 have hn := hn.sub s2
 have S := S.trans s2 (Nat.le_refl _)
 obtain ⟨⟨a3, q3⟩, g3, h⟩ := bind_ok h
 try dsimp only at h g3
 obtain ⟨w3, s3⟩ := one_o g3
 have hn := hn.sub s3
 have S := S.trans s3 (Nat.le_refl _)
 obtain ⟨⟨a4, q4⟩, g4, h⟩ := bind_ok h
 try dsimp only at h g4
 obtain ⟨w4, s4⟩ := arg_o hn g4
 have s4 := s4 []
 have hn := hn.sub s4
 have S := S.trans s4 (Nat.le_refl _)
 injection h with h
 injection h with h1 h2
 subst h1 h2
 exact ⟨a2, a3, a4, w2, w3, w4, rfl, S⟩
theorem set_o {l r : List Tk} {j j2 : Jb} (hn : AllN l) (h : setP j l = .ok (j2, r)) : (∃ c a o b, NameW c ∧ ArgW a ∧ o ∈ [[43], [45], [42]] ∧ ArgW b ∧ j2 = { j with cols := [c], left := a, op := o, right := b } ∧ Sub (3 + (argPc a [32]).length + 1 + (argPc b []).length) l r) := by
 unfold setP at h
 obtain ⟨q1, g1, h⟩ := bind_ok h
 try dsimp only at h
 have s1 := must_o g1
 have hn := hn.sub s1
 have S := s1
 obtain ⟨⟨a2, q2⟩, g2, h⟩ := bind_ok h
 try dsimp only at h g2
 obtain ⟨w2, s2⟩ := name_o hn g2
 have hn := hn.sub s2
 have S := S.trans s2 (Nat.le_refl _)
 obtain ⟨q3, g3, h⟩ := bind_ok h
 try dsimp only at h
 have s3 := must_o g3
 have hn := hn.sub s3
 have S := S.trans s3 (Nat.le_refl _)
 obtain ⟨⟨a4, q4⟩, g4, h⟩ := bind_ok h
 try dsimp only at h g4
 obtain ⟨w4, s4⟩ := arg_o hn g4
 have s4 := s4 [32]
 have hn := hn.sub s4
 have S := S.trans s4 (Nat.le_refl _)
 obtain ⟨⟨a5, q5⟩, g5, h⟩ := bind_ok h
 try dsimp only at h g5
 obtain ⟨w5, s5⟩ := one_o g5
 have hn := hn.sub s5
 have S := S.trans s5 (Nat.le_refl _)
 obtain ⟨⟨a6, q6⟩, g6, h⟩ := bind_ok h
 try dsimp only at h g6
 obtain ⟨w6, s6⟩ := arg_o hn g6
 have s6 := s6 []
 have hn := hn.sub s6
 have S := S.trans s6 (Nat.le_refl _)
 injection h with h
 injection h with h1 h2
 subst h1 h2
 exact ⟨a2, a4, a5, a6, w2, w4, w5, w6, rfl, S⟩
theorem by_o {l r : List Tk} {j j2 : Jb} (hn : AllN l) (hl : l.length ≤ 1000) (h : byP j l = .ok (j2, r)) : (∃ ns, NamesW ns ∧ j2 = { j with cols := ns } ∧ Sub (1 + (namesPc ns []).length) l r) := by
 unfold byP at h
 obtain ⟨q1, g1, h⟩ := bind_ok h
 try dsimp only at h
 have s1 := must_o g1
 have hn := hn.sub s1
 have S := s1
 obtain ⟨⟨a2, q2⟩, g2, h⟩ := bind_ok h
 try dsimp only at h g2
 obtain ⟨w2, s2⟩ := names_o hn (by have := S.2.1; omega) g2
 have s2 := s2 []
 have hn := hn.sub s2
 have S := S.trans s2 (Nat.le_refl _)
 injection h with h
 injection h with h1 h2
 subst h1 h2
 exact ⟨a2, w2, rfl, S⟩
theorem group_o {l r : List Tk} {j j2 : Jb} (hn : AllN l) (h : groupP j l = .ok (j2, r)) : (∃ c o d, NameW c ∧ NameW d ∧ o ∈ [[115, 117, 109], [109, 97, 120]] ∧ j2 = { j with cols := [c, d], op := o } ∧ Sub 4 l r) := by
 unfold groupP at h
 obtain ⟨q1, g1, h⟩ := bind_ok h
 try dsimp only at h
 have s1 := must_o g1
 have hn := hn.sub s1
 have S := s1
 obtain ⟨⟨a2, q2⟩, g2, h⟩ := bind_ok h
 try dsimp only at h g2
 obtain ⟨w2, s2⟩ := name_o hn g2
 have hn := hn.sub s2
 have S := S.trans s2 (Nat.le_refl _)
 obtain ⟨⟨a3, q3⟩, g3, h⟩ := bind_ok h
 try dsimp only at h g3
 obtain ⟨w3, s3⟩ := one_o g3
 have hn := hn.sub s3
 have S := S.trans s3 (Nat.le_refl _)
 obtain ⟨⟨a4, q4⟩, g4, h⟩ := bind_ok h
 try dsimp only at h g4
 obtain ⟨w4, s4⟩ := name_o hn g4
 have hn := hn.sub s4
 have S := S.trans s4 (Nat.le_refl _)
 injection h with h
 injection h with h1 h2
 subst h1 h2
 exact ⟨a2, a3, a4, w2, w4, w3, rfl, S⟩
theorem cmp_len : ∀ o ∈ cmpL, o.length ≤ 10 := by decide
theorem ari_len : ∀ o ∈ ([[43], [45], [42]] : List Bs), o.length ≤ 10 := by decide
theorem agg_len : ∀ o ∈ ([[115, 117, 109], [109, 97, 120]] : List Bs), o.length ≤ 10 := by decide
theorem body_o {l r : List Tk} {at_ : Int} {outs : List Bs} {rt : Int} {j : Jb} (hn : AllN l) (hl : l.length ≤ 1000) (h : bodyP (job0 at_ outs rt) l = .ok (j, r)) : (j.outs = outs ∧ j.retry = rt ∧ ArgZ j.left ∧ ArgZ j.right ∧ j.op.length ≤ 10 ∧ BodyW j) ∧ Sub (bodyPc j).length l r := by
 unfold bodyP at h
 split at h
 ·cases h
 rename_i h0
 have hk : (hdT l).kind ≠ 5 := by
  intro e
  exact h0 (.inr (by rw [e]; decide))
 have s0 := Sub.tail hk
 have hn0 := hn.sub s0
 have hl0 : l.tail.length ≤ 1000 := by have := s0.2.1; omega
 have z : ArgZ ⟨[], zV⟩ := .inl rfl
 have hne : ¬ wordIx (hdT l).text = 0 := fun e => h0 (.inl e)
 have hlt := wordIx_lt (hdT l).text
 generalize wordIx (hdT l).text = c at h hne hlt
 clear h0
 split at h
 ·rename_i e
  subst e
  obtain ⟨⟨a, c, b, d, ha, hb, hc, hd, rfl⟩, s1⟩ := join_o hn0 h
  exact ⟨⟨rfl, rfl, z, z, Nat.zero_le 10, .inl ⟨rfl, a, b, c, d, ha, hb, hc, hd, rfl, rfl⟩⟩, s0.trans s1 (Nat.le_refl _)⟩
 split at h
 ·rename_i e
  subst e
  obtain ⟨⟨a, b, ha, hb, rfl⟩, s1⟩ := union_o hn0 h
  exact ⟨⟨rfl, rfl, z, z, Nat.zero_le 10, .inr (.inl ⟨rfl, a, b, ha, hb, rfl, rfl⟩)⟩, s0.trans s1 (Nat.le_refl _)⟩
 obtain ⟨⟨a, q⟩, h1, h⟩ := bind_ok h
 dsimp only at h h1
 obtain ⟨ha, s1⟩ := name_o hn0 h1
 have hn1 := hn0.sub s1
 have hl1 : q.length ≤ 1000 := by have := s1.2.1; omega
 have s01 := s0.trans s1 (Nat.le_refl _)
 rename_i n7 n5
 obtain rfl | rfl | rfl | rfl | rfl | rfl | rfl : c = 1 ∨ c = 2 ∨ c = 3 ∨ c = 4 ∨ c = 6 ∨ c = 8 ∨ c = 9 := by omega
 ·obtain ⟨s, o, b, hs, ho, hb, rfl, s2⟩ := where_o hn1 (show whereP _ q = _ from h)
  exact ⟨⟨rfl, rfl, .inr (.inl ⟨hs, rfl⟩), .inr hb, cmp_len o ho, .inr (.inr (.inr (.inl ⟨.inl rfl, a, s, ha, hs, rfl, rfl, rfl, ho, hb⟩)))⟩, s01.trans s2 (by
   show (((1, wordW 1), [32]) :: ((1, a), [32]) :: ((1, [119, 104, 101, 114, 101]), [32]) :: ((1, s), [32]) :: ((4, o), [32]) :: argPc b [] : List Pc).length ≤ _
   simp only [List.length_cons]; omega)⟩
 ·obtain ⟨c, x, o, b, hc, hx, ho, hb, rfl, s2⟩ := set_o hn1 (show setP _ q = _ from h)
  exact ⟨⟨rfl, rfl, .inr hx, .inr hb, ari_len o ho, .inr (.inr (.inr (.inr (.inl ⟨rfl, a, c, ha, hc, rfl, rfl, hx, ho, hb⟩))))⟩, s01.trans s2 (by
   show (((1, wordW 2), [32]) :: ((1, a), []) :: ((4, [58]), [32]) :: ((1, c), [32]) :: ((4, [61]), [32]) :: (argPc x [32] ++ ((4, o), [32]) :: argPc b []) : List Pc).length ≤ _
   simp only [List.length_cons, List.length_append]; omega)⟩
 ·obtain ⟨ns, hw, rfl, s2⟩ := by_o hn1 hl1 (show byP _ q = _ from h)
  exact ⟨⟨rfl, rfl, z, z, Nat.zero_le 10, .inr (.inr (.inr (.inr (.inr (.inl ⟨.inl rfl, a, ha, rfl, hw⟩)))))⟩, s01.trans s2 (by
   show (((1, wordW 3), [32]) :: ((1, a), [32]) :: ((1, [98, 121]), [32]) :: namesPc ns [] : List Pc).length ≤ _
   simp only [List.length_cons]; omega)⟩
 ·obtain ⟨ns, hw, rfl, s2⟩ := by_o hn1 hl1 (show byP _ q = _ from h)
  exact ⟨⟨rfl, rfl, z, z, Nat.zero_le 10, .inr (.inr (.inr (.inr (.inr (.inl ⟨.inr rfl, a, ha, rfl, hw⟩)))))⟩, s01.trans s2 (by
   show (((1, wordW 4), [32]) :: ((1, a), [32]) :: ((1, [98, 121]), [32]) :: namesPc ns [] : List Pc).length ≤ _
   simp only [List.length_cons]; omega)⟩
 ·have h' : (Except.ok (⟨at_, 6, outs, [] ++ [a], [], [], ⟨[], zV⟩, ⟨[], zV⟩, rt⟩, q) : Except (Int × Int) (Jb × List Tk)) = .ok (j, r) := h
  injection h' with h'
  injection h' with h2 h3
  subst h2 h3
  exact ⟨⟨rfl, rfl, z, z, Nat.zero_le 10, .inr (.inr (.inl ⟨rfl, a, ha, rfl, rfl⟩))⟩, s01⟩
 ·obtain ⟨c, o, d, hc, hd, ho, rfl, s2⟩ := group_o hn1 (show groupP _ q = _ from h)
  exact ⟨⟨rfl, rfl, z, z, agg_len o ho, .inr (.inr (.inr (.inr (.inr (.inr ⟨rfl, a, c, d, ha, hc, hd, rfl, rfl, ho⟩)))))⟩, s01.trans s2 (by
   show (((1, wordW 8), [32]) :: ((1, a), [32]) :: ((1, [98, 121]), [32]) :: ((1, c), [32]) :: ((1, o), [32]) :: ((1, d), []) :: [] : List Pc).length ≤ _
   simp only [List.length_cons, List.length_nil]; omega)⟩
 ·obtain ⟨s, o, b, hs, ho, hb, rfl, s2⟩ := where_o hn1 (show whereP _ q = _ from h)
  exact ⟨⟨rfl, rfl, .inr (.inl ⟨hs, rfl⟩), .inr hb, cmp_len o ho, .inr (.inr (.inr (.inl ⟨.inr rfl, a, s, ha, hs, rfl, rfl, rfl, ho, hb⟩)))⟩, s01.trans s2 (by
   show (((1, wordW 9), [32]) :: ((1, a), [32]) :: ((1, [119, 104, 101, 114, 101]), [32]) :: ((1, s), [32]) :: ((4, o), [32]) :: argPc b [] : List Pc).length ≤ _
   simp only [List.length_cons]; omega)⟩
theorem job_o {l r : List Tk} {x : Jb} (hn : AllN l) (hl : l.length ≤ 1000) (h : jobP l = .ok (x, r)) : JobW x ∧ Sub (jobPc x).length l r := by
 unfold jobP at h
 obtain ⟨q1, g1, h⟩ := bind_ok h
 have s1 := must_o g1
 have hn := hn.sub s1
 obtain ⟨⟨os, q2⟩, g2, h⟩ := bind_ok h
 dsimp only at h g2
 obtain ⟨w2, s2⟩ := names_o hn (by have := s1.2.1; omega) g2
 have s2 := s2 [32]
 have hn := hn.sub s2
 have S := s1.trans s2 (Nat.le_refl _)
 obtain ⟨⟨n, q3⟩, g3, h⟩ := bind_ok h
 dsimp only at h g3
 obtain ⟨w3, s3⟩ := retry_o hn g3
 have hn := hn.sub s3
 have S := S.trans s3 (Nat.le_refl _)
 obtain ⟨q4, g4, h⟩ := bind_ok h
 have s4 := must_o g4
 have hn := hn.sub s4
 have S := S.trans s4 (Nat.le_refl _)
 obtain ⟨⟨j, q5⟩, g5, h⟩ := bind_ok h
 dsimp only at h g5
 obtain ⟨⟨o1, o2, o3, o4, o5, o6⟩, s5⟩ := body_o hn (by have := S.2.1; omega) g5
 have S := S.trans s5 (Nat.le_refl _)
 obtain ⟨q6, g6, h⟩ := bind_ok h
 have s6 := must_o g6
 have S := S.trans s6 (Nat.le_refl _)
 injection h with h
 injection h with h1 h2
 subst h1 h2
 refine ⟨⟨by rw [o1]; exact w2, by rw [o2]; exact w3.1, by rw [o2]; exact w3.2, o3, o4, o5, o6⟩, S.1, ?_, S.2.2⟩
 have := S.2.1
 unfold jobPc
 rw [o1, o2]
 simp only [List.length_cons, List.length_append, List.length_nil]
 omega
theorem many_o {α : Type} {pc : α → List Pc} {W : α → Prop} {w : Bs} {one : List Tk → Except (Int × Int) (α × List Tk)} (ho : ∀ l x r, AllN l → l.length ≤ 1000 → EndT l → one l = .ok (x, r) → W x ∧ Sub (pc x).length l r) : ∀ (n : Nat) (l r : List Tk) (acc xs : List α), AllN l → l.length ≤ 1000 → EndT l → acc.length ≤ 16 → manyP w one n l acc = .ok (xs, r) → ∃ ys, xs = acc ++ ys ∧ (∀ y ∈ ys, W y) ∧ xs.length ≤ 16 ∧ Sub (ys.flatMap pc).length l r
 | 0, l, r, acc, xs, _, _, _, ha, h => by
  injection h with h
  injection h with h1 h2
  subst h1 h2
  exact ⟨[], by simp, (fun y hy => by cases hy), ha, Sub.refl _⟩
 | n + 1, l, r, acc, xs, hn, hl, he, ha, h => by
  unfold manyP at h
  split at h
  ·split at h
   ·cases h
   ·rename_i hne
    obtain ⟨⟨x, q⟩, g, h⟩ := bind_ok h
    dsimp only at h g
    obtain ⟨hw, s1⟩ := ho l x q hn hl he g
    obtain ⟨ys, rfl, hy, hlen, s2⟩ := many_o ho n q r (acc ++ [x]) xs (hn.sub s1) (by have := s1.2.1; omega) (s1.2.2 he) (by simp; omega) h
    refine ⟨x :: ys, by simp, ?_, hlen, s1.trans s2 (by rw [List.flatMap_cons, List.length_append]; omega)⟩
    intro y hy'
    rcases List.mem_cons.1 hy' with rfl | hy'
    ·exact hw
    ·exact hy y hy'
  ·injection h with h
   injection h with h1 h2
   subst h1 h2
   exact ⟨[], by simp, (fun y hy => by cases hy), ha, Sub.refl _⟩
theorem parse_o {l : List Tk} {f : Fl} (hn : AllN l) (hl : l.length ≤ 1000) (he : EndT l) (h : parseT l = .ok f) : FlW f ∧ (flPc f).length + 1 ≤ l.length := by
 unfold parseT at h
 obtain ⟨⟨g, r⟩, h1, h⟩ := bind_ok h
 dsimp only at h
 split at h
 ·cases h
 injection h with h
 subst h
 rw [flowP_eq] at h1
 obtain ⟨⟨a, q1⟩, g1, h1⟩ := bind_ok h1
 obtain ⟨xs, e1, w1, l1, s1⟩ := many_o (pc := inPc) (W := InW) (fun l x r hn hl he h => in_o hn hl he h) _ _ _ _ _ hn hl he (by simp) g1
 have hn1 := hn.sub s1
 have hl1 : q1.length ≤ 1000 := by have := s1.2.1; omega
 have he1 := s1.2.2 he
 unfold flow1 at h1
 obtain ⟨⟨b, q2⟩, g2, h1⟩ := bind_ok h1
 obtain ⟨ys, e2, w2, l2, s2⟩ := many_o (pc := jobPc) (W := JobW) (fun l x r hn hl he h => job_o hn hl h) _ _ _ _ _ hn1 hl1 he1 (by simp) g2
 have hn2 := hn1.sub s2
 have hl2 : q2.length ≤ 1000 := by have := s2.2.1; omega
 have he2 := s2.2.2 he1
 unfold flow2 at h1
 obtain ⟨⟨c, q3⟩, g3, h1⟩ := bind_ok h1
 obtain ⟨zs, e3, w3, l3, s3⟩ := many_o (pc := outPc) (W := OutW) (fun l x r hn hl he h => out_o hn h) _ _ _ _ _ hn2 hl2 he2 (by simp) g3
 have he3 := s3.2.2 he2
 unfold flow3 at h1
 injection h1 with h1
 injection h1 with h2 h3
 subst h2 h3
 rw [List.nil_append] at e1 e2 e3
 subst e1 e2 e3
 refine ⟨⟨l1, l2, l3, w1, w2, w3⟩, ?_⟩
 have := s1.2.1
 have := s2.2.1
 have := s3.2.1
 have := he3.pos
 unfold flPc
 simp only [List.length_append] at *
 omega
theorem next_n (c : UInt8) (t : Bs) (i : Int) (h0 : (nextL (c :: t)).2 ≠ 0) (hk : (nextL (c :: t)).1 = 1) : (c :: t).take (nextL (c :: t)).2 ≠ [] ∧ letC (((c :: t).take (nextL (c :: t)).2).headD 0) = true ∧ ∀ d ∈ (c :: t).take (nextL (c :: t)).2, ldC d = true := by
 rw [nextL_cons] at h0 hk ⊢
 by_cases hl : letC c = true
 ·rw [if_pos hl] at h0 hk ⊢
  dsimp only at h0 hk ⊢
  refine ⟨?_, ?_, runN_take _ _⟩
  ·obtain ⟨m, hm⟩ : ∃ m, runN ldC (c :: t) = m + 1 := ⟨runN ldC (c :: t) - 1, by omega⟩
   rw [hm]; simp
  ·obtain ⟨m, hm⟩ : ∃ m, runN ldC (c :: t) = m + 1 := ⟨runN ldC (c :: t) - 1, by omega⟩
   rw [hm]; exact hl
 ·rw [if_neg hl] at hk
  split at hk
  ·cases hk
  ·split at hk <;> cases hk
theorem lexGo_n : ∀ (f : Nat) (s : Bs) (i : Nat) (acc l : List Tk), (∀ t ∈ acc, t.kind = 1 → t.text ≠ [] ∧ letC (t.text.headD 0) = true ∧ ∀ c ∈ t.text, ldC c = true) → lexGo f s i acc = .ok l → ∀ t ∈ l, t.kind = 1 → t.text ≠ [] ∧ letC (t.text.headD 0) = true ∧ ∀ c ∈ t.text, ldC c = true := by
 have hend : ∀ (acc : List Tk) (i : Nat) (l : List Tk), (∀ t ∈ acc, t.kind = 1 → t.text ≠ [] ∧ letC (t.text.headD 0) = true ∧ ∀ c ∈ t.text, ldC c = true) → (Except.ok (acc ++ [⟨5, [], (i : Int)⟩]) : Except (Int × Int) (List Tk)) = .ok l → ∀ t ∈ l, t.kind = 1 → t.text ≠ [] ∧ letC (t.text.headD 0) = true ∧ ∀ c ∈ t.text, ldC c = true := by
  intro acc i l ha h t ht
  injection h with h
  subst h
  rcases List.mem_append.1 ht with ht | ht
  ·exact ha t ht
  ·rw [List.mem_singleton.1 ht]
   intro h; cases h
 intro f
 induction f with
 | zero => intro s i acc l ha h; exact hend acc i l ha h
 | succ f ih =>
  intro s i acc l ha h
  cases s with
  | nil => exact hend acc i l ha h
  | cons c t =>
   rw [lexGo_cons] at h
   split at h
   ·exact ih _ _ _ _ ha h
   split at h
   ·cases h
   split at h
   ·cases h
   rename_i h1 h2 h3
   refine ih _ _ _ l ?_ h
   intro u hu
   rcases List.mem_append.1 hu with hu | hu
   ·exact ha u hu
   ·rw [List.mem_singleton.1 hu]
    exact next_n c t i h2
theorem lex_all {s : Bs} {l : List Tk} (hs : s.length ≤ 1000000) (h : lexL s = .ok l) : AllN l := fun t ht => ⟨(lexL_ok hs h).2.1 t ht, lexGo_n _ _ _ _ _ (fun t ht => by cases ht) h t ht⟩
theorem parseF_o {s : Bs} {f : Fl} (hs : s.length ≤ 1000000) (h : parseF s = .ok f) : FlW f ∧ (flPc f).length ≤ 400 := by
 unfold parseF at h
 obtain ⟨l, h1, h⟩ := bind_ok h
 obtain ⟨he, _, hl⟩ := lexL_ok hs h1
 obtain ⟨h2, h3⟩ := parse_o (lex_all hs h1) (by omega) he h
 exact ⟨h2, by omega⟩
end Go.Proofs.YtnjjajanfedjiaaGreatDoor
namespace Go.Proofs.YtnjjajanfedjiaaGreatDoor
open Go.RowKit
attribute [local go_sem] bs_size bs_extract bs_append bs_toList
theorem cNeq (a b : Cl) (W : World) : (binOp .neq 61 (.agg #[.string (bs a.name), .int .i64 a.kind]) (.agg #[.string (bs b.name), .int .i64 b.kind])).run Tryz.prog W = .ok (.bool (!decide (a = b))) W := by
 have hd : decide (a = b) = (decide (a.name = b.name) && decide (a.kind = b.kind)) := by
  obtain ⟨n, k⟩ := a
  obtain ⟨n2, k2⟩ := b
  rw [Bool.eq_iff_iff]
  simp
 rw [hd]
 simp [go_sem]
 by_cases h1 : a.name = b.name <;> by_cases h2 : a.kind = b.kind <;> simp [h1, h2, go_sem]
theorem vNeq (a b : Vl) (W : World) : (binOp .neq 41 (.agg #[.int .i64 a.kind, .int .i64 a.num, .string (bs a.word)]) (.agg #[.int .i64 b.kind, .int .i64 b.num, .string (bs b.word)])).run Tryz.prog W = .ok (.bool (!decide (a = b))) W := by
 have hd : decide (a = b) = (decide (a.kind = b.kind) && decide (a.num = b.num) && decide (a.word = b.word)) := by
  obtain ⟨k, n, s⟩ := a
  obtain ⟨k2, n2, s2⟩ := b
  rw [Bool.eq_iff_iff]
  simp [and_assoc]
 rw [hd]
 simp [go_sem]
 by_cases h1 : a.kind = b.kind <;> by_cases h2 : a.num = b.num <;> by_cases h3 : a.word = b.word <;> simp [h1, h2, h3, go_sem]
end Go.Proofs.YtnjjajanfedjiaaGreatDoor
