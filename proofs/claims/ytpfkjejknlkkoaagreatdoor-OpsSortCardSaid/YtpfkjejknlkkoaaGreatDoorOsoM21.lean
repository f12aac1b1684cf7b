/- slices.symMergeCmpFunc at rows, whole. slices.symMergeCmpFunc at rows, whole. Sorting by chunks: each sorted alone; neighbours merged; plain. -/
import Derived.Test.YtpfkjejknlkkoaaGreatDoorOsoM20
import Derived.Deep.CutRange
import Derived.Test.YtpfkjejknlkkoaaGreatDoorOsoM2
set_option linter.unusedSimpArgs false
set_option linter.unusedVariables false
namespace Go.Proofs.YtpfkjejknlkkoaaGreatDoor
open Go.RowKit Go.BigFrame
attribute [local go_sem] bs_size bs_extract bs_append bs_toList KW.cell
def SymTo (y : World) (G : Nat) (rest : List Value) (n c kf : Nat) (cap : Array Value) (ci : SR → SR → Int) (S : SR → Prop) (N : Nat) : Prop :=
 ∀ (P A B Q : List SR), 0 < A.length → 0 < B.length → A.length + B.length < N → (∀ z ∈ A, S z) → (∀ z ∈ B, S z) → Srt (sle ci) A → Srt (sle ci) B → P.length + A.length + B.length + Q.length = n → ∀ (a m b : Nat), a = P.length → m = P.length + A.length → b = P.length + A.length + B.length → ∀ w, SrSt y G rest (P ++ (A ++ (B ++ Q))) w →
  Calls Tryz.prog 140 #[.slice (some ⟨G, 0, none⟩) n c, .int .i64 (a : Int), .int .i64 (m : Int), .int .i64 (b : Int), .func (.func kf) #[] cap] w fun e w' => e = .returned (.tuple #[]) ∧ SrSt y G rest (P ++ (mg (sle ci) A B ++ Q)) w'
theorem sym_cut {α : Type} {le : α → α → Bool} (ho : Ord' le) {A B : List α} (hA : Srt le A) (hB : Srt le B) {a m b mid nn s s0 r0 e : Nat} (h1 : m = a + A.length) (h2 : b = m + B.length) (h3 : (a + b) / 2 = mid) (h4 : mid + m = nn) (hf : (mid < m ∧ s0 + b = nn ∧ r0 = mid) ∨ (m ≤ mid ∧ s0 = a ∧ r0 = m)) (hs0 : s0 ≤ s) (hr0 : s ≤ r0) (he : nn - s = e)
  (HL : s = s0 ∨ ∀ i k (hi : i < A.length) (hk : k < B.length), s = a + i + 1 → nn = s + m + k → le A[i] B[k] = true) (HR : s = r0 ∨ ∀ i k (hi : i < A.length) (hk : k < B.length), s = a + i → nn = 1 + s + m + k → le A[i] B[k] = false) :
  ∃ A1 A2 B1 B2 : List α, A1 ++ A2 = A ∧ B1 ++ B2 = B ∧ mg le A B = mg le A1 B1 ++ mg le A2 B2 ∧ s = a + A1.length ∧ m = s + A2.length ∧ e = m + B1.length ∧ b = e + B2.length ∧ mid = s + B1.length ∧ e = mid + A2.length ∧ s + e = nn := by
 have hbd : a ≤ s ∧ s ≤ m ∧ m ≤ e ∧ e ≤ b ∧ s + e = nn ∧ s ≤ mid ∧ mid ≤ e := by omega
 obtain ⟨t1, ht1⟩ : ∃ t, s - a = t := ⟨_, rfl⟩
 obtain ⟨t2, ht2⟩ : ∃ t, e - m = t := ⟨_, rfl⟩
 have hA1l : (A.take t1).length = t1 := by rw [List.length_take]; omega
 have hA2l : (A.drop t1).length = A.length - t1 := List.length_drop
 have hB1l : (B.take t2).length = t2 := by rw [List.length_take]; omega
 have hB2l : (B.drop t2).length = B.length - t2 := List.length_drop
 have sA1 : Srt le (A.take t1) := List.Pairwise.sublist (List.take_sublist _ _) hA
 have sA2 : Srt le (A.drop t1) := List.Pairwise.sublist (List.drop_sublist _ _) hA
 have sB1 : Srt le (B.take t2) := List.Pairwise.sublist (List.take_sublist _ _) hB
 have sB2 : Srt le (B.drop t2) := List.Pairwise.sublist (List.drop_sublist _ _) hB
 have h12 : ∀ x ∈ A.take t1, ∀ z ∈ B.drop t2, le x z = true := ends_le ho sA1 sB2 fun n1 hn1 hn h0 => by
  rw [List.getElem_take, List.getElem_drop]
  rcases HL with h | h
  ·omega
  ·exact h n1 (t2 + 0) (by omega) (by omega) (by omega) (by omega)
 have h21 : ∀ x ∈ A.drop t1, ∀ z ∈ B.take t2, le x z = false := ends_no ho sA2 sB1 fun n1 hn1 hn h0 => by
  rw [List.getElem_take, List.getElem_drop]
  rcases HR with h | h
  ·omega
  ·exact h (t1 + 0) n1 (by omega) (by omega) (by omega) (by omega)
 refine ⟨A.take t1, A.drop t1, B.take t2, B.drop t2, List.take_append_drop _ _, List.take_append_drop _ _, ?_, by omega, by omega, by omega, by omega, by omega, by omega, hbd.2.2.2.2.1⟩
 have h5 := mg_split (A.take t1) (A.drop t1) (B.take t2) (B.drop t2) h12 h21
 rwa [List.take_append_drop, List.take_append_drop] at h5
set_option maxRecDepth 100000 in
set_option maxHeartbeats 16000000 in
theorem symTwo_any (y : World) (G : Nat) (rest : List Value) (n c : Nat) (hn : n ≤ 1000000) (kf : Nat) (cap : Array Value) (ci : SR → SR → Int) (S : SR → Prop) (hC : CmpC y G kf cap ci S) (P A B Q : List SR) (IH : SymTo y G rest n c kf cap ci S (A.length + B.length)) (hSA : ∀ z ∈ A, S z) (hSB : ∀ z ∈ B, S z) (hA : 2 ≤ A.length) (hB : 2 ≤ B.length) (hsA : Srt (sle ci) A) (hsB : Srt (sle ci) B) (hlen : P.length + A.length + B.length + Q.length = n) (a m b : Nat) (ha : a = P.length) (hm : m = P.length + A.length) (hb : b = P.length + A.length + B.length) (w : World) (h : SrSt y G rest (P ++ (A ++ (B ++ Q))) w) :
    Calls Tryz.prog 140 #[.slice (some ⟨G, 0, none⟩) n c, .int .i64 (a : Int), .int .i64 (m : Int), .int .i64 (b : Int), .func (.func kf) #[] cap] w fun e w' => e = .returned (.tuple #[]) ∧ SrSt y G rest (P ++ (mg (sle ci) A B ++ Q)) w' := by
  have HS := Lib.hid h
  have HSA := Lib.hid hSA
  have HSB := Lib.hid hSB
  have HOA := Lib.hid hsA
  have HOB := Lib.hid hsB
  have HC := Lib.hid hC
  have HIH := Lib.hid IH
  have he := hC.he
  obtain ⟨mid, hmid⟩ : ∃ mid, (a + b) / 2 = mid := ⟨_, rfl⟩
  obtain ⟨nn, hnn⟩ : ∃ nn, mid + m = nn := ⟨_, rfl⟩
  obtain ⟨p, hp⟩ : ∃ p, nn - 1 = p := ⟨_, rfl⟩
  have HG : Hid (a = P.length ∧ m = a + A.length ∧ b = m + B.length ∧ b + Q.length = n ∧ 2 ≤ A.length ∧ 2 ≤ B.length ∧ (a + b) / 2 = mid ∧ mid + m = nn ∧ nn = p + 1) := Lib.hid ⟨ha, by omega, by omega, by omega, hA, hB, hmid, hnn, by omega⟩
  have hw1 : IntKind.i64.wrap ((m : Int) - (a : Int)) = (A.length : Int) := by simp [IntKind.wrap, IntKind.bits, IntKind.signed]; omega
  have hw2 : IntKind.i64.wrap ((b : Int) - (m : Int)) = (B.length : Int) := by simp [IntKind.wrap, IntKind.bits, IntKind.signed]; omega
  have hq1 : ((A.length : Int) == 1) = false := by rw [beq_eq_false_iff_ne]; omega
  have hq2 : ((B.length : Int) == 1) = false := by rw [beq_eq_false_iff_ne]; omega
  have hwa : IntKind.i64.wrap ((a : Int) + (b : Int)) = ((a + b : Nat) : Int) := by simp [IntKind.wrap, IntKind.bits, IntKind.signed]; omega
  have hwn : IntKind.i64.wrap ((mid : Int) + (m : Int)) = (nn : Int) := by simp [IntKind.wrap, IntKind.bits, IntKind.signed]; omega
  have hwp : IntKind.i64.wrap ((nn : Int) - 1) = (p : Int) := by simp [IntKind.wrap, IntKind.bits, IntKind.signed]; omega
  have HMID := Lib.hid (half_val a b mid (by omega) hmid)
  clear h hC ha hb hlen hm hA hB hsA hsB hSA hSB IH hmid hnn hp
  go_enter Tryz.func140, Tryz.ntmps140
  go_upto_region 25 with (fail)
  rw [HMID.out]
  clear hw1 hw2 hq1 hq2 hwa HMID
  go_upto_region 27 with (fail)
  clear hwn
  go_upto_if 140 with (fail)
  go_cut [20, 21] from 138 to 146 (fun v1 v2 wx => ∃ s0 r0 : Nat, v1 = .int .i64 (s0 : Int) ∧ v2 = .int .i64 (r0 : Int) ∧ Hid ((mid < m ∧ s0 + b = nn ∧ r0 = mid) ∨ (m ≤ mid ∧ s0 = a ∧ r0 = m)) ∧ Hid (SrSt y G rest (P ++ (A ++ (B ++ Q))) wx))
  case first =>
    have hg := HG.out
    by_cases hgt : mid < m
    · have hgi : (m : Int) > (mid : Int) := by omega
      have hdc : decide (mid < m) = true := decide_eq_true hgt
      obtain ⟨s0, hs0⟩ : ∃ s0, nn - b = s0 := ⟨_, rfl⟩
      obtain ⟨r0, hr0⟩ : ∃ r0, r0 = mid := ⟨_, rfl⟩
      have HR0 := Lib.hid hr0
      have hws : IntKind.i64.wrap ((nn : Int) - (b : Int)) = (s0 : Int) := by simp [IntKind.wrap, IntKind.bits, IntKind.signed]; omega
      have HF : Hid ((mid < m ∧ s0 + b = nn ∧ r0 = mid) ∨ (m ≤ mid ∧ s0 = a ∧ r0 = m)) := Lib.hid (.inl ⟨hgt, by omega, hr0⟩)
      clear hg hs0 hr0
      go_wp2
      go_meet
      exact ⟨s0, r0, rfl, by rw [HR0.out], HF, HS⟩
    · have hgi : ¬ (m : Int) > (mid : Int) := by omega
      have hdc : decide (mid < m) = false := decide_eq_false hgt
      obtain ⟨s0, hs0⟩ : ∃ s0, s0 = a := ⟨_, rfl⟩
      obtain ⟨r0, hr0⟩ : ∃ r0, r0 = m := ⟨_, rfl⟩
      have HR0 := Lib.hid hr0
      have HS0 := Lib.hid hs0
      have HF : Hid ((mid < m ∧ s0 + b = nn ∧ r0 = mid) ∨ (m ≤ mid ∧ s0 = a ∧ r0 = m)) := Lib.hid (.inr ⟨by omega, hs0, hr0⟩)
      clear hg hs0 hr0
      go_wp2
      go_meet
      exact ⟨s0, r0, by rw [HS0.out], by rw [HR0.out], HF, HS⟩
  case rest =>
   obtain ⟨s0, r0, rfl, rfl, HF, HSW⟩ := hcut
   obtain ⟨w, rfl⟩ : ∃ z : World, z = wc := ⟨_, rfl⟩
   have HST0 : Hid (∃ s r : Nat, (.int .i64 (s0 : Int) : Value) = .int .i64 (s : Int) ∧ (.int .i64 (r0 : Int) : Value) = .int .i64 (r : Int) ∧ s0 ≤ s ∧ s ≤ r ∧ r ≤ r0 ∧ Hid (s = s0 ∨ ∀ i k (hi : i < A.length) (hk : k < B.length), s = a + i + 1 → nn = s + m + k → sle ci A[i] B[k] = true) ∧ Hid (r = r0 ∨ ∀ i k (hi : i < A.length) (hk : k < B.length), r = a + i → nn = 1 + r + m + k → sle ci A[i] B[k] = false) ∧ Hid (SrSt y G rest (P ++ (A ++ (B ++ Q))) w)) := Lib.hid (by
     have hg := HG.out
     have hf := HF.out
     exact ⟨s0, r0, rfl, rfl, Nat.le_refl _, by omega, Nat.le_refl _, Lib.hid (.inl rfl), Lib.hid (.inl rfl), HSW⟩)
   clear HS HSW
   go_wp2_with fail
   clear hwp
   go_loopw [20, 21] (fun v1 v2 wr => ∃ s r : Nat, v1 = .int .i64 (s : Int) ∧ v2 = .int .i64 (r : Int) ∧ s0 ≤ s ∧ s ≤ r ∧ r ≤ r0 ∧ Hid (s = s0 ∨ ∀ i k (hi : i < A.length) (hk : k < B.length), s = a + i + 1 → nn = s + m + k → sle ci A[i] B[k] = true) ∧ Hid (r = r0 ∨ ∀ i k (hi : i < A.length) (hk : k < B.length), r = a + i → nn = 1 + r + m + k → sle ci A[i] B[k] = false) ∧ Hid (SrSt y G rest (P ++ (A ++ (B ++ Q))) wr)) (fun v1 v2 _ => (intOf v2).toNat - (intOf v1).toNat)
   case atStart => exact HST0.out
   case round =>
     clear HST0
     obtain ⟨s, r, rfl, rfl, hs0, hsr, hr0, HL, HR, HI⟩ := hrel
     by_cases hlt : s < r
     · have hlti : (s : Int) < (r : Int) := by omega
       have hg := HG.out
       have hf := HF.out
       obtain ⟨ce, hce⟩ : ∃ ce : Nat, (s + r) / 2 = ce := ⟨_, rfl⟩
       have hbnd : s ≤ ce ∧ ce < r := by omega
       have hwa : IntKind.i64.wrap ((s : Int) + (r : Int)) = ((s + r : Nat) : Int) := by simp [IntKind.wrap, IntKind.bits, IntKind.signed]; omega
       have HMID := Lib.hid (half_val s r ce (by omega) hce)
       obtain ⟨i, hi⟩ : ∃ i, ce - a = i := ⟨_, rfl⟩
       obtain ⟨d, hd⟩ : ∃ d, p - ce = d := ⟨_, rfl⟩
       obtain ⟨k, hk⟩ : ∃ k, d - m = k := ⟨_, rfl⟩
       have hq : ce = a + i ∧ i < A.length ∧ d = m + k ∧ k < B.length ∧ p = ce + d := by omega
       obtain ⟨za, hza⟩ : ∃ z, A[i]'hq.2.1 = z := ⟨_, rfl⟩
       obtain ⟨zb, hzb⟩ : ∃ z, B[k]'hq.2.2.2.1 = z := ⟨_, rfl⟩
       have x1 : wr.cell? ⟨G, ce, none⟩ = some (.slice za.A za.n za.c) := by
         refine HI.out.get ?_
         rw [seg_at P A (B ++ Q) (k := i) (by omega) hq.2.1, hza]
       have x2 : wr.cell? ⟨G, d, none⟩ = some (.slice zb.A zb.n zb.c) := by
         have h1 := HI.out
         rw [show P ++ (A ++ (B ++ Q)) = (P ++ A) ++ (B ++ Q) by simp] at h1
         refine h1.get ?_
         rw [seg_at (P ++ A) B Q (k := k) (by rw [List.length_append]; omega) hq.2.2.2.1, hzb]
       have lG : G < wr.heap.size := HI.out.b.lt
       have hcn : (ce : Int) < (n : Int) := by omega
       have hdn : (d : Int) < (n : Int) := by omega
       have hwd : IntKind.i64.wrap ((p : Int) - (ce : Int)) = (d : Int) := by simp [IntKind.wrap, IntKind.bits, IntKind.signed]; omega
       have hwh : IntKind.i64.wrap ((ce : Int) + 1) = ((ce + 1 : Nat) : Int) := by simp [IntKind.wrap, IntKind.bits, IntKind.signed]; omega
       obtain ⟨rr, hrr⟩ : ∃ rr, ci zb za = rr := ⟨_, rfl⟩
       have HCC : Hid (∀ W, Keeps [] wr W → Calls Tryz.prog kf (#[.slice zb.A zb.n zb.c, .slice za.A za.n za.c] ++ cap) W fun e W' => e = .returned (.int .i64 rr) ∧ Keeps [] W W') := Lib.hid (fun W kk => by
         rw [← hrr]
         exact HC.out.c zb za (HSB.out zb (by rw [← hzb]; exact List.getElem_mem _)) (HSA.out za (by rw [← hza]; exact List.getElem_mem _)) W (HI.out.k.trans kk.of_nil))
       by_cases hrr0 : rr < 0
       · have HREL : Hid (∀ wx, Keeps [] wr wx → ∃ s2 r2 : Nat, (.int .i64 (s : Int) : Value) = .int .i64 (s2 : Int) ∧ (.int .i64 (ce : Int) : Value) = .int .i64 (r2 : Int) ∧ s0 ≤ s2 ∧ s2 ≤ r2 ∧ r2 ≤ r0 ∧ Hid (s2 = s0 ∨ ∀ i k (hi : i < A.length) (hk : k < B.length), s2 = a + i + 1 → nn = s2 + m + k → sle ci A[i] B[k] = true) ∧ Hid (r2 = r0 ∨ ∀ i k (hi : i < A.length) (hk : k < B.length), r2 = a + i → nn = 1 + r2 + m + k → sle ci A[i] B[k] = false) ∧ Hid (SrSt y G rest (P ++ (A ++ (B ++ Q))) wx)) := Lib.hid (fun wx kx => by
           refine ⟨s, ce, rfl, rfl, hs0, hbnd.1, by omega, HL, Lib.hid (.inr fun i' k' hi' hk' e1 e2 => ?_), Lib.hid (HI.out.keep kx)⟩
           obtain rfl : i' = i := by omega
           obtain rfl : k' = k := by omega
           rw [hza, hzb]
           exact sle_no (by rw [hrr]; exact hrr0))
         have HMS : Hid (ce - s < r - s) := Lib.hid (by omega)
         clear hza hzb hrr hq hi hd hk hg hf hce hbnd hs0 hsr hr0
         go_upto_region 35 with (fail)
         rw [HMID.out]
         clear hwa
         refine wp_region_keeps (by kernel_rfl) (by kernel_rfl) ?_
         repeat (go_big_quiet_step (with_reducible exact KW.of HCC.out _))
         refine wpQuiet_nil ?_
         intro wx kx
         have HN := Lib.hid (HREL.out wx kx)
         clear x1 x2 lG kx
         go_wp2
         go_roundw
         case rel => exact HN.out
         case measure => simpa [intOf] using HMS.out
       · have HREL : Hid (∀ wx, Keeps [] wr wx → ∃ s2 r2 : Nat, (.int .i64 ((ce + 1 : Nat) : Int) : Value) = .int .i64 (s2 : Int) ∧ (.int .i64 (r : Int) : Value) = .int .i64 (r2 : Int) ∧ s0 ≤ s2 ∧ s2 ≤ r2 ∧ r2 ≤ r0 ∧ Hid (s2 = s0 ∨ ∀ i k (hi : i < A.length) (hk : k < B.length), s2 = a + i + 1 → nn = s2 + m + k → sle ci A[i] B[k] = true) ∧ Hid (r2 = r0 ∨ ∀ i k (hi : i < A.length) (hk : k < B.length), r2 = a + i → nn = 1 + r2 + m + k → sle ci A[i] B[k] = false) ∧ Hid (SrSt y G rest (P ++ (A ++ (B ++ Q))) wx)) := Lib.hid (fun wx kx => by
           refine ⟨ce + 1, r, rfl, rfl, by omega, by omega, hr0, Lib.hid (.inr fun i' k' hi' hk' e1 e2 => ?_), HR, Lib.hid (HI.out.keep kx)⟩
           obtain rfl : i' = i := by omega
           obtain rfl : k' = k := by omega
           rw [hza, hzb]
           exact sle_yes (by rw [hrr]; exact hrr0))
         have HMS : Hid (r - (ce + 1) < r - s) := Lib.hid (by omega)
         clear hza hzb hrr hq hi hd hk hg hf hce hbnd hs0 hsr hr0
         go_upto_region 35 with (fail)
         rw [HMID.out]
         clear hwa
         refine wp_region_keeps (by kernel_rfl) (by kernel_rfl) ?_
         repeat (go_big_quiet_step (with_reducible exact KW.of HCC.out _))
         refine wpQuiet_nil ?_
         intro wx kx
         have HN := Lib.hid (HREL.out wx kx)
         clear x1 x2 lG kx
         go_wp2
         go_roundw
         case rel => exact HN.out
         case measure => simpa [intOf] using HMS.out
     · have hlti : ¬ (s : Int) < (r : Int) := by omega
       obtain rfl : s = r := by omega
       obtain ⟨e, hee⟩ : ∃ e, nn - s = e := ⟨_, rfl⟩
       obtain ⟨A1, A2, B1, B2, eA, eB, hmg, q1, q2, q3, q4, q5, q6, q7⟩ := sym_cut HC.out.ord HOA.out HOB.out HG.out.2.1 HG.out.2.2.1 HG.out.2.2.2.2.2.2.1 HG.out.2.2.2.2.2.2.2.1 HF.out hs0 hr0 hee HL.out HR.out
       have eAl : A1.length + A2.length = A.length := by rw [← eA, List.length_append]
       have eBl : B1.length + B2.length = B.length := by rw [← eB, List.length_append]
       have sAA : Srt (sle ci) (A1 ++ A2) := by rw [eA]; exact HOA.out
       have sBB : Srt (sle ci) (B1 ++ B2) := by rw [eB]; exact HOB.out
       have sA1 := (List.pairwise_append.1 sAA).1
       have sA2 := (List.pairwise_append.1 sAA).2.1
       have sB1 := (List.pairwise_append.1 sBB).1
       have sB2 := (List.pairwise_append.1 sBB).2.1
       have mA1 : ∀ z ∈ A1, S z := fun z hz => HSA.out z (by rw [← eA]; exact List.mem_append_left _ hz)
       have mA2 : ∀ z ∈ A2, S z := fun z hz => HSA.out z (by rw [← eA]; exact List.mem_append_right _ hz)
       have mB1 : ∀ z ∈ B1, S z := fun z hz => HSB.out z (by rw [← eB]; exact List.mem_append_left _ hz)
       have mB2 : ∀ z ∈ B2, S z := fun z hz => HSB.out z (by rw [← eB]; exact List.mem_append_right _ hz)
       have hI0 : SrSt y G rest (P ++ (A1 ++ (A2 ++ (B1 ++ (B2 ++ Q))))) wr := by
         have h3 := HI.out
         rw [← eA, ← eB] at h3
         simpa using h3
       obtain ⟨g1, -, -, g4, g5, g6, g7, -, -⟩ := HG.out
       have hq : a = P.length ∧ s = a + A1.length ∧ m = s + A2.length ∧ e = m + B1.length ∧ b = e + B2.length ∧ mid = s + B1.length ∧ e = mid + A2.length ∧ b + Q.length = n ∧ a < mid ∧ mid < b ∧ A1.length + A2.length = A.length ∧ B1.length + B2.length = B.length := ⟨g1, q1, q2, q3, q4, q5, q6, g4, by omega, by omega, eAl, eBl⟩
       have hwe : IntKind.i64.wrap ((nn : Int) - (s : Int)) = (e : Int) := by simp [IntKind.wrap, IntKind.bits, IntKind.signed]; omega
       clear q1 q2 q3 q4 q5 q6 q7 g1 g4 g5 g6 g7 eAl eBl hee sAA sBB eA eB
       have HQ := Lib.hid hq
       have HMG := Lib.hid hmg
       have HS5 := Lib.hid hI0
       have HROT : Hid (0 < A2.length → 0 < B1.length → ∀ w, SrSt y G rest (P ++ (A1 ++ (A2 ++ (B1 ++ (B2 ++ Q))))) w → Calls Tryz.prog 151 #[.slice (some ⟨G, 0, none⟩) n c, .int .i64 (s : Int), .int .i64 (m : Int), .int .i64 (e : Int), .func (.func kf) #[] cap] w fun ev w' => ev = .returned (.tuple #[]) ∧ SrSt y G rest (P ++ (A1 ++ (B1 ++ (A2 ++ (B2 ++ Q))))) w') := Lib.hid (fun p1 p2 w h => by
         have h3 := rotate_any y G rest n c hn (.func (.func kf) #[] cap) (P ++ A1) A2 B1 (B2 ++ Q) p1 p2 (by simp only [List.length_append]; omega) s m e (by simp only [List.length_append]; omega) (by simp only [List.length_append]; omega) (by simp only [List.length_append]; omega) w (by simpa using h)
         simpa using h3)
       have HM1 : Hid (0 < A1.length → 0 < B1.length → ∀ w, SrSt y G rest (P ++ (A1 ++ (B1 ++ (A2 ++ (B2 ++ Q))))) w → Calls Tryz.prog 140 #[.slice (some ⟨G, 0, none⟩) n c, .int .i64 (a : Int), .int .i64 (s : Int), .int .i64 (mid : Int), .func (.func kf) #[] cap] w fun ev w' => ev = .returned (.tuple #[]) ∧ SrSt y G rest (P ++ (mg (sle ci) A1 B1 ++ (A2 ++ (B2 ++ Q)))) w') := Lib.hid (fun p1 p2 w h =>
         HIH.out P A1 B1 (A2 ++ (B2 ++ Q)) p1 p2 (by omega) mA1 mB1 sA1 sB1 (by simp only [List.length_append]; omega) a s mid (by omega) (by omega) (by omega) w h)
       have HM2 : Hid (0 < A2.length → 0 < B2.length → ∀ w, SrSt y G rest (P ++ (mg (sle ci) A1 B1 ++ (A2 ++ (B2 ++ Q)))) w → Calls Tryz.prog 140 #[.slice (some ⟨G, 0, none⟩) n c, .int .i64 (mid : Int), .int .i64 (e : Int), .int .i64 (b : Int), .func (.func kf) #[] cap] w fun ev w' => ev = .returned (.tuple #[]) ∧ SrSt y G rest (P ++ (mg (sle ci) A1 B1 ++ (mg (sle ci) A2 B2 ++ Q))) w') := Lib.hid (fun p1 p2 w h => by
         have hml := mg_len (le := sle ci) A1 B1
         have h3 := HIH.out (P ++ mg (sle ci) A1 B1) A2 B2 Q p1 p2 (by omega) mA2 mB2 sA2 sB2 (by rw [List.length_append, hml]; omega) mid e b (by rw [List.length_append, hml]; omega) (by rw [List.length_append, hml]; omega) (by rw [List.length_append, hml]; omega) w (by simpa using h)
         simpa using h3)
       have E1 : Hid (A2.length = 0 ∨ B1.length = 0 → P ++ (A1 ++ (A2 ++ (B1 ++ (B2 ++ Q)))) = P ++ (A1 ++ (B1 ++ (A2 ++ (B2 ++ Q))))) := Lib.hid (fun h => by
         rcases h with h | h
         · rw [List.eq_nil_of_length_eq_zero h]; simp
         · rw [List.eq_nil_of_length_eq_zero h]; simp)
       have E2 : Hid (A1.length = 0 ∨ B1.length = 0 → P ++ (A1 ++ (B1 ++ (A2 ++ (B2 ++ Q)))) = P ++ (mg (sle ci) A1 B1 ++ (A2 ++ (B2 ++ Q)))) := Lib.hid (fun h => by
         rcases h with h | h
         · rw [List.eq_nil_of_length_eq_zero h]; simp [nil_mg]
         · rw [List.eq_nil_of_length_eq_zero h]; simp [mg_nil])
       have E3 : Hid (A2.length = 0 ∨ B2.length = 0 → P ++ (mg (sle ci) A1 B1 ++ (A2 ++ (B2 ++ Q))) = P ++ (mg (sle ci) A1 B1 ++ (mg (sle ci) A2 B2 ++ Q))) := Lib.hid (fun h => by
         rcases h with h | h
         · rw [List.eq_nil_of_length_eq_zero h]; simp [nil_mg]
         · rw [List.eq_nil_of_length_eq_zero h]; simp [mg_nil])
       clear sA1 sA2 sB1 sB2 hmg mA1 mA2 mB1 mB2 hI0 hq HI HL HR HF hs0 hsr hr0 hlt
       go_upto_region 39 with (fail)
       clear hwe hlti
       obtain ⟨BR0, hBR0⟩ : ∃ B, decide (s < m ∧ m < e) = B := ⟨_, rfl⟩
       have HBR0 := Lib.hid hBR0
       clear hBR0
       go_cut [185] from 178 to 185 (fun v wx => v = .bool BR0 ∧ Hid (SrSt y G rest (P ++ (A1 ++ (A2 ++ (B1 ++ (B2 ++ Q))))) wx))
       case first =>
         by_cases q1 : s < m
         · have q1i : (s : Int) < (m : Int) := by omega
           by_cases q2 : m < e
           · have q2i : (m : Int) < (e : Int) := by omega
             have HV : Hid (BR0 = true) := Lib.hid (by rw [← HBR0.out]; exact decide_eq_true ⟨q1, q2⟩)
             clear q1 q2
             go_wp2
             go_meet
             exact ⟨by rw [HV.out], HS5⟩
           · have q2i : ¬ (m : Int) < (e : Int) := by omega
             have HV : Hid (BR0 = false) := Lib.hid (by rw [← HBR0.out]; exact decide_eq_false fun h => q2 h.2)
             clear q1 q2
             go_wp2
             go_meet
             exact ⟨by rw [HV.out], HS5⟩
         · have q1i : ¬ (s : Int) < (m : Int) := by omega
           have HV : Hid (BR0 = false) := Lib.hid (by rw [← HBR0.out]; exact decide_eq_false fun h => q1 h.1)
           clear q1
           go_wp2
           go_meet
           exact ⟨by rw [HV.out], HS5⟩
       case rest =>
         obtain ⟨rfl, HC0⟩ := hcut
         obtain ⟨z0, rfl⟩ : ∃ z : World, z = wc := ⟨_, rfl⟩
         clear HS5
         go_upto_if 185 with (fail)
         go_cut [] from 178 to 191 (fun wx => Hid (SrSt y G rest (P ++ (A1 ++ (B1 ++ (A2 ++ (B2 ++ Q))))) wx))
         case first =>
           cases hb : BR0 with
           | true =>
             have HR1 := Lib.hid (HROT.out (by have hq := HQ.out; have h := of_decide_eq_true (HBR0.out.trans hb); omega) (by have hq := HQ.out; have h := of_decide_eq_true (HBR0.out.trans hb); omega) _ HC0.out)
             clear hb
             go_wp2_with ((with_reducible refine HR1.out.mono ?_); rintro ev w6 ⟨rfl, h6⟩; have HS6 := Lib.hid h6)
             go_meet
             exact HS6
           | false =>
             have HS6 : Hid (SrSt y G rest (P ++ (A1 ++ (B1 ++ (A2 ++ (B2 ++ Q))))) z0) := Lib.hid (by
               rw [← E1.out (by have hq := HQ.out; have h := of_decide_eq_false (HBR0.out.trans hb); omega)]
               exact HC0.out)
             clear hb
             go_wp2
             go_meet
             exact HS6
         case rest =>
           have HS6 := hcut
           obtain ⟨u0, rfl⟩ : ∃ z : World, z = wc := ⟨_, rfl⟩
           clear hcut HC0
           go_upto_region 41 with (fail)
           obtain ⟨BR1, hBR1⟩ : ∃ B, decide (a < s ∧ s < mid) = B := ⟨_, rfl⟩
           have HBR1 := Lib.hid hBR1
           clear hBR1
           go_cut [199] from 192 to 199 (fun v wx => v = .bool BR1 ∧ Hid (SrSt y G rest (P ++ (A1 ++ (B1 ++ (A2 ++ (B2 ++ Q))))) wx))
           case first =>
             by_cases q1 : a < s
             · have q1i : (a : Int) < (s : Int) := by omega
               by_cases q2 : s < mid
               · have q2i : (s : Int) < (mid : Int) := by omega
                 have HV : Hid (BR1 = true) := Lib.hid (by rw [← HBR1.out]; exact decide_eq_true ⟨q1, q2⟩)
                 clear q1 q2
                 go_wp2
                 go_meet
                 exact ⟨by rw [HV.out], HS6⟩
               · have q2i : ¬ (s : Int) < (mid : Int) := by omega
                 have HV : Hid (BR1 = false) := Lib.hid (by rw [← HBR1.out]; exact decide_eq_false fun h => q2 h.2)
                 clear q1 q2
                 go_wp2
                 go_meet
                 exact ⟨by rw [HV.out], HS6⟩
             · have q1i : ¬ (a : Int) < (s : Int) := by omega
               have HV : Hid (BR1 = false) := Lib.hid (by rw [← HBR1.out]; exact decide_eq_false fun h => q1 h.1)
               clear q1
               go_wp2
               go_meet
               exact ⟨by rw [HV.out], HS6⟩
           case rest =>
             obtain ⟨rfl, HC0⟩ := hcut
             obtain ⟨z1, rfl⟩ : ∃ z : World, z = wc := ⟨_, rfl⟩
             clear HS6
             go_upto_if 199 with (fail)
             go_cut [] from 192 to 205 (fun wx => Hid (SrSt y G rest (P ++ (mg (sle ci) A1 B1 ++ (A2 ++ (B2 ++ Q)))) wx))
             case first =>
               cases hb : BR1 with
               | true =>
                 have HR1 := Lib.hid (HM1.out (by have hq := HQ.out; have h := of_decide_eq_true (HBR1.out.trans hb); omega) (by have hq := HQ.out; have h := of_decide_eq_true (HBR1.out.trans hb); omega) _ HC0.out)
                 clear hb
                 go_wp2_with ((with_reducible refine HR1.out.mono ?_); rintro ev w6 ⟨rfl, h6⟩; have HS7 := Lib.hid h6)
                 go_meet
                 exact HS7
               | false =>
                 have HS7 : Hid (SrSt y G rest (P ++ (mg (sle ci) A1 B1 ++ (A2 ++ (B2 ++ Q)))) z1) := Lib.hid (by
                   rw [← E2.out (by have hq := HQ.out; have h := of_decide_eq_false (HBR1.out.trans hb); omega)]
                   exact HC0.out)
                 clear hb
                 go_wp2
                 go_meet
                 exact HS7
             case rest =>
               have HS7 := hcut
               obtain ⟨u1, rfl⟩ : ∃ z : World, z = wc := ⟨_, rfl⟩
               clear hcut HC0
               go_upto_region 43 with (fail)
               obtain ⟨BR2, hBR2⟩ : ∃ B, decide (mid < e ∧ e < b) = B := ⟨_, rfl⟩
               have HBR2 := Lib.hid hBR2
               clear hBR2
               go_cut [213] from 206 to 213 (fun v wx => v = .bool BR2 ∧ Hid (SrSt y G rest (P ++ (mg (sle ci) A1 B1 ++ (A2 ++ (B2 ++ Q)))) wx))
               case first =>
                 by_cases q1 : mid < e
                 · have q1i : (mid : Int) < (e : Int) := by omega
                   by_cases q2 : e < b
                   · have q2i : (e : Int) < (b : Int) := by omega
                     have HV : Hid (BR2 = true) := Lib.hid (by rw [← HBR2.out]; exact decide_eq_true ⟨q1, q2⟩)
                     clear q1 q2
                     go_wp2
                     go_meet
                     exact ⟨by rw [HV.out], HS7⟩
                   · have q2i : ¬ (e : Int) < (b : Int) := by omega
                     have HV : Hid (BR2 = false) := Lib.hid (by rw [← HBR2.out]; exact decide_eq_false fun h => q2 h.2)
                     clear q1 q2
                     go_wp2
                     go_meet
                     exact ⟨by rw [HV.out], HS7⟩
                 · have q1i : ¬ (mid : Int) < (e : Int) := by omega
                   have HV : Hid (BR2 = false) := Lib.hid (by rw [← HBR2.out]; exact decide_eq_false fun h => q1 h.1)
                   clear q1
                   go_wp2
                   go_meet
                   exact ⟨by rw [HV.out], HS7⟩
               case rest =>
                 obtain ⟨rfl, HC0⟩ := hcut
                 obtain ⟨z2, rfl⟩ : ∃ z : World, z = wc := ⟨_, rfl⟩
                 clear HS7
                 cases hb : BR2 with
                 | true =>
                   have HR1 := Lib.hid (HM2.out (by have hq := HQ.out; have h := of_decide_eq_true (HBR2.out.trans hb); omega) (by have hq := HQ.out; have h := of_decide_eq_true (HBR2.out.trans hb); omega) _ HC0.out)
                   clear hb
                   go_wp2_with ((with_reducible refine HR1.out.mono ?_); rintro ev w6 ⟨rfl, h6⟩; have HS8 := Lib.hid h6)
                   have HFN : Hid (SrSt y G rest (P ++ (mg (sle ci) A B ++ Q)) w6) := Lib.hid (by
                     rw [HMG.out, List.append_assoc]
                     exact HS8.out)
                   go_end0
                   exact ⟨rfl, HFN.out⟩
                 | false =>
                   have HS8 : Hid (SrSt y G rest (P ++ (mg (sle ci) A1 B1 ++ (mg (sle ci) A2 B2 ++ Q))) z2) := Lib.hid (by
                     rw [← E3.out (by have hq := HQ.out; have h := of_decide_eq_false (HBR2.out.trans hb); omega)]
                     exact HC0.out)
                   clear hb
                   go_wp2
                   have HFN : Hid (SrSt y G rest (P ++ (mg (sle ci) A B ++ Q)) z2) := Lib.hid (by
                     rw [HMG.out, List.append_assoc]
                     exact HS8.out)
                   go_end0
                   exact ⟨rfl, HFN.out⟩
end Go.Proofs.YtpfkjejknlkkoaaGreatDoor
namespace Go.Proofs.YtpfkjejknlkkoaaGreatDoor
open Go.RowKit Go.BigFrame
theorem symTo (y : World) (G : Nat) (rest : List Value) (n c : Nat) (hn : n ≤ 1000000) (kf : Nat) (cap : Array Value) (ci : SR → SR → Int) (S : SR → Prop) (hC : CmpC y G kf cap ci S) : ∀ N, SymTo y G rest n c kf cap ci S N
 | 0 => fun _ _ _ _ _ _ h => absurd h (by omega)
 | N + 1 => by
  have ih := symTo y G rest n c hn kf cap ci S hC N
  intro P A B Q hA hB hN hSA hSB hsA hsB hlen a m b ha hm hb w h
  by_cases hA1 : A.length = 1
  ·match A, hA1 with
   | [x], _ =>
    have h' : SrSt y G rest (P ++ (x :: (B ++ Q))) w := h
    have hm' : m = P.length + 1 := hm
    have hb' : b = P.length + 1 + B.length := hb
    have hlen' : P.length + 1 + B.length + Q.length = n := hlen
    exact symOne_any y G rest n c hn kf cap ci S hC P x B Q (hSA x (by simp)) hSB hB hsB hlen' a m b ha hm' hb' w h'
  ·by_cases hB1 : B.length = 1
   ·match B, hB1 with
    | [z], _ =>
     have hb' : b = P.length + A.length + 1 := hb
     have hlen' : P.length + A.length + 1 + Q.length = n := hlen
     exact symLast_any y G rest n c hn kf cap ci S hC P A z Q hSA (hSB z (by simp)) (by omega) hsA hlen' a m b ha hm hb' w h
   ·have ih' : SymTo y G rest n c kf cap ci S (A.length + B.length) := fun P' A' B' Q' h1 h2 h3 => ih P' A' B' Q' h1 h2 (by omega)
    exact symTwo_any y G rest n c hn kf cap ci S hC P A B Q ih' hSA hSB (by omega) (by omega) hsA hsB hlen a m b ha hm hb w h
end Go.Proofs.YtpfkjejknlkkoaaGreatDoor
namespace Go.Proofs.YtpfkjejknlkkoaaGreatDoor
section
variable {α : Type} {le : α → α → Bool}
def chS (le : α → α → Bool) (bs : Nat) : Nat → List α → List α
 | 0, l => stS le l
 | k + 1, l => if l.length ≤ bs then stS le l else stS le (l.take bs) ++ chS le bs k (l.drop bs)
def chk (le : α → α → Bool) (bs : Nat) (l : List α) : List α := chS le bs l.length l
theorem chS_small {bs k : Nat} {l : List α} (h : l.length ≤ bs) : chS le bs k l = stS le l := by
 cases k with
 | zero => rfl
 | succ k => exact if_pos h
theorem chS_more {bs : Nat} (hb : 0 < bs) : ∀ {k m : Nat} {l : List α}, l.length ≤ k → l.length ≤ m → chS le bs k l = chS le bs m l
 | 0, m, l, h, _ => by rw [chS_small (l := l) (by omega), chS_small (l := l) (by omega)]
 | k + 1, 0, l, _, _ => by rw [chS_small (l := l) (by omega), chS_small (l := l) (by omega)]
 | k + 1, m + 1, l, h1, h2 => by
  unfold chS
  split
  ·rfl
  ·rename_i hl
   rw [chS_more hb (k := k) (m := m) (by rw [List.length_drop]; omega) (by rw [List.length_drop]; omega)]
theorem chk_small {bs : Nat} {l : List α} (h : l.length ≤ bs) : chk le bs l = stS le l := chS_small h
theorem chk_step {bs : Nat} (hb : 0 < bs) {l : List α} (h : bs ≤ l.length) : chk le bs l = stS le (l.take bs) ++ chk le bs (l.drop bs) := by
 rcases Nat.lt_or_ge bs l.length with hlt | hge
 ·unfold chk
  obtain ⟨k, hk⟩ : ∃ k, l.length = k + 1 := ⟨l.length - 1, by omega⟩
  rw [hk]
  show (if l.length ≤ bs then _ else _) = _
  rw [if_neg (by omega), chS_more hb (k := k) (m := (l.drop bs).length) (by rw [List.length_drop]; omega) (Nat.le_refl _)]
 ·have e : l.drop bs = [] := List.drop_eq_nil_of_le hge
  rw [chk_small hge, e, List.take_of_length_le hge, chk_small (Nat.zero_le _)]
  simp [stS]
theorem chS_len {bs : Nat} : ∀ (k : Nat) (l : List α), (chS le bs k l).length = l.length
 | 0, l => stS_len l
 | k + 1, l => by
  unfold chS
  split
  ·exact stS_len l
  ·rw [List.length_append, stS_len, chS_len k, List.length_take, List.length_drop]
   omega
theorem chk_len {bs : Nat} (l : List α) : (chk le bs l).length = l.length := chS_len _ l
theorem chk_two (ho : Ord' le) {bs : Nat} (hb : 0 < bs) {l : List α} (h : 2 * bs ≤ l.length) : chk le bs l = stS le (l.take bs) ++ (stS le ((l.drop bs).take bs) ++ chk le bs (l.drop (2 * bs))) ∧ mg le (stS le (l.take bs)) (stS le ((l.drop bs).take bs)) = stS le (l.take (2 * bs)) := by
 refine ⟨?_, ?_⟩
 ·rw [chk_step hb (by omega), chk_step hb (l := l.drop bs) (by rw [List.length_drop]; omega), List.drop_drop, show bs + bs = 2 * bs by omega]
 ·rw [← stS_append ho]
  congr 1
  rw [show 2 * bs = bs + bs by omega, List.take_add]
theorem chk_last (ho : Ord' le) {bs : Nat} (hb : 0 < bs) {l : List α} (h1 : bs ≤ l.length) (h2 : l.length ≤ 2 * bs) : chk le bs l = stS le (l.take bs) ++ stS le (l.drop bs) ∧ mg le (stS le (l.take bs)) (stS le (l.drop bs)) = stS le l := by
 refine ⟨?_, ?_⟩
 ·rw [chk_step hb h1, chk_small (l := l.drop bs) (by rw [List.length_drop]; omega)]
 ·rw [← stS_append ho, List.take_append_drop]
end
end Go.Proofs.YtpfkjejknlkkoaaGreatDoor
