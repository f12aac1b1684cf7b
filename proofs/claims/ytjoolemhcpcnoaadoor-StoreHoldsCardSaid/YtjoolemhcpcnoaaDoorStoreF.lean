/- store: Put. -/
import Derived.Test.YtjoolemhcpcnoaaDoorStoreE
namespace Go.Proofs.YtjoolemhcpcnoaaDoor
open Go.RowKit
attribute [local go_sem] bs_size bs_extract bs_append bs_toList errV_0 errV_2 errV_4 errV_14
/-- One write more that is not sure. -/
def Dk.add (D : Dk) (a : Nat) (s : Bs) : Dk := { D.burnt with wait := D.wait ++ [(a, padded s)] }
def Dk.synced (D : Dk) : Dk := { D.burnt with sure := puts D.sure D.wait, wait := [] }
def chunk (s : Bs) (k : Nat) : Bs := (s.drop (64 * k)).take 64
/-- So many sectors behind the first one are written, as far as the fuse lets it. -/
def writeP (D : Dk) (a : Nat) (s : Bs) : Nat → Bool × Dk
  | 0 => (true, D)
  | k + 1 => match writeP D a s k with
    | (true, D') => if D'.fuse = 0 then (false, D') else (true, D'.add (a + 1 + k) (chunk s k))
    | (false, D') => (false, D')
/-- Put: the error's number, the disk, the store. -/
def putP (D : Dk) (S : Sr) (s : Bs) : Nat × Dk × Sr :=
  if (S.m (shaL s)).isSome then (0, D, S)
  else match writeP D S.at_ s (secs s.length - 1) with
    | (false, D1) => (14, D1, S)
    | (true, D1) =>
      if D1.fuse = 0 then (14, D1, S)
      else if (D1.add S.at_ (headL s)).fuse = 0 then (14, D1.add S.at_ (headL s), S)
      else (0, (D1.add S.at_ (headL s)).synced, kept1 S s)
theorem add_sure (D : Dk) (a : Nat) (s : Bs) : (D.add a s).sure = D.sure := burnt_sure D
theorem add_wait (D : Dk) (a : Nat) (s : Bs) : (D.add a s).wait = D.wait ++ [(a, padded s)] := rfl
theorem writeP_facts (D : Dk) (a : Nat) (s : Bs) (k : Nat) : (writeP D a s k).2.sure = D.sure ∧ (writeP D a s k).2.wait.length ≤ D.wait.length + k := by
  induction k with
  | zero => exact ⟨rfl, Nat.le_refl _⟩
  | succ k ih =>
    unfold writeP
    rcases h : writeP D a s k with ⟨b, D'⟩
    rw [h] at ih
    obtain ⟨i1, i2⟩ := ih
    simp only at i1 i2
    cases b
    · exact ⟨i1, by simp only; omega⟩
    · simp only
      split
      · exact ⟨i1, by simp only; omega⟩
      · exact ⟨by simp only [add_sure]; exact i1, by simp only [add_wait, List.length_append, List.length_cons, List.length_nil]; omega⟩
theorem writeP_false (D : Dk) (a : Nat) (s : Bs) {k : Nat} (D' : Dk) (h : writeP D a s k = (false, D')) (n : Nat) (hn : k ≤ n) : writeP D a s n = (false, D') := by
  induction n with
  | zero => obtain rfl : k = 0 := by omega
            exact h
  | succ n ih =>
    by_cases e : k = n + 1
    · rw [← e]; exact h
    · unfold writeP
      rw [ih (by omega)]
/-- The key that Put tells. -/
def putK (n : Nat) (s : Bs) : Bs := if n = 0 then shaL s else []
/-- A cut of a text. -/
theorem slice_str {P : Program} {T : TypeId} (hT : P.underlying T = some .string) (s : Bs) (lo hi : Nat) (h1 : lo ≤ hi) (h2 : hi ≤ s.length) (W : World) :
    (Instr.slice T (.string (bs s)) (some (.int .i64 (lo : Int))) (some (.int .i64 (hi : Int))) none).run P W = .ok (.string (bs ((s.take hi).drop lo))) W := by
  have h3 : (lo : Int) ≤ (hi : Int) := by omega
  have h4 : (hi : Int) ≤ (s.length : Int) := by omega
  go_simp
/-- What Put leaves. -/
def PutEnd (w : World) (Ld Lx : List Nat) (gx gd : Nat) (D' : Dk) (S' : Sr) (w' : World) : Prop :=
  ∃ Ld' Lx', Dsk w' Ld' gd D' ∧ Sto w' Lx' gx gd S' ∧ Keeps (Ld ++ Lx) w w' ∧ (∀ x ∈ Ld', x ∈ Ld ∨ w.heap.size ≤ x) ∧ (∀ x ∈ Lx', x ∈ Lx ∨ w.heap.size ≤ x) ∧ (∀ x ∈ Lx', x ∉ Ld')
theorem put_same {w w' : World} {Ld Lx Ld' : List Nat} {gx gd : Nat} {D' : Dk} {S : Sr} (hx : Sto w Lx gx gd S) (hdis : ∀ x ∈ Lx, x ∉ Ld) (hd : Dsk w' Ld' gd D') (hk : Keeps Ld w w') (hl : ∀ x ∈ Ld', x ∈ Ld ∨ w.heap.size ≤ x) :
    PutEnd w Ld Lx gx gd D' S w' :=
  ⟨Ld', Lx, hd, hx.keep hk hdis, hk.weaken (fun x hx _ => List.mem_append.2 (.inl hx)), hl, fun x h => .inl h, fun x h h' => by
    rcases hl x h' with h2 | h2
    · exact hdis x h h2
    · have := hx.lt x h; omega⟩
set_option maxRecDepth 100000 in
set_option maxHeartbeats 4000000 in
theorem put_any {w : World} {Ld Lx : List Nat} {gx gd : Nat} {D : Dk} {S : Sr} (hd : Dsk w Ld gd D) (hx : Sto w Lx gx gd S) (hdis : ∀ x ∈ Lx, x ∉ Ld) (hR : Rnds w) (hRL : 1 ∉ Ld)
    (s : Bs) (hs : s.length ≤ 8000) (hroom : S.at_ + secs s.length ≤ D.sure.length) (hkl : S.keys.length ≤ 100000) (hwl : D.wait.length ≤ 100000) :
    Calls Tryd.prog 29 #[.pointer (some ⟨gx, 0, none⟩), .string (bs s)] w fun ev w' => ev = .returned (.tuple #[.string (bs (putK (putP D S s).1 s)), errV (putP D S s).1]) ∧ PutEnd w Ld Lx gx gd (putP D S s).2.1 (putP D S s).2.2 w' := by
  have h64 := hd.small
  have hsn : secs s.length ≤ 20000 := by unfold secs; omega
  have hs1 : 1 ≤ secs s.length := by unfold secs; omega
  have HR := Lib.hid hR
  have HD := Lib.hid hd
  have HX := Lib.hid hx
  have HDIS := Lib.hid hdis
  clear hR hd hx hdis
  go_enter Tryd.func29, Tryd.ntmps29
  go_wp2_with fail
  refine (sum_any s (by omega) _ HR.out).mono ?_
  rintro ev W1 ⟨rfl, k1⟩
  have hx1 := HX.out.quiet k1
  have hd1 := HD.out.keep (L' := []) k1 (by simp)
  have K1 := Lib.hid k1
  clear k1
  obtain ⟨v, bm, h1, h2, h3, h4, h5, h6, h7⟩ := hx1
  have c0 : W1.cell? ⟨gx, 0, none⟩ = some (.pointer (some ⟨gd, 0, none⟩)) := by rw [h1.cell]; rfl
  have c1 : W1.cell? ⟨gx, 1, none⟩ = some (.int .i64 (S.at_ : Int)) := by rw [h1.cell]; rfl
  have c3 : W1.cell? ⟨gx, 3, none⟩ = some (.map (some bm)) := by rw [h1.cell]; rfl
  have hl := mlook h3 (shaL s) (by rw [shaL_length]; decide)
  have H4 := Lib.hid h4
  clear h1 h2 h3 h4 h5 h6 h7
  cases hm : S.m (shaL s) with
  | some u =>
    rw [hm] at hl
    have hP : putP D S s = (0, D, S) := by unfold putP; rw [hm]; rfl
    have HP := Lib.hid hP
    have HD1 := Lib.hid hd1
    clear hm hP hd1
    go_wp2
    go_ret2
    rw [HP.out]
    exact ⟨rfl, put_same HX.out HDIS.out HD1.out K1.out.of_nil (fun x h => .inl h)⟩
  | none =>
    rw [hm] at hl
    have hP : putP D S s = match writeP D S.at_ s (secs s.length - 1) with
      | (false, D1) => (14, D1, S)
      | (true, D1) =>
        if D1.fuse = 0 then (14, D1, S)
        else if (D1.add S.at_ (headL s)).fuse = 0 then (14, D1.add S.at_ (headL s), S)
        else (0, (D1.add S.at_ (headL s)).synced, kept1 S s) := by unfold putP; rw [hm]; rfl
    have HP := Lib.hid hP
    have HM := Lib.hid hm
    have HD1 := Lib.hid hd1
    have hn8 : decide ((8000 : Int) < (s.length : Int)) = false := by simp; omega
    have hrm : decide ((D.sure.length : Int) < (S.at_ : Int) + (secs s.length : Int)) = false := by simp; omega
    have hsz := fun nq => size_any D (HD1.out.keep (L' := []) ((Keeps.refl [] W1).drewN nq) (by simp))
    have HSZ := Lib.hid hsz
    clear hm hP hd1 hsz
    go_wp2_with (go_at_call 61; refine (sectors_any s.length (by omega) _).mono ?_; rintro e w5 ⟨rfl, rfl⟩)
    go_quiet ((go_at_call 40; exact Calls.quiet_of_same ((HSZ.out _).mono fun e w' ⟨h1, h2⟩ => ⟨h1, h2.symm⟩)))
    have HCX := Lib.hid (show W1.cell? ⟨gx, 0, none⟩ = some (.pointer (some ⟨gd, 0, none⟩)) ∧ W1.cell? ⟨gx, 1, none⟩ = some (.int .i64 (S.at_ : Int)) from ⟨c0, c1⟩)
    have KD : ∀ nq, Keeps Ld W1 (W1.drewN nq) := fun nq => (Keeps.refl Ld W1).drewN nq
    have HKD := Lib.hid KD
    have HGX := Lib.hid (HDIS.out gx H4.out)
    clear c0 c1 c3 hl KD hn8 hrm
    go_wp2
    go_loopw [10] (fun i wr => ∃ k Dn Ln, k + 1 ≤ secs s.length ∧ i = .int .i64 ((k + 1 : Nat) : Int) ∧ writeP D S.at_ s k = (true, Dn) ∧ Dsk wr Ln gd Dn ∧ Keeps Ld W1 wr ∧ (∀ x ∈ Ln, x ∈ Ld ∨ W1.heap.size ≤ x)) (fun i _ => secs s.length - (intOf i).toNat)
    case atStart => exact ⟨0, D, Ld, by omega, rfl, rfl, HD1.out.keep (L' := []) ((Keeps.refl [] W1).drewN _) (by simp), HKD.out _, fun x h => .inl h⟩
    case round =>
      obtain ⟨k, Dn, Ln, hk, rfl, hwn, hdn, hkn, hLn⟩ := hrel
      have hf1 := (writeP_facts D S.at_ s k).1
      have hf2 := (writeP_facts D S.at_ s k).2
      rw [hwn] at hf1 hf2
      simp only at hf1 hf2
      have hsl : Dn.sure.length = D.sure.length := by rw [hf1]
      have hwl2 : Dn.wait.length ≤ 4294967296 := by unfold secs at hk; omega
      have x0 := hkn.cell_of (p := ⟨gx, 0, none⟩) HCX.out.1 HGX.out
      have x1 := hkn.cell_of (p := ⟨gx, 1, none⟩) HCX.out.2 HGX.out
      have hgn : gx ∉ Ln := fun hm => by
        rcases hLn gx hm with h | h
        · exact HGX.out h
        · have := World.block_lt_of_cell? _ _ HCX.out.1
          simp only at this; omega
      have HGN := Lib.hid hgn
      clear hgn
      have HWN := Lib.hid hwn
      have HDN := Lib.hid hdn
      have HKN := Lib.hid hkn
      have HLN := Lib.hid hLn
      have HSL := Lib.hid hsl
      clear hwn hdn hkn hLn hf1 hf2 hsl
      rw [show ((k + 1 : Nat) : Int) = (k : Int) + 1 by omega]
      by_cases hlt : k + 1 < secs s.length
      · have hkl2 : 64 * k < s.length := by unfold secs at hlt; omega
        obtain ⟨c, hc⟩ : ∃ c, 64 * k = c := ⟨_, rfl⟩
        obtain ⟨p, hp⟩ : ∃ p, S.at_ + 1 + k = p := ⟨_, rfl⟩
        have e0 : (k : Int) * 64 = (c : Int) := by omega
        have w0 : IntKind.i64.wrap (c : Int) = (c : Int) := IntWalk.i64_in _ (by omega)
        have w1 : IntKind.i64.wrap ((c : Int) + 64) = (c : Int) + 64 := IntWalk.i64_in _ (by omega)
        have w2 : IntKind.i64.wrap ((S.at_ : Int) + ((k : Int) + 1)) = (p : Int) := by rw [IntWalk.i64_in _ (by omega)]; omega
        have n1 : (0 : Int) ≤ (c : Int) + 64 := by omega
        have n2 : (c : Int) ≤ (c : Int) + 64 := by omega
        have n4 : ((c : Int) + 64).toNat = c + 64 := by omega
        have n5 : c + 64 - c = 64 := by omega
        have hcl : (c : Int) ≤ (s.length : Int) := by omega
        have hpl : p < Dn.sure.length := by have := HSL.out; omega
        have HC := Lib.hid hc
        have HPP := Lib.hid hp
        have hch : chunk s k = (s.take (c + 64)).drop c := by unfold chunk; rw [hc, List.drop_take, n5]
        have hcl2 : (chunk s k).length ≤ 64 := by unfold chunk; rw [List.length_take]; omega
        have HCH := Lib.hid hch
        have HCL2 := Lib.hid hcl2
        clear hc hp hkl2 hch hcl2
        have hslA : c + 64 ≤ s.length → ∀ W, (Instr.slice 9 (.string (bs s)) (some (.int .i64 (c : Int))) (some (.int .i64 ((c : Int) + 64))) none).run Tryd.prog W = .ok (.string (bs (chunk s k))) W := fun hle W => by
          rw [HCH.out]
          exact slice_str Tryd.underlying9 s c (c + 64) (by omega) hle W
        have hslB : s.length ≤ c + 64 → ∀ W, (Instr.slice 9 (.string (bs s)) (some (.int .i64 (c : Int))) (some (.int .i64 (s.length : Int))) none).run Tryd.prog W = .ok (.string (bs (chunk s k))) W := fun hle W => by
          have e : chunk s k = (s.take s.length).drop c := by rw [HCH.out, List.take_of_length_le (Nat.le_refl _), List.take_of_length_le hle]
          rw [e]
          exact slice_str Tryd.underlying9 s c s.length (by omega) (Nat.le_refl _) W
        have HSA := Lib.hid hslA
        have HSB := Lib.hid hslB
        have hpa : Dn.fuse = 0 → putP D S s = (14, Dn, S) := fun hf => by
          have := writeP_false D S.at_ s (k := k + 1) Dn (by unfold writeP; rw [HWN.out]; simp only [if_pos hf]) (secs s.length - 1) (by omega)
          rw [HP.out, this]
        have HPA := Lib.hid hpa
        clear hpa hslA hslB
        by_cases hf : Dn.fuse = 0
        · have hws := fun W1 (q : Keeps [] wr W1) => write_spent Dn (HDN.out.keep q (by simp)) p (chunk s k) hpl HCL2.out hf
          have HWS := Lib.hid hws
          have HE := Lib.hid (HPA.out hf)
          clear hws hf
          by_cases hmn : (c : Int) + 64 ≤ (s.length : Int)
          · have hsl := HSA.out (by omega)
            have hmn4 : ((s.length : Int) < (c : Int) + 64) = False := eq_false (by omega)
            go_wp2_with fail
            go_region_held3 (fun w' => w'.cell? ⟨gx, 0, none⟩ = some (.pointer (some ⟨gd, 0, none⟩)) ∧ w'.cell? ⟨gx, 1, none⟩ = some (.int .i64 (S.at_ : Int))) (first | exact ⟨x0, x1⟩ | go_keep) (first | (go_at_call 13; refine (HWS.out _ (Keeps.drew (Keeps.refl _ _))).mono ?_; rintro e w5 ⟨rfl, rfl⟩))
            all_goals go_wp2
            all_goals go_ret2
            all_goals rw [HE.out]
            all_goals exact ⟨rfl, put_same HX.out HDIS.out (HDN.out.keep (L' := []) (Keeps.drew (Keeps.refl _ _)) (by simp)) ((K1.out.of_nil.trans HKN.out).drew) (fun x hx => (HLN.out x hx).imp id (fun h => Nat.le_trans K1.out.size h))⟩
          · have hsl := HSB.out (by omega)
            have hmn3 : (s.length : Int) < (c : Int) + 64 := by omega
            go_wp2_with fail
            go_region_held3 (fun w' => w'.cell? ⟨gx, 0, none⟩ = some (.pointer (some ⟨gd, 0, none⟩)) ∧ w'.cell? ⟨gx, 1, none⟩ = some (.int .i64 (S.at_ : Int))) (first | exact ⟨x0, x1⟩ | go_keep) (first | (go_at_call 13; refine (HWS.out _ (Keeps.drew (Keeps.refl _ _))).mono ?_; rintro e w5 ⟨rfl, rfl⟩))
            all_goals go_wp2
            all_goals go_ret2
            all_goals rw [HE.out]
            all_goals exact ⟨rfl, put_same HX.out HDIS.out (HDN.out.keep (L' := []) (Keeps.drew (Keeps.refl _ _)) (by simp)) ((K1.out.of_nil.trans HKN.out).drew) (fun x hx => (HLN.out x hx).imp id (fun h => Nat.le_trans K1.out.size h))⟩
        · have hws := fun W1 (q : Keeps [] wr W1) => write_ok Dn (HDN.out.keep q (by simp)) p (chunk s k) hpl HCL2.out hf hwl2
          have HWS := Lib.hid hws
          have hwn2 : writeP D S.at_ s (k + 1) = (true, Dn.add p (chunk s k)) := by unfold writeP; rw [HWN.out]; simp only [if_neg hf]; rw [HPP.out]
          have HWN2 := Lib.hid hwn2
          clear hws hf hwn2
          by_cases hmn : (c : Int) + 64 ≤ (s.length : Int)
          · have hsl := HSA.out (by omega)
            have hmn4 : ((s.length : Int) < (c : Int) + 64) = False := eq_false (by omega)
            go_wp2_with fail
            go_region_held3 (fun w' => w'.cell? ⟨gx, 0, none⟩ = some (.pointer (some ⟨gd, 0, none⟩)) ∧ w'.cell? ⟨gx, 1, none⟩ = some (.int .i64 (S.at_ : Int))) (first | exact ⟨x0, x1⟩ | exact ⟨k5.cell_of (p := ⟨gx, 0, none⟩) x0 HGN.out, k5.cell_of (p := ⟨gx, 1, none⟩) x1 HGN.out⟩ | go_keep) (first | (go_at_call 13; refine (HWS.out _ (Keeps.drew (Keeps.refl _ _))).mono ?_; rintro e w5 ⟨rfl, L5, d5, k5, l5⟩))
            all_goals go_wp2
            go_roundw
            case rel => exact ⟨k + 1, _, L5, by omega, by congr 1, HWN2.out, d5, HKN.out.trans' ((Keeps.drew (Keeps.refl _ _)).trans k5) (fun x hx hl => (HLN.out x hx).elim id (fun h => by omega)), fun x hx => (l5 x hx).elim (fun h => HLN.out x h) (fun h => .inr (Nat.le_trans HKN.out.size h))⟩
            case measure => simp [intOf]; omega
          · have hsl := HSB.out (by omega)
            have hmn3 : (s.length : Int) < (c : Int) + 64 := by omega
            go_wp2_with fail
            go_region_held3 (fun w' => w'.cell? ⟨gx, 0, none⟩ = some (.pointer (some ⟨gd, 0, none⟩)) ∧ w'.cell? ⟨gx, 1, none⟩ = some (.int .i64 (S.at_ : Int))) (first | exact ⟨x0, x1⟩ | exact ⟨k5.cell_of (p := ⟨gx, 0, none⟩) x0 HGN.out, k5.cell_of (p := ⟨gx, 1, none⟩) x1 HGN.out⟩ | go_keep) (first | (go_at_call 13; refine (HWS.out _ (Keeps.drew (Keeps.refl _ _))).mono ?_; rintro e w5 ⟨rfl, L5, d5, k5, l5⟩))
            all_goals go_wp2
            go_roundw
            case rel => exact ⟨k + 1, _, L5, by omega, by congr 1, HWN2.out, d5, HKN.out.trans' ((Keeps.drew (Keeps.refl _ _)).trans k5) (fun x hx hl => (HLN.out x hx).elim id (fun h => by omega)), fun x hx => (l5 x hx).elim (fun h => HLN.out x h) (fun h => .inr (Nat.le_trans HKN.out.size h))⟩
            case measure => simp [intOf]; omega
      · have hkk : secs s.length - 1 = k := by omega
        have hP2 : putP D S s = if Dn.fuse = 0 then (14, Dn, S) else if (Dn.add S.at_ (headL s)).fuse = 0 then (14, Dn.add S.at_ (headL s), S) else (0, (Dn.add S.at_ (headL s)).synced, kept1 S s) := by
          rw [HP.out, hkk, HWN.out]
        have HP2 := Lib.hid hP2
        have hhl := headL_length s
        have HHL := Lib.hid (show (headL s).length ≤ 64 by omega)
        have hRr := Lib.hid (HR.out.keep (K1.out.of_nil.trans HKN.out) hRL)
        have hat : S.at_ < Dn.sure.length := by have := HSL.out; omega
        clear hkk hP2 hhl
        have hhd := fun W2 (q : Keeps [] wr W2) => head_any s (by omega) W2 (hRr.out.quiet q)
        have HHD := Lib.hid hhd
        clear hhd
        by_cases hf : Dn.fuse = 0
        · have hws := fun W2 (q : Keeps [] wr W2) => write_spent Dn (HDN.out.keep q (by simp)) S.at_ (headL s) hat HHL.out hf
          have HWS := Lib.hid hws
          have HE := Lib.hid (HP2.out.trans (if_pos hf))
          clear hws hf
          go_wp2_with fail
          go_region_held3 (fun w' => w'.cell? ⟨gx, 0, none⟩ = some (.pointer (some ⟨gd, 0, none⟩)) ∧ w'.cell? ⟨gx, 1, none⟩ = some (.int .i64 (S.at_ : Int))) (first | exact ⟨x0, x1⟩ | exact ⟨k5.cell_of (p := ⟨gx, 0, none⟩) x0 (by simp), k5.cell_of (p := ⟨gx, 1, none⟩) x1 (by simp)⟩ | go_keep) (first | (go_at_call 62; refine (HHD.out _ (Keeps.drew (Keeps.refl _ _))).mono ?_; rintro e w5 ⟨rfl, k5⟩) | (go_at_call 13; refine (HWS.out _ ((Keeps.drew (Keeps.refl _ _)).trans k5)).mono ?_; rintro e w6 ⟨rfl, rfl⟩))
          all_goals go_wp2
          all_goals go_ret2
          all_goals rw [HE.out]
          all_goals exact ⟨rfl, put_same HX.out HDIS.out (HDN.out.keep (L' := []) ((Keeps.drew (Keeps.refl _ _)).trans k5) (by simp)) ((K1.out.of_nil.trans HKN.out).trans ((Keeps.drew (Keeps.refl _ _)).trans k5.of_nil)) (fun x hx => (HLN.out x hx).imp id (fun h => Nat.le_trans K1.out.size h))⟩
        · have hws := fun W2 (q : Keeps [] wr W2) => write_ok Dn (HDN.out.keep q (by simp)) S.at_ (headL s) hat HHL.out hf hwl2
          have HWS := Lib.hid hws
          have HP3 := Lib.hid (HP2.out.trans (if_neg hf))
          clear hws hf
          go_wp2_with fail
          go_region_held3 (fun w' => w'.cell? ⟨gx, 0, none⟩ = some (.pointer (some ⟨gd, 0, none⟩)) ∧ w'.cell? ⟨gx, 1, none⟩ = some (.int .i64 (S.at_ : Int))) (first | exact ⟨x0, x1⟩ | exact ⟨k5.cell_of (p := ⟨gx, 0, none⟩) x0 (by simp), k5.cell_of (p := ⟨gx, 1, none⟩) x1 (by simp)⟩ | exact ⟨k6.cell_of (p := ⟨gx, 0, none⟩) (k5.cell_of (p := ⟨gx, 0, none⟩) x0 (by simp)) HGN.out, k6.cell_of (p := ⟨gx, 1, none⟩) (k5.cell_of (p := ⟨gx, 1, none⟩) x1 (by simp)) HGN.out⟩ | go_keep) (first | (go_at_call 62; refine (HHD.out _ (Keeps.drew (Keeps.refl _ _))).mono ?_; rintro e w5 ⟨rfl, k5⟩) | (go_at_call 13; refine (HWS.out _ ((Keeps.drew (Keeps.refl _ _)).trans k5)).mono ?_; rintro e w6 ⟨rfl, L6, d6, k6, l6⟩))
          have k56 : Keeps Ln wr w6 := ((Keeps.drew (Keeps.refl _ _)).trans k5.of_nil).trans k6
          have K56 := Lib.hid k56
          have hD3 : { Dn.burnt with wait := Dn.wait ++ [(S.at_, padded (headL s))] } = Dn.add S.at_ (headL s) := rfl
          rw [hD3] at d6
          have hk6 : Keeps Ld w w6 := (K1.out.of_nil.trans HKN.out).trans' k56 (fun x hx hl => (HLN.out x hx).elim id (fun h => by have := K1.out.size; omega))
          have hl6 : ∀ x ∈ L6, x ∈ Ld ∨ w.heap.size ≤ x := fun x hx => (l6 x hx).elim (fun h => (HLN.out x h).imp id (fun h => Nat.le_trans K1.out.size h)) (fun h => .inr (by have := K1.out.size; have := HKN.out.size; have := k5.size; simp at this; omega))
          have y0 := k6.cell_of (k5.cell_of (p := ⟨gx, 0, none⟩) x0 (by simp)) HGN.out
          have D6 := Lib.hid d6
          have HK6 := Lib.hid hk6
          have HL6 := Lib.hid hl6
          clear k5 k6 k56 d6 hk6 hl6 l6 hD3
          by_cases hf2 : (Dn.add S.at_ (headL s)).fuse = 0
          · have HE := Lib.hid (HP3.out.trans (if_pos hf2))
            have hsy := Lib.hid (sync_spent _ D6.out hf2)
            clear hf2
            go_wp2_with (go_at_call 17; refine hsy.out.mono ?_; rintro e w7 ⟨rfl, rfl⟩)
            go_ret2
            rw [HE.out]
            exact ⟨rfl, put_same HX.out HDIS.out D6.out HK6.out HL6.out⟩
          · have HE := Lib.hid (HP3.out.trans (if_neg hf2))
            have hw6 : (Dn.add S.at_ (headL s)).wait.length ≤ 4294967296 := by rw [add_wait, List.length_append]; simp only [List.length_cons, List.length_nil]; have := (writeP_facts D S.at_ s k).2; rw [HWN.out] at this; simp only at this; unfold secs at hk; omega
            have hsy := Lib.hid (sync_ok _ D6.out hf2 hw6)
            clear hf2 hw6
            go_wp2_with (go_at_call 17; refine hsy.out.mono ?_; rintro e w7 ⟨rfl, d7, k7⟩)
            have hk7 : Keeps Ld w w7 := HK6.out.trans' k7 (fun x hx hl => (HL6.out x hx).elim id (fun h => by omega))
            have hx7 := HX.out.keep hk7 HDIS.out
            have hR7 := HR.out.keep hk7 hRL
            have hlx : ∀ x ∈ Lx, x < w.heap.size := HX.out.lt
            have D7 := Lib.hid d7
            have HK7 := Lib.hid hk7
            have HX7 := Lib.hid hx7
            have HLX := Lib.hid hlx
            clear d7 k7 hk7 hx7 hlx
            refine (keep_any HX7.out hR7 s (by omega) (by omega) (by omega)).mono ?_
            rintro ev w8 ⟨rfl, Lx8, x8, k8, l8⟩
            have X8 := Lib.hid x8
            have K8 := Lib.hid k8
            have L8 := Lib.hid l8
            clear x8 k8 l8 hR7
            go_wp2
            go_ret2
            rw [HE.out]
            have hd6 : ∀ x ∈ Lx8, x ∉ L6 := fun x hx hm => by
              rcases L8.out x hx with h | h
              · rcases HL6.out x hm with h2 | h2
                · exact HDIS.out x h h2
                · have := HLX.out x h; omega
              · have := D7.out.lt x hm
                omega
            refine ⟨rfl, L6, Lx8, D7.out.keep K8.out (fun x hx hl hm => ?_), X8.out, ?_, HL6.out, fun x hx => (L8.out x hx).imp id (fun h => Nat.le_trans HK7.out.size h), hd6⟩
            · rcases HL6.out x hm with h2 | h2
              · exact HDIS.out x hx h2
              · have := HLX.out x hx; omega
            · exact (HK7.out.weaken (fun x hx _ => List.mem_append.2 (.inl hx))).trans (K8.out.weaken (fun x hx _ => List.mem_append.2 (.inr hx)))
end Go.Proofs.YtjoolemhcpcnoaaDoor
