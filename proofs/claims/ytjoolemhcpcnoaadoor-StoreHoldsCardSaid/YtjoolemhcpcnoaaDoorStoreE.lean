/- store: Keys, Open. -/
import Derived.Test.YtjoolemhcpcnoaaDoorStoreD
import Derived.Laws.AppendOwnNone
namespace Go.Proofs.YtjoolemhcpcnoaaDoor
open Go.RowKit
attribute [local go_sem] bs_size bs_extract bs_append bs_toList errV_0 errV_2 errV_4 errV_14
theorem own_empty (w : World) (e : TypeId) (base : Nat) (hb : base ≤ w.heap.size) : (w.alloc (.cells #[] e)).ownsRow base e 1 (.slice (some ⟨w.heap.size, 0, none⟩) 0 0) 0 [] :=
  ⟨rfl, .inr ⟨w.heap.size, 0, #[], rfl, hb, heap_alloc_new _ _, Nat.le_refl _, Nat.zero_le _, rfl, rfl⟩⟩
set_option maxRecDepth 100000 in
theorem keys_any {w : World} {L : List Nat} {gx gd : Nat} {S : Sr} (h : Sto w L gx gd S) (hkl : S.keys.length ≤ 1000000) :
    Calls Tryd.prog 30 #[.pointer (some ⟨gx, 0, none⟩)] w fun ev w' => ∃ A c, ev = .returned (.slice A S.keys.length c) ∧ w'.ownsRow w.heap.size 9 1 (.slice A S.keys.length c) S.keys.length (strs S.keys) ∧ Keeps [] w w' := by
  obtain ⟨v, bm, h1, h2, h3, h4, h5, h6, h7⟩ := h
  have c2 : w.cell? ⟨gx, 2, none⟩ = some v := by rw [h1.cell]; rfl
  obtain ⟨i0, hi, hz0, hz1, hz2⟩ := info_parts sinfo
  have hoe := own_empty w 9 w.heap.size (Nat.le_refl _)
  have HE := Lib.hid hoe
  clear hoe
  have H2 := Lib.hid h2
  clear h1 h3
  rcases h2.2 with ⟨rfl, h0⟩ | ⟨g, cap, cur, rfl, hb, hh, hr⟩
  · have h0' : S.keys = [] := List.eq_nil_of_length_eq_zero h0
    rw [h0']
    clear h2 h0 h0' hkl
    go_enter Tryd.func30, Tryd.ntmps30
    go_wp2_with (at_builtin; refine wpList_append_own_none rfl _ _ 22 rfl w.heap.size 9 i0 1 Tryd.underlying22 hi (.slice (some ⟨w.heap.size, 0, none⟩) 0 0) 0 [] rfl HE.out rfl ?_)
    go_ret
    exact ⟨_, _, rfl, HE.out, (Keeps.refl _ _).alloc _⟩
  · have hcs := H2.out.cells (g := g) rfl
    have hnn : ∀ j u, (strs S.keys)[j]? = some u → (w.alloc (.cells #[] 9)).cell? ((⟨g, 0, none⟩ : Addr).add j) = some u := fun j u hu => ((Keeps.refl [] w).alloc _).cell_of (hcs j u hu) (by simp)
    have HNN := Lib.hid hnn
    have hkb := Lib.hid (show 0 + S.keys.length ≤ maxLen ∧ (0 + S.keys.length) * 16 ≤ 140737488355328 by simp only [maxLen]; omega)
    clear h2 hcs hnn hh hr
    go_enter Tryd.func30, Tryd.ntmps30
    go_wp2_with (at_builtin; refine wpList_append_own _ rfl _ _ 22 rfl w.heap.size 9 i0 _ 1 16 Tryd.underlying22 hi hz0 hz1 hz2 rfl (by decide) (.slice (some ⟨w.heap.size, 0, none⟩) 0 0) 0 [] rfl HE.out ⟨g, 0, none⟩ S.keys.length cap (strs S.keys) rfl (by simp [strs]) HNN.out (strs_oneCell _) hkb.out.1 hkb.out.2 (by simp) ?_; intro v3 w3 hown3 hgrow3 hat3)
    obtain ⟨A, c, rfl, -⟩ := own_form hown3
    go_ret
    rw [Nat.zero_add, List.nil_append] at hown3
    exact ⟨A, c, by rw [Nat.zero_add]; rfl, hown3, ((Keeps.refl [] w).alloc _).grown hgrow3 (fun k hk => .inr (by injection hk with hk; exact Nat.le_of_eq hk))⟩
/-- The store of a disk on which nothing is known yet. -/
def Sr.new : Sr := { at_ := 2, keys := [], m := fun _ => none }
/-- Reading on, so many records at most. -/
def openP (D : Dk) : Nat → Sr → Sr
  | 0, S => S
  | n + 1, S => if S.at_ < D.sure.length ∧ (oneF D S.at_).2 = true then openP D n (kept1 S (oneF D S.at_).1) else S
theorem kept1_at (S : Sr) (s : Bs) : (kept1 S s).at_ = S.at_ + secs s.length := by unfold kept1; split <;> rfl
theorem kept1_len (S : Sr) (s : Bs) : (kept1 S s).keys.length ≤ S.keys.length + 1 := by unfold kept1; split <;> simp
theorem openP_done (D : Dk) (n : Nat) (S : Sr) (h : D.sure.length ≤ S.at_ ∨ (oneF D S.at_).2 = false) : openP D n S = S := by
  cases n with
  | zero => rfl
  | succ n =>
    unfold openP
    rw [if_neg]
    rintro ⟨h1, h2⟩
    rcases h with h | h
    · omega
    · rw [h] at h2; cases h2
theorem openP_more (D : Dk) (n : Nat) (S : Sr) (h : S.at_ < D.sure.length) (h2 : (oneF D S.at_).2 = true) : openP D (n + 1) S = openP D n (kept1 S (oneF D S.at_).1) := by
  conv => lhs; unfold openP
  rw [if_pos ⟨h, h2⟩]
theorem oneF_le {D : Dk} {a : Nat} (h : (oneF D a).2 = true) : (oneF D a).1.length ≤ 8000 ∧ a + secs (oneF D a).1.length ≤ D.sure.length := by
  unfold oneF at h ⊢
  by_cases hb : bad D a
  · rw [if_pos hb] at h; cases h
  · rw [if_neg hb]
    have hb2 : ¬ (8000 < lenR (D.at a)) ∧ ¬ (D.sure.length < a + secs (lenR (D.at a))) := ⟨fun h => hb (.inr (.inl h)), fun h => hb (.inr (.inr h))⟩
    simp only [List.length_take]
    have h1 : min (lenR (D.at a)) (joinR D a (secs (lenR (D.at a)) - 1)).length ≤ lenR (D.at a) := Nat.min_le_left _ _
    have h2 : secs (min (lenR (D.at a)) (joinR D a (secs (lenR (D.at a)) - 1)).length) ≤ secs (lenR (D.at a)) := by unfold secs; omega
    omega
set_option maxRecDepth 100000 in
set_option maxHeartbeats 2000000 in
theorem open_any {w : World} {L : List Nat} {gd : Nat} {D : Dk} (h : Dsk w L gd D) (hok : D.Ok) (hwl : D.wait.length ≤ 4294967296) (hR : Rnds w) (hRL : 1 ∉ L) :
    Calls Tryd.prog 28 #[.pointer (some ⟨gd, 0, none⟩)] w fun ev w' => ∃ gx L', ev = .returned (.tuple #[.pointer (some ⟨gx, 0, none⟩), .nilIface]) ∧ Sto w' L' gx gd (openP D D.sure.length Sr.new) ∧ Keeps [] w w' ∧ (∀ x ∈ L', w.heap.size ≤ x) := by
  have hmm := @run_makeMap Tryd.prog
  have h64 := h.small
  have HR := Lib.hid hR
  have HD := Lib.hid h
  have HOK := Lib.hid hok
  clear hR h hok
  go_enter Tryd.func28, Tryd.ntmps28
  go_wp2
  have hst : Sto ((w.alloc (.map #[] 0)).alloc (.cells #[.pointer (some ⟨gd, 0, none⟩), .int .i64 2, .slice none 0 0, .map (some w.heap.size)] 98)) [w.heap.size + 1, w.heap.size] (w.heap.size + 1) gd Sr.new := by
    refine ⟨.slice none 0 0, w.heap.size, ?_, World.ownsRow_nil _ _ _ _, ?_, by simp, by simp, by simp [Value.ownBlock], by simp; omega⟩
    · have := Blk.new (w.alloc (.map #[] 0)) 98 #[.pointer (some ⟨gd, 0, none⟩), .int .i64 2, .slice none 0 0, .map (some w.heap.size)]
      simpa [Sr.new] using this
    · exact (MapOf.made w).keep ((Keeps.refl [] _).alloc _) (by simp)
  have hk0 : Keeps [] w ((w.alloc (.map #[] 0)).alloc (.cells #[.pointer (some ⟨gd, 0, none⟩), .int .i64 2, .slice none 0 0, .map (some w.heap.size)] 98)) := ((Keeps.refl [] w).alloc _).alloc _
  generalize (w.alloc (.map #[] 0)).alloc (.cells #[.pointer (some ⟨gd, 0, none⟩), .int .i64 2, .slice none 0 0, .map (some w.heap.size)] 98) = W0 at hst hk0 ⊢
  have hlx : ∀ x ∈ [w.heap.size + 1, w.heap.size], w.heap.size ≤ x := by simp
  generalize w.heap.size + 1 = gx at hst hlx ⊢
  generalize [gx, w.heap.size] = L0 at hst hlx
  have HST := Lib.hid hst
  have HK0 := Lib.hid hk0
  have HLX := Lib.hid hlx
  clear hst hk0 hlx hmm
  go_loopw [5] (fun _ wr => ∃ S L' n, Sto wr L' gx gd S ∧ Keeps [] w wr ∧ (∀ x ∈ L', w.heap.size ≤ x) ∧ openP D D.sure.length Sr.new = openP D n S ∧ D.sure.length ≤ S.at_ + n ∧ S.keys.length ≤ S.at_ ∧ S.at_ ≤ 20000) (fun _ wr => match wr.cell? ⟨gx, 1, none⟩ with | some v => D.sure.length - (intOf v).toNat | none => 0)
  case atStart => exact ⟨_, _, _, HST.out, HK0.out, HLX.out, rfl, by omega, by simp [Sr.new], by simp [Sr.new]⟩
  case round =>
    obtain ⟨S, L1, n, hS, hkr, hL1, hop, hn, hkl, hat⟩ := hrel
    have hc1 : wr.cell? ⟨gx, 1, none⟩ = some (.int .i64 (S.at_ : Int)) := by obtain ⟨v, bm, h1, _⟩ := hS; rw [h1.cell]; rfl
    have hc0 : wr.cell? ⟨gx, 0, none⟩ = some (.pointer (some ⟨gd, 0, none⟩)) := by obtain ⟨v, bm, h1, _⟩ := hS; rw [h1.cell]; rfl
    have HDr := Lib.hid (HD.out.keep (L' := []) hkr (by simp))
    have hsz := fun nq => size_any D (HDr.out.keep (L' := []) ((Keeps.refl [] wr).drewN nq) (by simp))
    have HSZ := Lib.hid hsz
    have HS := Lib.hid hS
    have HKR := Lib.hid hkr
    have HL1 := Lib.hid hL1
    have HOP := Lib.hid hop
    clear hsz hS hkr hL1 hop
    have KD : ∀ nq, Keeps [] wr (wr.drewN nq) := fun nq => (Keeps.refl [] wr).drewN nq
    have HKD := Lib.hid KD
    clear KD
    by_cases hlt : S.at_ < D.sure.length
    · have hltd : decide (S.at_ < D.sure.length) = true := by simpa using hlt
      have hone := fun nq => one_any (HDr.out.keep (L' := []) (HKD.out nq) (by simp)) HOK.out hwl (HR.out.quiet (HKR.out.drewN nq)) ((HKD.out nq).cell_of hc0 (by simp)) S.at_ hlt
      cases hb : (oneF D S.at_).2 with
      | true =>
        rw [hb] at hone
        have HONE := Lib.hid hone
        have hle := oneF_le hb
        have HOP2 := Lib.hid (openP_more D (n - 1) S hlt hb)
        obtain ⟨s, hs⟩ : ∃ s, (oneF D S.at_).1 = s := ⟨_, rfl⟩
        rw [hs] at HONE hle HOP2
        have hs1 : 1 ≤ secs s.length := by unfold secs; omega
        have hs2 : s.length ≤ 8000 := hle.1
        have HLE := Lib.hid hle.2
        clear hone hb hs hle
        go_wp2_with fail
        go_quiet ((go_at_call 40; exact Calls.quiet_of_same ((HSZ.out _).mono fun e w' ⟨h1, h2⟩ => ⟨h1, h2.symm⟩)))
        go_wp2_with fail
        refine (HONE.out _).mono ?_
        rintro ev W5 ⟨rfl, k5⟩
        have K5 := Lib.hid ((HKD.out _).trans k5)
        clear k5
        go_wp2_with fail
        refine (keep_any (HS.out.quiet K5.out) (HR.out.quiet (HKR.out.trans K5.out)) s (by omega) (by omega) (by omega)).mono ?_
        rintro ev W6 ⟨rfl, L6, s6, k6, hl6⟩
        have K6 : Keeps [] w W6 := (HKR.out.trans K5.out).trans' k6 (fun x hx hl => by have := HL1.out x hx; omega)
        have hsz5 : w.heap.size ≤ W5.heap.size := (HKR.out.trans K5.out).size
        have hc6 : W6.cell? ⟨gx, 1, none⟩ = some (.int .i64 ((S.at_ + secs s.length : Nat) : Int)) := by
          obtain ⟨v, bm, h1, _⟩ := s6
          rw [kept1_at] at h1
          rw [h1.cell]; rfl
        have HS6 := Lib.hid s6
        have HK6 := Lib.hid K6
        have HL6 := Lib.hid hl6
        have HC6 := Lib.hid hc6
        have HC1 := Lib.hid hc1
        clear s6 k6 K6 hl6 hc6 hc0 hc1
        go_wp2
        go_roundw
        case rel =>
          refine ⟨kept1 S s, L6, n - 1, HS6.out, HK6.out, fun x hx => ?_, ?_, ?_, ?_, ?_⟩
          · rcases HL6.out x hx with h | h
            · exact HL1.out x h
            · omega
          · rw [HOP.out, ← HOP2.out, show n - 1 + 1 = n by omega]
          · rw [kept1_at]; omega
          · have := kept1_len S s
            rw [kept1_at]; omega
          · rw [kept1_at]; have := HLE.out; omega
        case measure =>
          rw [HC6.out, HC1.out]
          simp only [intOf]
          have := HLE.out
          omega
      | false =>
        rw [hb] at hone
        have HONE := Lib.hid hone
        have HEND := Lib.hid (HOP.out.trans (openP_done D n S (.inr hb)))
        clear hone hb
        go_wp2_with fail
        go_quiet ((go_at_call 40; exact Calls.quiet_of_same ((HSZ.out _).mono fun e w' ⟨h1, h2⟩ => ⟨h1, h2.symm⟩)))
        go_wp2_with fail
        refine (HONE.out _).mono ?_
        rintro ev W5 ⟨rfl, k5⟩
        have K5 := Lib.hid ((HKD.out _).trans k5)
        clear k5
        go_wp2
        go_ret2
        exact ⟨gx, L1, rfl, by rw [HEND.out]; exact HS.out.quiet K5.out, HKR.out.trans K5.out, HL1.out⟩
    · have hltd : decide (S.at_ < D.sure.length) = false := by simpa using hlt
      have HEND := Lib.hid (HOP.out.trans (openP_done D n S (.inl (by omega))))
      go_wp2_with fail
      go_quiet ((go_at_call 40; exact Calls.quiet_of_same ((HSZ.out _).mono fun e w' ⟨h1, h2⟩ => ⟨h1, h2.symm⟩)))
      go_wp2
      go_ret2
      exact ⟨gx, L1, rfl, by rw [HEND.out]; exact HS.out.quiet (HKD.out _), HKR.out.trans (HKD.out _), HL1.out⟩
end Go.Proofs.YtjoolemhcpcnoaaDoor
