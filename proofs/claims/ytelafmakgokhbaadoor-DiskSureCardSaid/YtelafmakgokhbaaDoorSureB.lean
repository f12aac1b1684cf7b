/- DiskSure: the closure that writes a list. -/
import Derived.Test.YtelafmakgokhbaaDoorSureA
namespace Go.Proofs.YtelafmakgokhbaaDoor
open Go.RowKit Go.BigFrame
attribute [local go_sem] bs_size bs_extract bs_append bs_toList errV_0 errV_2 errV_4 errV_14 KW.cell
theorem ints_at' (l : List Int) (j : Nat) (h : j < l.length) : (ints l)[j]? = some (.int .i64 l[j]) := by simp [ints, h]
theorem ints_len' (l : List Int) : (ints l).length = l.length := by simp [ints]
theorem write_pad {D : Dk} (hD : D.sure.length = 16) (hf : D.fuse = -1) {p : Nat} (hp : p < 16) {s : Bs} (hs : s.length = 64) : D.write (p : Int) s = (0, { D with wait := D.wait ++ [(p, s)] }) := by
  unfold Dk.write
  rw [if_neg (by rw [hD]; omega), if_neg (by omega), if_neg (by rw [hf]; decide), Int.toNat_natCast]
  have : D.burnt = D := by unfold Dk.burnt; rw [if_neg (by rw [hf]; decide)]
  rw [this, padded_full hs]
set_option maxHeartbeats 4000000 in
set_option maxRecDepth 100000 in
theorem put_any {w0 : World} {bm base x1 x2 x3 x4 : Nat} {B : Option Addr} {e : Nat} (first : Bool) (l : List Bs) (at_ : List Int) (hs : ∀ s ∈ l, s.length ≤ 64) (hl : l.length ≤ 20) (ha : 0 < at_.length) (ha2 : at_.length ≤ 20) (A : Option Addr) (c : Nat)
    (hA : Rd w0 [] 1 A l.length (strs l)) (hB : Rd w0 [] 1 B at_.length (ints at_)) {W : World} {L : List Nat} {g n : Nat} {D : Dk} {m : May}
    (h : SS w0 W L g bm base x1 x2 x3 x4 B at_.length e D n m) (hD : D.sure.length = 16) (hf : D.fuse = -1) (hwl : D.wait.length ≤ 100) (hn : n ≤ 200) (hml : ∀ j l, m j = some l → l.length ≤ 100) :
    Calls Tryd.prog 10 #[.slice A l.length c, .bool first, .pointer (some ⟨x1, 0, none⟩), .pointer (some ⟨x2, 0, none⟩), .pointer (some ⟨x3, 0, none⟩), .pointer (some ⟨x4, 0, none⟩)] W fun ev W' => ev = .returned (.tuple #[]) ∧
      ∃ L' n', SS w0 W' L' g bm base x1 x2 x3 x4 B at_.length e { D with wait := D.wait ++ wroteOf l at_ l.length } n' (mayAll first m (wroteOf l at_ l.length)) ∧ n' ≤ n + 2 * l.length := by
  obtain ⟨i0, hi, hz0, hz1, hz2⟩ := info_parts sinfo
  have H := Lib.hid h
  have HA := Lib.hid hA
  have HB := Lib.hid hB
  have HS := Lib.hid hs
  have HF := Lib.hid hf
  have HD := Lib.hid hD
  clear h hA hB hs hf hD
  go_enter Tryd.func10, Tryd.ntmps10
  go_wp2
  go_loopw [8] (fun i wx => ∃ k : Nat, k ≤ l.length ∧ i = .int .i64 (k : Int) ∧ ∃ L' n', n' ≤ n + 2 * k ∧ Hid (SS w0 wx L' g bm base x1 x2 x3 x4 B at_.length e { D with wait := D.wait ++ wroteOf l at_ k } n' (mayAll first m (wroteOf l at_ k)))) (fun i _ => l.length - (intOf i).toNat)
  case atStart => exact ⟨0, Nat.zero_le _, rfl, L, n, by omega, Lib.hid (by show SS _ _ _ _ _ _ _ _ _ _ _ _ _ { D with wait := D.wait ++ [] } _ _; rw [List.append_nil]; exact H.out)⟩
  case round =>
    clear H
    obtain ⟨k, hk, rfl, L', n', hn', H⟩ := hrel
    by_cases hlt : k < l.length
    · have hlt2 : (k : Int) < (l.length : Int) := by omega
      have hk0 : (0 : Int) ≤ (k : Int) := by omega
      obtain ⟨q, hq⟩ : ∃ q, k % at_.length = q := ⟨_, rfl⟩
      have hql : q < at_.length := by rw [← hq]; exact Nat.mod_lt _ ha
      have hrem : (k : Int).tmod (at_.length : Int) = (q : Int) := by rw [← hq]; rfl
      have hq1 : (q : Int) < (at_.length : Int) := by omega
      have hq0 : (0 : Int) ≤ (q : Int) := by omega
      have hqw : IntKind.i64.wrap (q : Int) = (q : Int) := IntWalk.i64_in _ (by omega)
      have hna : ¬ (at_.length : Int) = 0 := by omega
      have hkeep := H.out.da.2.1
      obtain ⟨b, o, rfl, _, hb, hcs⟩ := HA.out.open' (by omega) (by decide)
      obtain ⟨b2, o2, rfl, _, hb2, hcs2⟩ := HB.out.open' (by omega) (by decide)
      have d0 := hkeep.cell_of (hcs k _ (strs_at' l k hlt)) (by simp)
      have d1 := hkeep.cell_of (hcs2 q _ (ints_at' at_ q hql)) (by simp)
      have dl0 : b < wr.heap.size := World.block_lt_of_cell? _ _ d0
      have dl1 : b2 < wr.heap.size := World.block_lt_of_cell? _ _ d1
      have y1 : wr.cell? ⟨x1, 0, none⟩ = some (.slice (some ⟨b2, o2, none⟩) at_.length e) := H.out.b1.cell 0
      have y2 : wr.cell? ⟨x2, 0, none⟩ = some (.func (.func 8) #[] #[]) := H.out.b2.cell 0
      have l1 := H.out.b1.lt
      have l2 := H.out.b2.lt
      have hsk : l[k].length ≤ 64 := HS.out _ (List.getElem_mem hlt)
      have HFU := Lib.hid (fun W' (_ : Keeps [] wr W') => full_any l[k] hsk W')
      obtain ⟨p, hp⟩ : ∃ p, pickN (IntKind.i64.wrap (at_[q] + (k : Int))) 16 = p := ⟨_, rfl⟩
      have hp16 : p < 16 := by rw [← hp]; exact pickN_lt _ (by decide)
      have ew : wrap64 (at_[q] + (k : Int)) = IntKind.i64.wrap (at_[q] + (k : Int)) := (IntWalk.i64_left _).symm
      have HPK : Hid (∀ W', Keeps [] wr W' → Calls Tryd.prog 11 #[.int .i64 (wrap64 (at_[q] + (k : Int))), .int .i64 16] W' fun e W'' => e = .returned (.int .i64 (p : Int)) ∧ Keeps [] W' W'') := Lib.hid (fun W' _ => by
        rw [ew]
        refine (pick_any (IntKind.i64.wrap (at_[q] + (k : Int))) 16 (by decide) (by decide) W').mono ?_
        rintro e w' ⟨rfl, rfl⟩
        exact ⟨by rw [hp], Keeps.refl _ _⟩)
      have hlk : l.getD k [] = l[k] := by rw [List.getD_eq_getElem?_getD, List.getElem?_eq_getElem hlt]; rfl
      have haq : at_.getD (k % at_.length) 0 = at_[q] := by rw [hq, List.getD_eq_getElem?_getD, List.getElem?_eq_getElem hql]; rfl
      have HW1 : Hid (wroteOf l at_ (k + 1) = wroteOf l at_ k ++ [(p, padded l[k])]) := Lib.hid (by rw [wroteOf_succ, hlk, haq, hp])
      obtain ⟨s, hsp⟩ : ∃ s, padded l[k] = s := ⟨_, rfl⟩
      have hs64 : s.length = 64 := by rw [← hsp]; exact padded_length _ hsk
      have hwx := wroteOf_len l at_ k
      have HMA : Hid (mayAll first m (wroteOf l at_ (k + 1)) = mayPut first (mayAll first m (wroteOf l at_ k)) (p, padded l[k])) := Lib.hid (by rw [HW1.out, mayAll_snoc])
      have HML : Hid (∀ j l', mayAll first m (wroteOf l at_ k) j = some l' → l'.length ≤ 100 + k) := Lib.hid (fun j l' h => by have := may_len first m 100 hml _ j l' h; rw [hwx] at this; exact this)
      rw [hsp] at HFU HW1 HMA
      clear ew hcs hcs2 hq hp hlk haq hsp hkeep hsk
      generalize l[k] = lk at *
      generalize at_[q] = aq at *
      generalize wroteOf l at_ k = ws at *
      go_wp2_with fail
      refine wp_region_keeps (by kernel_rfl) (by kernel_rfl) ?_
      repeat (go_big_quiet_step (first | with_reducible exact KW.of HPK.out _ | with_reducible exact KW.of HFU.out _))
      refine wpQuiet_nil ?_
      intro wx kx
      have HX := Lib.hid (H.out.quiet kx)
      clear d0 d1 dl0 dl1 y1 y2 l1 l2 H HFU HPK kx
      have y3 : wx.cell? ⟨x3, 0, none⟩ = some (.pointer (some ⟨g, 0, none⟩)) := HX.out.b3.cell 0
      have hwd := write_da HX.out.da (p : Int) s 0 _ (by show (D.wait ++ ws).length ≤ _; rw [List.length_append, hwx]; omega) (write_pad (D := { D with wait := D.wait ++ ws }) HD.out HF.out hp16 hs64)
      have HWD := Lib.hid hwd
      clear hwd
      go_wp2_with fail
      refine HWD.out.mono ?_
      rintro ev w5 ⟨rfl, L5, hd5, hk5, hL5⟩
      have H5 := Lib.hid (HX.out.disk hd5 hk5 hL5)
      have HL5 := Lib.hid hd5.1.lt
      clear hd5 hk5 hL5 y3 HX HWD
      generalize mayAll first m ws = m5 at *
      have y4 : w5.cell? ⟨x4, 0, none⟩ = some (.map (some bm)) := H5.out.b4.cell 0
      have ly4 := H5.out.b4.lt
      have HWA : Hid ({ D with wait := D.wait ++ wroteOf l at_ (k + 1) } = ({ { D with wait := D.wait ++ ws } with wait := D.wait ++ ws ++ [(p, s)] } : Dk)) := Lib.hid (by rw [HW1.out, List.append_assoc])
      cases first with
      | true =>
        obtain ⟨w6, hrun6, hm6, hk6⟩ := H5.out.may.clear hp16 (show n' < 1000 by omega)
        have H6 := Lib.hid (H5.out.map (R := []) hk6 (fun y hy => by cases hy) hm6)
        have HL6 := Lib.hid (fun x hx => Nat.lt_of_lt_of_le (HL5.out x hx) hk6.size)
        clear hm6 hk6
        go_upto_region 7 with (fail)
        clear hrun6 y4 ly4
        have y7 : w6.cell? ⟨x4, 0, none⟩ = some (.map (some bm)) := H6.out.b4.cell 0
        have ly7 := H6.out.b4.lt
        obtain ⟨v, hlook, hvo, hvL, happ⟩ := H6.out.may.app hp16 (show n' + 1 < 1000 by omega) s HL6.out
        obtain ⟨l6, hl6⟩ : ∃ l6, ((fun j => if j = p then some [] else m5 j) p).getD [] = l6 := ⟨_, rfl⟩
        rw [hl6] at hvo happ
        obtain ⟨N, hN⟩ : ∃ N, l6.length = N := ⟨_, rfl⟩
        rw [hN] at hvo happ
        have q1 := hlook w6.drew (Keeps.refl _ _).drew
        have q2 := fun o => hlook (w6.alloc o).drew ((Keeps.refl [] w6).alloc o).drew
        have q3 := fun o => hlook (w6.drew.alloc o) ((Keeps.refl [] w6).drew.alloc o)
        have HRO := Lib.hid (H6.out.rowOff hvo hvL)
        have HV := Lib.hid hvo
        have HAPP := Lib.hid happ
        have hfin : (fun j => if j = p then some (l6 ++ [s]) else (fun j => if j = p then some [] else m5 j) j) = mayPut true m5 (p, s) := by
          rw [← hl6]
          funext j
          unfold mayPut
          by_cases e : j = p
          · subst e; simp
          · simp only [if_neg e]
        have HFIN := Lib.hid hfin
        have hN100 : N ≤ 200 := by
          rw [← hN, ← hl6]
          simp
        have hNb : Hid (N + 1 ≤ maxLen ∧ (N + 1) * 16 ≤ 140737488355328) := Lib.hid (by simp only [maxLen]; omega)
        have HBA := Lib.hid H6.out.may.base_le
        clear hlook hvo hvL happ hl6 hN hfin
        go_wp2_with fail
        go_region_law (first | (refine step_append_lies _ (by rfl) _ _ _ (by rfl) base 9 i0 _ 1 16 Tryd.underlying22 hi hz0 hz1 hz2 rfl (by decide) v N (strs l6) (by rfl) (HV.out.drew.alloc _) ⟨w6.heap.size, 0, none⟩ 1 1 [.string (bs s)] (by rfl) rfl (World.news_of_block (heap_alloc_new _ _)) (by simp [Value.oneCell']) (by decide) hNb.out.1 hNb.out.2 (show base ≤ (w6.alloc _).heap.size from by rw [show (w6.alloc _).heap.size = w6.heap.size + 1 from Array.size_push _]; exact Nat.le_succ_of_le HBA.out) _ rfl ?_; intro gw cap2 w8 hown8 hgrow8 hat8 hlt8; obtain ⟨w9, hrun9, hm9, hk9⟩ := HAPP.out w6.drew w8 _ gw cap2 (Keeps.refl _ _).drew hown8 hgrow8 hat8; have y8 : w8.cell? ⟨x4, 0, none⟩ = some (.map (some bm)) := (Keeps.grown (L := v.ownBlock.toList) ((Keeps.refl _ w6).drew.alloc _) hgrow8 (fun g hg => .inl (by rw [hg]; simp))).cell_of y7 (fun hx => (HRO.out x4 hx).2.2.2.2.2 rfl); have ly8 := World.block_lt_of_cell? _ _ y8; clear hown8 hgrow8 hat8 hlt8))
        all_goals
          have HZ := Lib.hid (H6.out.map hk9 HRO.out hm9)
          clear hk9 hm9 hrun9 y8 ly8
          rw [HFIN.out, ← HMA.out, ← HWA.out] at HZ
          go_wp2
          go_roundw
        all_goals first
          | exact ⟨k + 1, by omega, by go_num, L5, _, by omega, HZ⟩
          | exact ⟨k + 1, by omega, by go_num, L5, _, by omega, Lib.hid (HZ.out.quiet (Keeps.refl _ _).drew)⟩
          | (simp [intOf]; omega)
      | false =>
        go_upto_region 7 with (fail)
        clear y4 ly4
        have y7 : w5.cell? ⟨x4, 0, none⟩ = some (.map (some bm)) := H5.out.b4.cell 0
        have ly7 := H5.out.b4.lt
        obtain ⟨v, hlook, hvo, hvL, happ⟩ := H5.out.may.app hp16 (show n' < 1000 by omega) s HL5.out
        obtain ⟨l6, hl6⟩ : ∃ l6, ((m5) p).getD [] = l6 := ⟨_, rfl⟩
        rw [hl6] at hvo happ
        obtain ⟨N, hN⟩ : ∃ N, l6.length = N := ⟨_, rfl⟩
        rw [hN] at hvo happ
        have q1 := hlook w5.drew (Keeps.refl _ _).drew
        have q2 := fun o => hlook (w5.alloc o).drew ((Keeps.refl [] w5).alloc o).drew
        have q3 := fun o => hlook (w5.drew.alloc o) ((Keeps.refl [] w5).drew.alloc o)
        have HRO := Lib.hid (H5.out.rowOff hvo hvL)
        have HV := Lib.hid hvo
        have HAPP := Lib.hid happ
        have hfin : (fun j => if j = p then some (l6 ++ [s]) else (m5) j) = mayPut false m5 (p, s) := by
          rw [← hl6]
          funext j
          unfold mayPut
          by_cases e : j = p
          · subst e; simp
          · simp only [if_neg e]
        have HFIN := Lib.hid hfin
        have hN100 : N ≤ 200 := by
          rw [← hN, ← hl6]
          cases hmp : m5 p with
          | none => simp
          | some l7 => have := HML.out p l7 hmp; simp only [Option.getD_some]; omega
        have hNb : Hid (N + 1 ≤ maxLen ∧ (N + 1) * 16 ≤ 140737488355328) := Lib.hid (by simp only [maxLen]; omega)
        have HBA := Lib.hid H5.out.may.base_le
        clear hlook hvo hvL happ hl6 hN hfin
        go_wp2_with fail
        go_region_law (first | (refine step_append_lies _ (by rfl) _ _ _ (by rfl) base 9 i0 _ 1 16 Tryd.underlying22 hi hz0 hz1 hz2 rfl (by decide) v N (strs l6) (by rfl) (HV.out.drew.alloc _) ⟨w5.heap.size, 0, none⟩ 1 1 [.string (bs s)] (by rfl) rfl (World.news_of_block (heap_alloc_new _ _)) (by simp [Value.oneCell']) (by decide) hNb.out.1 hNb.out.2 (show base ≤ (w5.alloc _).heap.size from by rw [show (w5.alloc _).heap.size = w5.heap.size + 1 from Array.size_push _]; exact Nat.le_succ_of_le HBA.out) _ rfl ?_; intro gw cap2 w8 hown8 hgrow8 hat8 hlt8; obtain ⟨w9, hrun9, hm9, hk9⟩ := HAPP.out w5.drew w8 _ gw cap2 (Keeps.refl _ _).drew hown8 hgrow8 hat8; have y8 : w8.cell? ⟨x4, 0, none⟩ = some (.map (some bm)) := (Keeps.grown (L := v.ownBlock.toList) ((Keeps.refl _ w5).drew.alloc _) hgrow8 (fun g hg => .inl (by rw [hg]; simp))).cell_of y7 (fun hx => (HRO.out x4 hx).2.2.2.2.2 rfl); have ly8 := World.block_lt_of_cell? _ _ y8; clear hown8 hgrow8 hat8 hlt8))
        all_goals
          have HZ := Lib.hid (H5.out.map hk9 HRO.out hm9)
          clear hk9 hm9 hrun9 y8 ly8
          rw [HFIN.out, ← HMA.out, ← HWA.out] at HZ
          go_wp2
          go_roundw
        all_goals first
          | exact ⟨k + 1, by omega, by go_num, L5, _, by omega, HZ⟩
          | exact ⟨k + 1, by omega, by go_num, L5, _, by omega, Lib.hid (HZ.out.quiet (Keeps.refl _ _).drew)⟩
          | (simp [intOf]; omega)
    · obtain rfl : k = l.length := by omega
      have hlt2 : ¬ (l.length : Int) < (l.length : Int) := by omega
      go_wp2
      go_end0
      exact ⟨rfl, L', n', H.out, hn'⟩
end Go.Proofs.YtelafmakgokhbaaDoor
