/- DiskRests, walked. -/
import Derived.Test.YtjoolemhcpcnoaaDoorLost
import Derived.Test.YtjoolemhcpcnoaaDoorPick
namespace Go.Proofs.YtjoolemhcpcnoaaDoor
open Go.RowKit Go.Shelf
attribute [local go_sem] bs_size bs_extract bs_append bs_toList errV_0 errV_2 errV_4 errV_14

/-- Every sector has its 64 bytes. -/
def Dk.Ok (D : Dk) : Prop := (∀ s ∈ D.sure, s = [] ∨ s.length = 64) ∧ ∀ p ∈ D.wait, p.2.length = 64
theorem lastWrite_mem {ws : List (Nat × Bs)} {a : Nat} {s : Bs} (h : lastWrite ws a = some s) : ∃ p ∈ ws, p.2 = s := by
  unfold lastWrite at h
  cases hf : ws.reverse.find? fun p => p.1 == a with
  | none => rw [hf] at h; cases h
  | some p =>
    rw [hf] at h
    exact ⟨p, by simpa using List.mem_of_find?_eq_some hf, by simpa using h⟩
theorem Dk.Ok.at_length {D : Dk} (h : D.Ok) {a : Nat} (ha : a < D.sure.length) : (D.at a).length = 64 := by
  unfold Dk.at
  cases hl : lastWrite D.wait a with
  | some s =>
    obtain ⟨p, hp, rfl⟩ := lastWrite_mem hl
    exact h.2 p hp
  | none =>
    show (content (D.sure.getD a [])).length = 64
    unfold content
    split
    · exact zeros_length
    · rename_i hne
      rw [List.getD_eq_getElem?_getD, List.getElem?_eq_getElem ha, Option.getD_some] at hne ⊢
      exact (h.1 _ (List.getElem_mem ha)).resolve_left hne

/-- The first k sectors. -/
def Dk.secs (D : Dk) (k : Nat) : List Bs := (List.range k).map D.at
theorem secs_succ (D : Dk) (k : Nat) : D.secs (k + 1) = D.secs k ++ [D.at k] := by simp [Dk.secs, List.range_succ]
theorem secs_length (D : Dk) (k : Nat) : (D.secs k).length = k := by simp [Dk.secs]
theorem strs_snoc (l : List Bs) (s : Bs) : strs (l ++ [s]) = strs l ++ [.string (bs s)] := by simp [strs]
theorem strs_oneCell (l : List Bs) : ∀ u ∈ strs l, u.oneCell' = true := by
  intro u hu
  obtain ⟨s, _, rfl⟩ := List.mem_map.1 hu
  rfl

set_option maxRecDepth 100000 in
set_option maxHeartbeats 1000000 in
theorem all_any {w0 W : World} {L : List Nat} {g : Nat} {D : Dk} (h : DA w0 W L g D) (hwl : D.wait.length ≤ 4294967296) (hn : D.sure.length = 16) (hok : D.Ok) (dv : Nat) (hd : W.cell? ⟨dv, 0, none⟩ = some (.pointer (some ⟨g, 0, none⟩))) :
    Calls Tryd.prog 15 #[.pointer (some ⟨dv, 0, none⟩)] W fun e W' => ∃ gw c, e = .returned (.slice (some ⟨gw, 0, none⟩) 16 c) ∧ W'.ownsRow W.heap.size 9 1 (.slice (some ⟨gw, 0, none⟩) 16 c) 16 (strs (D.secs 16)) ∧ Keeps [] W W' := by
  obtain ⟨i0, hi, hz0, hz1, hz2⟩ := info_parts sinfo
  have H := Lib.hid h
  have HN := Lib.hid hn
  have HK := Lib.hid hok
  have HD := Lib.hid hd
  clear h hn hok hd
  go_enter Tryd.func15, Tryd.ntmps15
  go_wp2
  go_loopw [2, 3] (fun v i wr => ∃ k : Nat, k ≤ 16 ∧ i = .int .i64 k ∧ wr.ownsRow W.heap.size 9 1 v k (strs (D.secs k)) ∧ Keeps [] W wr) (fun _ i _ => 16 - (intOf i).toNat)
  case atStart => exact ⟨0, by omega, rfl, World.ownsRow_nil _ _ _ _, Keeps.refl _ _⟩
  case round =>
    obtain ⟨k, hk, rfl, hown, hks⟩ := hrel
    by_cases hlt : k < 16
    · have hd := hks.cell_of (p := ⟨dv, 0, none⟩) HD.out (by simp)
      have hr := Lib.hid (read_da (H.out.quiet hks) (k : Int) hwl 0 (D.at k) (by unfold Dk.read; rw [if_neg (by rw [HN.out]; omega), Int.toNat_natCast]))
      have hlen : (D.at k).length = 64 := HK.out.at_length (by rw [HN.out]; exact hlt)
      go_wp2_with fail
      refine hr.out.mono ?_
      rintro e W2 ⟨rfl, _, hk2⟩
      have hown2 := own_keep hown hk2 (by simp)
      go_wp2_with (at_builtin; refine wpList_append_lies _ rfl _ _ 22 rfl W.heap.size 9 i0 _ 1 16 Tryd.underlying22 hi hz0 hz1 hz2 rfl (by decide) _ k (strs (D.secs k)) rfl (hown2.alloc _) ⟨W2.heap.size, 0, none⟩ 1 1 [.string (bs (D.at k))] rfl rfl (World.news_of_block (heap_alloc_new _ _)) (by simp [Value.oneCell']) (by decide) (by simp only [maxLen]; omega) (by omega) (by have := (hks.trans hk2).size; simp; omega) _ rfl ?_; intro gw cap w3 hown3 hgrow3 hat3 hlt3)
      have hk3 : Keeps [] W w3 := ((hks.trans hk2).alloc _).grown hgrow3 (fun b hb => .inr (hown2.lt b hb).1)
      rw [← strs_snoc, ← secs_succ] at hown3
      go_roundw
      case rel => exact ⟨k + 1, by omega, by go_num, hown3, hk3⟩
      case measure => simp [intOf]; omega
    · obtain rfl : k = 16 := by omega
      obtain ⟨gw, c, rfl, _, _⟩ := hown.form (by decide)
      go_wp2
      go_ret
      exact ⟨gw, c, rfl, hown, hks⟩

theorem lastWrite_snoc (ws : List (Nat × Bs)) (p : Nat × Bs) (a : Nat) : lastWrite (ws ++ [p]) a = if p.1 = a then some p.2 else lastWrite ws a := by
  unfold lastWrite
  rw [List.reverse_append, List.reverse_singleton, List.singleton_append, List.find?_cons]
  by_cases h : p.1 = a
  · simp [h]
  · have : (p.1 == a) = false := by simpa using h
    simp [this, h]
theorem puts_at_rev (ws : List (Nat × Bs)) : ∀ (l : List Bs) (a : Nat), a < l.length → (puts l ws.reverse).getD a [] = (lastWrite ws.reverse a).getD (l.getD a []) := by
  induction ws with
  | nil => intro l a _; rfl
  | cons p ws ih =>
    intro l a ha
    rw [List.reverse_cons, lastWrite_snoc]
    have e : puts l (ws.reverse ++ [p]) = (puts l ws.reverse).set p.1 p.2 := by unfold puts; rw [List.foldl_append]; rfl
    rw [e]
    by_cases h : p.1 = a
    · subst h
      rw [if_pos rfl, List.getD_eq_getElem?_getD, List.getElem?_set_self (by rw [puts_length]; exact ha)]
      rfl
    · rw [if_neg h, List.getD_eq_getElem?_getD, List.getElem?_set_ne h, ← List.getD_eq_getElem?_getD, ih l a ha]
theorem puts_at (ws : List (Nat × Bs)) (l : List Bs) (a : Nat) (h : a < l.length) : (puts l ws).getD a [] = (lastWrite ws a).getD (l.getD a []) := by
  have := puts_at_rev ws.reverse l a h
  rwa [List.reverse_reverse] at this
theorem content_of {s : Bs} (h : s.length = 64) : content s = s := by
  unfold content
  rw [if_neg (by rintro rfl; simp at h)]
theorem at_sure {D : Dk} (h : D.wait = []) (a : Nat) : D.at a = content (D.sure.getD a []) := by
  unfold Dk.at
  rw [h]; rfl
theorem at_put {D : Dk} (h : D.Ok) {D' : Dk} (hs : D'.sure = puts D.sure D.wait) (hw : D'.wait = []) {a : Nat} (ha : a < D.sure.length) : D'.at a = D.at a := by
  rw [at_sure hw, hs, puts_at _ _ _ ha]
  unfold Dk.at
  cases hl : lastWrite D.wait a with
  | some s =>
    obtain ⟨p, hp, rfl⟩ := lastWrite_mem hl
    exact content_of (h.2 p hp)
  | none => rfl
theorem secs_congr {D D' : Dk} {n : Nat} (h : ∀ a, a < n → D'.at a = D.at a) : D'.secs n = D.secs n := by
  unfold Dk.secs
  exact List.map_congr_left fun a ha => h a (List.mem_range.1 ha)
theorem ok_puts {D : Dk} (h : D.Ok) : ∀ s ∈ puts D.sure D.wait, s = [] ∨ s.length = 64 := by
  intro s hs
  obtain ⟨a, ha, rfl⟩ := List.getElem_of_mem hs
  have ha' : a < D.sure.length := by rwa [puts_length] at ha
  have e := puts_at D.wait D.sure a ha'
  rw [List.getD_eq_getElem?_getD, List.getElem?_eq_getElem ha, Option.getD_some] at e
  rw [e]
  cases hl : lastWrite D.wait a with
  | some s =>
    obtain ⟨p, hp, rfl⟩ := lastWrite_mem hl
    exact .inr (h.2 p hp)
  | none =>
    rw [Option.getD_none, List.getD_eq_getElem?_getD, List.getElem?_eq_getElem ha', Option.getD_some]
    exact h.1 _ (List.getElem_mem ha')

/-- The disk when k texts have been written. -/
def wrote (l : List Bs) (at_ : List Int) (k : Nat) : Dk :=
  { sure := List.replicate 16 [], wait := (List.range k).map fun i => (pickN (IntKind.i64.wrap (at_.getD (i % at_.length) 0 + (i : Int))) 16, padded (l.getD i [])), fuse := -1 }
theorem wrote_succ (l : List Bs) (at_ : List Int) (k : Nat) (h : (l.getD k []).length ≤ 64) : (wrote l at_ k).write (pickN (IntKind.i64.wrap (at_.getD (k % at_.length) 0 + (k : Int))) 16 : Nat) (l.getD k []) = (0, wrote l at_ (k + 1)) := by
  have hp := pickN_lt (IntKind.i64.wrap (at_.getD (k % at_.length) 0 + (k : Int))) (show 0 < 16 by decide)
  unfold Dk.write
  rw [if_neg (by show ¬ (_ ∨ ((List.replicate 16 ([] : Bs)).length : Int) ≤ _); rw [List.length_replicate]; omega), if_neg (by omega), if_neg (by show ¬ ((-1 : Int) = 0); decide), Int.toNat_natCast]
  simp [wrote, Dk.burnt, List.range_succ]
theorem wrote_ok (l : List Bs) (at_ : List Int) (h : ∀ s ∈ l, s.length ≤ 64) (k : Nat) : (wrote l at_ k).Ok := by
  refine ⟨fun s hs => .inl (List.eq_of_mem_replicate hs), fun p hp => ?_⟩
  obtain ⟨i, _, rfl⟩ := List.mem_map.1 hp
  refine padded_length _ ?_
  rw [List.getD_eq_getElem?_getD]
  cases hi : l[i]? with
  | none => simp
  | some s => exact h s (List.mem_of_getElem? hi)
/-- Behind the Sync. -/
def rested (l : List Bs) (at_ : List Int) : Dk := { sure := puts (List.replicate 16 []) (wrote l at_ l.length).wait, wait := [], fuse := -1 }
theorem rested_sync (l : List Bs) (at_ : List Int) : (wrote l at_ l.length).sync = (0, rested l at_) := rfl
theorem rested_crash (l : List Bs) (at_ : List Int) (ks : List Bool) : (rested l at_).crash ks = rested l at_ := rfl
theorem rested_len (l : List Bs) (at_ : List Int) : (rested l at_).sure.length = 16 := by show (puts _ _).length = 16; rw [puts_length, List.length_replicate]
theorem rested_ok (l : List Bs) (at_ : List Int) (h : ∀ s ∈ l, s.length ≤ 64) : (rested l at_).Ok := ⟨ok_puts (wrote_ok l at_ h l.length), by simp [rested]⟩
theorem rested_secs (l : List Bs) (at_ : List Int) (h : ∀ s ∈ l, s.length ≤ 64) : (rested l at_).secs 16 = (wrote l at_ l.length).secs 16 :=
  secs_congr fun a ha => at_put (wrote_ok l at_ h l.length) rfl rfl (by simpa [wrote] using ha)
/-- .. with a fuse. -/
def fused (l : List Bs) (at_ : List Int) (n : Int) : Dk := { rested l at_ with fuse := n }
theorem fused_0 (l : List Bs) (at_ : List Int) : (rested l at_).fused 0 = fused l at_ 0 := rfl
theorem fused_1 (l : List Bs) (at_ : List Int) : (fused l at_ 0).fused 1 = fused l at_ 1 := rfl
theorem fused_write (l : List Bs) (at_ : List Int) : (fused l at_ 0).write 3 [120] = (14, fused l at_ 0) := by
  unfold Dk.write
  rw [if_neg (by show ¬ (_ ∨ ((fused l at_ 0).sure.length : Int) ≤ _); rw [show (fused l at_ 0).sure.length = 16 from rested_len l at_]; omega), if_neg (by decide), if_pos (show (fused l at_ 0).fuse = 0 from rfl)]
theorem fused_sync (l : List Bs) (at_ : List Int) : (fused l at_ 0).sync = (14, fused l at_ 0) := rfl
/-- .. and one write done. -/
def last1 (l : List Bs) (at_ : List Int) : Dk := { rested l at_ with wait := [(3, padded [120])], fuse := 0 }
theorem last_write (l : List Bs) (at_ : List Int) : (fused l at_ 1).write 3 [120] = (0, last1 l at_) := by
  unfold Dk.write
  rw [if_neg (by show ¬ (_ ∨ ((fused l at_ 1).sure.length : Int) ≤ _); rw [show (fused l at_ 1).sure.length = 16 from rested_len l at_]; omega), if_neg (by decide), if_neg (by show ¬ ((1 : Int) = 0); decide)]
  rfl
theorem last_sync (l : List Bs) (at_ : List Int) : (last1 l at_).sync = (14, last1 l at_) := rfl
theorem fused_secs (l : List Bs) (at_ : List Int) (n : Int) : (fused l at_ n).secs 16 = (rested l at_).secs 16 := secs_congr fun _ _ => rfl

theorem long1_pred (l : List Bs) (w : World) : PredAt 10 #[] (fun s => decide (64 < s.length)) l w := by
  intro s hs W hk
  have h : ∀ W : World, Calls Tryd.prog 10 #[.string (bs s)] W fun e W' => e = .returned (.bool (decide (64 < s.length))) ∧ Keeps [] W W' := fun W => by
    have hd : Hid (decide ((64 : Int) < (s.length : Int)) = decide (64 < s.length)) := by rw [Hid, decide_eq_decide]; omega
    go_enter Tryd.func10, Tryd.ntmps10
    go_wp2
    go_ret
    refine ⟨?_, Keeps.refl _ _⟩
    show Ending.returned (.bool (decide ((64 : Int) < (s.length : Int)))) = _
    rw [hd.out]
  exact h W

set_option maxRecDepth 100000 in
set_option maxHeartbeats 4000000 in
theorem rests_main (l : List Bs) (at_ : List Int) (ks : List Bool) (A B C : Option Addr) (c d e : Nat) (w : World) (hE : ErrTy w) (hl : l.length ≤ 20) (ha : 0 < at_.length) (ha2 : at_.length ≤ 20) (hk : ks.length ≤ 30) (hs : ∀ s ∈ l, s.length ≤ 64)
    (hA : Rd w [] 1 A l.length (strs l)) (hB : Rd w [] 1 B at_.length (ints at_)) (hC : Rd w [] 1 C ks.length (bools ks)) :
    Calls Tryd.prog 3 #[.slice A l.length c, .slice B at_.length d, .slice C ks.length e] w fun ev w' => ev = .returned (.bool true) ∧ Keeps [] w w' := by
  have hany : (l.any fun s => decide (64 < s.length)) = false := by
    rw [List.any_eq_false]
    intro s hm
    have := hs s hm
    simp; omega
  have HCF := Lib.hid (containsFunc_any 10 #[] (enters_of Tryd.func10 (by kernel_rfl) rfl) (fun s => decide (64 < s.length)) l A c w hA (by omega) (long1_pred l w))
  rw [hany] at HCF
  have HA := Lib.hid hA
  have HB := Lib.hid hB
  have HC := Lib.hid hC
  have HE := Lib.hid hE
  have HS := Lib.hid hs
  clear hany hA hB hC hE hs
  have hb0 : ((at_.length : Int) == 0) = false := by rw [beq_eq_false_iff_ne]; omega
  have hb1 : (at_.length : Int) ≤ 20 := by omega
  go_enter Tryd.func3, Tryd.ntmps3
  go_wp2_with fail
  refine HCF.out.mono ?_
  rintro ev W1 ⟨rfl, k1⟩
  go_wp2_with fail
  refine (lost_any W1).mono ?_
  rintro ev W2 ⟨rfl, k2⟩
  go_wp2_with fail
  refine (new_da (k1.trans k2) 16 (by omega) (by omega)).mono ?_
  rintro ev W3 ⟨rfl, h3, k3⟩
  go_wp2
  have r3 := h3.1.lt
  have h4 := h3.quiet ((Keeps.refl _ W3).alloc (.cells #[.pointer (some ⟨W2.heap.size + 1, 0, none⟩)] 28))
  have b4 : (W3.alloc (.cells #[.pointer (some ⟨W2.heap.size + 1, 0, none⟩)] 28)).cell? ⟨W3.heap.size, 0, none⟩ = some (.pointer (some ⟨W2.heap.size + 1, 0, none⟩)) := (Blk.new W3 28 #[.pointer (some ⟨W2.heap.size + 1, 0, none⟩)]).cell 0
  have nd : W3.heap.size ∉ [W2.heap.size + 1, W2.heap.size] := fun hm => Nat.lt_irrefl _ (r3 _ hm)
  have w3 : w.heap.size ≤ W3.heap.size := h3.2.1.size
  obtain ⟨W4, hW4⟩ : ∃ W4, W3.alloc (.cells #[.pointer (some ⟨W2.heap.size + 1, 0, none⟩)] 28) = W4 := ⟨_, rfl⟩
  rw [hW4] at h4 b4 ⊢
  clear hW4 h3 k3 r3
  generalize W3.heap.size = dv at b4 nd w3 ⊢
  generalize W2.heap.size + 1 = g at h4 b4 nd ⊢
  obtain ⟨L0, hL0⟩ : ∃ L0, [g, W2.heap.size] = L0 := ⟨_, rfl⟩
  rw [hL0] at h4 nd
  clear hL0
  have h4' : DA w W4 L0 g (wrote l at_ 0) := h4
  go_loopw [9] (fun i wr => ∃ n : Nat, n ≤ l.length ∧ i = .int .i64 n ∧ ∃ L, DA w wr L g (wrote l at_ n) ∧ wr.cell? ⟨dv, 0, none⟩ = some (.pointer (some ⟨g, 0, none⟩)) ∧ dv ∉ L) (fun i _ => l.length - (intOf i).toNat)
  case atStart => exact ⟨0, Nat.zero_le _, rfl, L0, h4', b4, nd⟩
  case round =>
    obtain ⟨n, hn, rfl, L, hD, hd, hdv⟩ := hrel
    by_cases hlt : n < l.length
    · obtain ⟨b, o, rfl, _, hb, hc⟩ := HA.out.open' (by omega) (by omega)
      obtain ⟨b', o', rfl, _, hb', hc'⟩ := HB.out.open' (by omega) (by omega)
      have hq : n % at_.length < at_.length := Nat.mod_lt _ ha
      have ht : (n : Int).tmod (at_.length : Int) = ((n % at_.length : Nat) : Int) := by rw [Int.tmod_eq_emod_of_nonneg (by omega)]; rfl
      have e1 := hD.2.1.cell_of (p := ⟨b, o + n, none⟩) (hc n _ (strs_at' l n hlt)) (by simp)
      have e2 := hD.2.1.cell_of (p := ⟨b', o' + n % at_.length, none⟩) (hc' (n % at_.length) (.int .i64 (at_.getD (n % at_.length) 0)) (by simp [ints, hq])) (by simp)
      generalize hm : n % at_.length = m at hq ht e2
      have HM := Lib.hid hm
      clear hm hc hc'
      have z1 : (0 : Int) ≤ (m : Int) := by omega
      have z2 : (m : Int) < (at_.length : Int) := by omega
      have nb : b ∉ L := fun hm => by have := hD.2.2 b hm; omega
      have nb' : b' ∉ L := fun hm => by have := hD.2.2 b' hm; omega
      have z0 : ¬ (at_.length : Int) = 0 := by omega
      have z5 : ¬ at_ = [] := by rintro rfl; simp at ha
      have z6 : ¬ at_.length = 0 := by omega
      have z4 : (n : Int) < (l.length : Int) := by omega
      go_wp2
      have hw := wrote_succ l at_ n (by rw [List.getD_eq_getElem?_getD, List.getElem?_eq_getElem hlt]; exact HS.out _ (List.getElem_mem hlt))
      rw [HM.out, show l.getD n [] = l[n] by rw [List.getD_eq_getElem?_getD, List.getElem?_eq_getElem hlt]; rfl] at hw
      generalize at_.getD m 0 = x at e2 hw
      have HW := Lib.hid hw
      have HD := Lib.hid (hD.quiet ((Keeps.refl [] wr).drew))
      have hwl : (wrote l at_ n).wait.length ≤ 4294967296 := by simp [wrote]; omega
      clear hw hD
      go_region_held3 (fun w' => w'.cell? ⟨dv, 0, none⟩ = some (.pointer (some ⟨g, 0, none⟩)) ∧ w'.cell? ⟨b, o + n, none⟩ = some (.string (bs l[n])) ∧ w'.cell? ⟨b', o' + m, none⟩ = some (.int .i64 x)) (first | exact ⟨kW.cell_of (p := ⟨dv, 0, none⟩) hd hdv, kW.cell_of (p := ⟨b, o + n, none⟩) e1 nb, kW.cell_of (p := ⟨b', o' + m, none⟩) e2 nb'⟩ | go_keep) (first | (go_at_call 14; refine (pick_any _ 16 (by omega) (by omega) _).mono ?_; rintro e w' ⟨rfl, rfl⟩) | (go_at_call 13; refine (write_da HD.out _ _ 0 _ hwl HW.out).mono ?_; rintro e W5 ⟨rfl, L5, h5, kW, hL5⟩))
      go_wp2
      go_roundw
      case rel => exact ⟨n + 1, by omega, by go_num, L5, h5, kW.cell_of (p := ⟨dv, 0, none⟩) hd hdv, fun hm => (hL5 dv hm).elim hdv (fun h => by have : dv < wr.heap.size := World.block_lt_of_cell? wr ⟨dv, 0, none⟩ hd; simp at h; omega)⟩
      case measure => simp [intOf]; omega
    · obtain rfl : n = l.length := by omega
      have hwl : (wrote l at_ l.length).wait.length ≤ 4294967296 := by simp [wrote]; omega
      have HD := Lib.hid hD
      have Hd := Lib.hid hd
      clear hD hd
      go_wp2_with fail
      refine (all_any HD.out hwl (by simp [wrote]) (wrote_ok l at_ HS.out _) dv Hd.out).mono ?_
      rintro ev W5 ⟨gw, cw, rfl, hw5, k5⟩
      have HW5 := Lib.hid hw5
      have H5 := Lib.hid (HD.out.quiet k5)
      have d5 := k5.cell_of (p := ⟨dv, 0, none⟩) Hd.out (by simp)
      have K5 := Lib.hid k5
      clear hw5 k5
      go_wp2_with fail
      refine (sync_da H5.out 0 (rested l at_) hwl (rested_sync l at_)).mono ?_
      rintro ev W6 ⟨rfl, h6, k6⟩
      have hL5 : dv ∉ L := hdv
      have hgw : ∀ x ∈ L, x < gw := fun x hx => Nat.lt_of_lt_of_le (HD.out.1.lt x hx) (HW5.out.lt gw rfl).1
      have d6 := k6.cell_of (p := ⟨dv, 0, none⟩) d5 hdv
      have r6 := Lib.hid (own_keep HW5.out k6 (fun x hx hm => by cases hx; exact Nat.lt_irrefl _ (hgw _ hm)))
      have H6 := Lib.hid h6
      clear h6 k6 d5
      go_wp2_with fail
      refine (all_any H6.out (by simp [rested]) (rested_len l at_) (rested_ok l at_ HS.out) dv d6).mono ?_
      rw [rested_secs l at_ HS.out]
      rintro ev W7 ⟨g7, c7, rfl, w7, k7⟩
      have H7 := Lib.hid (H6.out.quiet k7)
      have d7 := k7.cell_of (p := ⟨dv, 0, none⟩) d6 (by simp)
      have r7 := Lib.hid (own_keep r6.out k7 (by simp))
      have q7 := Lib.hid (Rd.of_own (L := []) w7 (by simp))
      have s7 := Lib.hid (Rd.of_own (L := []) r7.out (by simp))
      clear w7 k7 d6
      have hl16 : ((wrote l at_ l.length).secs 16).length = 16 := secs_length _ _
      have HSR := Lib.hid (rested_secs l at_ HS.out)
      generalize (wrote l at_ l.length).secs 16 = S at *
      have beq_S : (S == S) = true := beq_self_eq_true S
      have HSS := Lib.hid beq_S
      clear beq_S
      go_wp2_with fail
      refine (equal_at S S 16 16 _ _ c7 cw W7 hl16 hl16 q7.out s7.out (by omega) (by omega)).mono ?_
      rw [HSS.out]
      rintro ev W8 ⟨rfl, k8⟩
      have H8 := Lib.hid (H7.out.quiet k8)
      have d8 := k8.cell_of (p := ⟨dv, 0, none⟩) d7 (by simp)
      have r8 := Lib.hid (own_keep r7.out k8 (by simp))
      clear k8 d7
      go_wp2_with fail
      refine (crash_da H8.out (by simp [rested]) C e ks.length ks rfl (HC.out.apart H8.out.2.1 H8.out.2.2) (by omega)).mono ?_
      rw [rested_crash]
      rintro ev W9 ⟨rfl, h9, k9⟩
      have H9 := Lib.hid h9
      have d9 := k9.cell_of (p := ⟨dv, 0, none⟩) d8 hdv
      have r9 := Lib.hid (own_keep r8.out k9 (fun x hx hm => by cases hx; exact Nat.lt_irrefl _ (hgw _ hm)))
      clear h9 k9 d8
      go_wp2_with fail
      refine (crash_da H9.out (by simp [rested]) none 0 0 [] rfl Rd.nil (by simp)).mono ?_
      rw [rested_crash]
      rintro ev Wa ⟨rfl, ha', ka⟩
      have Ha := Lib.hid ha'
      have da := ka.cell_of (p := ⟨dv, 0, none⟩) d9 hdv
      have ra := Lib.hid (own_keep r9.out ka (fun x hx hm => by cases hx; exact Nat.lt_irrefl _ (hgw _ hm)))
      clear ha' ka d9
      go_wp2_with fail
      refine (all_any Ha.out (by simp [rested]) (rested_len l at_) (rested_ok l at_ HS.out) dv da).mono ?_
      rw [HSR.out]
      rintro ev Wb ⟨gb, cb, rfl, wb, kb⟩
      have Hb := Lib.hid (Ha.out.quiet kb)
      have db := kb.cell_of (p := ⟨dv, 0, none⟩) da (by simp)
      have rb := Lib.hid (own_keep ra.out kb (by simp))
      have qb := Lib.hid (Rd.of_own (L := []) wb (by simp))
      have sb := Lib.hid (Rd.of_own (L := []) rb.out (by simp))
      clear wb kb da
      go_wp2_with fail
      refine (equal_at S S 16 16 _ _ cb cw Wb hl16 hl16 qb.out sb.out (by omega) (by omega)).mono ?_
      rw [HSS.out]
      rintro ev Wc ⟨rfl, kc⟩
      have Hc := Lib.hid (Hb.out.quiet kc)
      have dc := kc.cell_of (p := ⟨dv, 0, none⟩) db (by simp)
      have rc := Lib.hid (own_keep rb.out kc (by simp))
      clear kc db
      go_wp2_with fail
      refine (fuse_da Hc.out 0 (by omega)).mono ?_
      rw [fused_0]
      rintro ev Wd ⟨rfl, hd', kd⟩
      have Hd' := Lib.hid hd'
      have dd := kd.cell_of (p := ⟨dv, 0, none⟩) dc hdv
      have rd := Lib.hid (own_keep rc.out kd (fun x hx hm => by cases hx; exact Nat.lt_irrefl _ (hgw _ hm)))
      clear hd' kd dc
      go_wp2_with fail
      refine (write_spent_da Hd'.out 3 [120] (by rw [show (fused l at_ 0).sure.length = 16 from rested_len l at_]; decide) (by decide) rfl).mono ?_
      rintro ev We ⟨rfl, rfl⟩
      have hEd : ErrTy Wd := HE.out.keep Hd'.out.2.1 (by simp)
      go_wp2_with fail
      refine (tell_any 14 Wd hEd).mono ?_
      rintro ev Wf ⟨rfl, kf⟩
      have Hf := Lib.hid (Hd'.out.quiet kf)
      have df := kf.cell_of (p := ⟨dv, 0, none⟩) dd (by simp)
      have rf := Lib.hid (own_keep rd.out kf (by simp))
      have hEf : ErrTy Wf := hEd.keep kf (by simp)
      clear kf dd hEd
      go_wp2_with fail
      refine (sync_da Hf.out 14 (fused l at_ 0) (by simp [fused, rested]) (fused_sync l at_)).mono ?_
      rintro ev Wg ⟨rfl, hg', kg⟩
      have Hg := Lib.hid hg'
      have dg := kg.cell_of (p := ⟨dv, 0, none⟩) df hdv
      have rg := Lib.hid (own_keep rf.out kg (fun x hx hm => by cases hx; exact Nat.lt_irrefl _ (hgw _ hm)))
      have hEg : ErrTy Wg := HE.out.keep hg'.2.1 (by simp)
      clear hg' kg df hEf
      go_wp2_with fail
      refine (tell_any 14 Wg hEg).mono ?_
      rintro ev Wh ⟨rfl, kh⟩
      have Hh := Lib.hid (Hg.out.quiet kh)
      have dh := kh.cell_of (p := ⟨dv, 0, none⟩) dg (by simp)
      have rh := Lib.hid (own_keep rg.out kh (by simp))
      clear kh dg hEg
      go_wp2_with fail
      refine (all_any Hh.out (by simp [fused, rested]) (rested_len l at_) (rested_ok l at_ HS.out) dv dh).mono ?_
      rw [fused_secs, HSR.out]
      rintro ev Wi ⟨gi, ci, rfl, wi, ki⟩
      have Hi := Lib.hid (Hh.out.quiet ki)
      have di := ki.cell_of (p := ⟨dv, 0, none⟩) dh (by simp)
      have ri := Lib.hid (own_keep rh.out ki (by simp))
      have qi := Lib.hid (Rd.of_own (L := []) wi (by simp))
      have si := Lib.hid (Rd.of_own (L := []) ri.out (by simp))
      clear wi ki dh
      go_wp2_with fail
      refine (equal_at S S 16 16 _ _ ci cw Wi hl16 hl16 qi.out si.out (by omega) (by omega)).mono ?_
      rw [HSS.out]
      rintro ev Wj ⟨rfl, kj⟩
      have Hj := Lib.hid (Hi.out.quiet kj)
      have dj := kj.cell_of (p := ⟨dv, 0, none⟩) di (by simp)
      clear kj di
      go_wp2_with fail
      refine (fuse_da Hj.out 1 (by omega)).mono ?_
      rw [fused_1]
      rintro ev Wk ⟨rfl, hk', kk⟩
      have Hk := Lib.hid hk'
      have dk := kk.cell_of (p := ⟨dv, 0, none⟩) dj hdv
      clear hk' kk dj
      go_wp2_with fail
      refine (write_da Hk.out 3 [120] 0 (last1 l at_) (by simp [fused, rested]) (last_write l at_)).mono ?_
      rintro ev Wl ⟨rfl, Ll, hl', kl, hLl⟩
      have Hl := Lib.hid hl'
      have dl := kl.cell_of (p := ⟨dv, 0, none⟩) dk hdv
      clear hl' kl dk
      go_wp2_with fail
      refine (sync_da Hl.out 14 (last1 l at_) (by simp [last1]) (last_sync l at_)).mono ?_
      rintro ev Wm ⟨rfl, hm', km⟩
      have hEm : ErrTy Wm := HE.out.keep hm'.2.1 (by simp)
      have Hm := Lib.hid hm'
      clear hm' km
      go_wp2_with fail
      refine (tell_any 14 Wm hEm).mono ?_
      rintro ev Wn ⟨rfl, kn⟩
      have Hn := Lib.hid (Hm.out.2.1.trans kn)
      clear kn
      go_wp2
      go_ret
      exact ⟨rfl, Hn.out⟩
end Go.Proofs.YtjoolemhcpcnoaaDoor
