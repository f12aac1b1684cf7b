/- slices.Contains at texts; a disk and a store that a law made; 'stored'. -/
import Derived.Test.YtjoolemhcpcnoaaDoorStoreQ
namespace Go.Proofs.YtjoolemhcpcnoaaDoor
open Go.RowKit
attribute [local go_sem] bs_size bs_extract bs_append bs_toList errV_0 errV_2 errV_4 errV_14
set_option maxHeartbeats 1000000 in
theorem index_str (v : Bs) (l : List Bs) (A : Option Addr) (c : Nat) (w : World) (hR : Rd w [] 1 A l.length (strs l)) (hl : l.length ≤ 4294967296) :
    Calls Tryd.prog 70 #[.slice A l.length c, .string (bs v)] w fun e w' => e = .returned (.int .i64 (findIx (fun t => v == t) l)) ∧ w = w' := by
  have HR := Lib.hid hR
  clear hR
  go_enter Tryd.func70, Tryd.ntmps70
  go_wp2
  go_loop [8] (fun i => ∃ n : Nat, n ≤ l.length ∧ i = .int .i64 n ∧ Hid (∀ j (hj : j < n) (hl : j < l.length), (v == l[j]) = false)) (fun i => l.length - (intOf i).toNat)
  case atStart => exact ⟨0, Nat.zero_le _, rfl, fun j hj => absurd hj (by omega)⟩
  case round =>
    obtain ⟨n, hn, rfl, hno⟩ := hrel
    by_cases hlt : n < l.length
    · obtain ⟨b, o, rfl, _, hb, hc⟩ := HR.out.open' (by omega) (by omega)
      have d1 := hc n _ (strs_at' l n hlt)
      clear hc
      cases hp : (v == l[n]) with
      | true =>
        have hfin : findIx (fun t => v == t) l = (n : Int) := findIx_hit hlt (fun j hj => hno j hj (by omega)) hp
        have HP := Lib.hid hfin
        clear hfin
        go_wp2
        go_ret
        exact ⟨by rw [HP.out]; rfl, rfl⟩
      | false =>
        have hno' : Hid (∀ j (hj : j < n + 1) (hl : j < l.length), (v == l[j]) = false) := fun j hj hl => by
          by_cases h : j < n
          · exact hno j h hl
          · obtain rfl : j = n := by omega
            exact hp
        go_wp2
        go_round
        case rel => exact ⟨n + 1, by omega, by go_num, hno'⟩
        case measure => simp [intOf]; omega
    · have hfin : Hid (findIx (fun t => v == t) l = -1) := findIx_none fun j hj => hno j (by omega) hj
      go_wp2
      go_ret
      exact ⟨by rw [hfin.out]; rfl, rfl⟩
theorem contains_str (v : Bs) (l : List Bs) (A : Option Addr) (c : Nat) (w : World) (hR : Rd w [] 1 A l.length (strs l)) (hl : l.length ≤ 4294967296) :
    Calls Tryd.prog 42 #[.slice A l.length c, .string (bs v)] w fun e w' => e = .returned (.bool (l.any fun t => v == t)) ∧ w = w' := by
  have HC := Lib.hid (index_str v l A c w hR hl)
  clear hR
  rw [← findIx_any]
  go_enter Tryd.func42, Tryd.ntmps42
  go_wp2_with (go_at_call 70; refine HC.out.mono ?_; rintro e W2 ⟨rfl, rfl⟩)
  go_ret
  exact ⟨rfl, rfl⟩
/-- A disk at gd and a store at gx, both made since w0. -/
structure SD (w0 W : World) (Ld Lx : List Nat) (gd gx : Nat) (D : Dk) (S : Sr) : Prop where
  d : Dsk W Ld gd D
  x : Sto W Lx gx gd S
  dis : ∀ y ∈ Lx, y ∉ Ld
  k : Keeps [] w0 W
  dn : ∀ y ∈ Ld, w0.heap.size ≤ y
  xn : ∀ y ∈ Lx, w0.heap.size ≤ y
section
variable {w0 W W' : World} {Ld Lx : List Nat} {gd gx : Nat} {D : Dk} {S : Sr}
theorem SD.quiet (h : SD w0 W Ld Lx gd gx D S) (hk : Keeps [] W W') : SD w0 W' Ld Lx gd gx D S :=
  ⟨h.d.keep hk (by simp), h.x.quiet hk, h.dis, h.k.trans hk, h.dn, h.xn⟩
theorem SD.keep {L' : List Nat} (h : SD w0 W Ld Lx gd gx D S) (hk : Keeps L' W W') (hL : ∀ y ∈ L', w0.heap.size ≤ y ∧ y ∉ Ld ∧ y ∉ Lx) : SD w0 W' Ld Lx gd gx D S :=
  ⟨h.d.keep hk (fun y hy _ hm => (hL y hy).2.1 hm), h.x.keep hk (fun y hy hm => (hL y hm).2.2 hy), h.dis, h.k.trans' hk (fun y hy hl => by have := (hL y hy).1; omega), h.dn, h.xn⟩
theorem Rnds.low {L : List Nat} (h : Rnds w0) (hL : ∀ y ∈ L, w0.heap.size ≤ y) : 1 ∉ L := fun hm => by have := hL _ hm; have := h.lt; omega
theorem SD.put (h : SD w0 W Ld Lx gd gx D S) (hR : Rnds w0) (s : Bs) (hs : s.length ≤ 8000) (hroom : S.at_ + secs s.length ≤ D.sure.length) (hkl : S.keys.length ≤ 100000) (hwl : D.wait = []) :
    Calls Tryd.prog 29 #[.pointer (some ⟨gx, 0, none⟩), .string (bs s)] W fun ev w' => ev = .returned (.tuple #[.string (bs (putK (putP D S s).1 s)), errV (putP D S s).1]) ∧
      (∃ Ld' Lx', SD w0 w' Ld' Lx' gd gx (putP D S s).2.1 (putP D S s).2.2 ∧ (∀ y ∈ Ld', y ∈ Ld ∨ W.heap.size ≤ y) ∧ (∀ y ∈ Lx', y ∈ Lx ∨ W.heap.size ≤ y)) ∧ Keeps (Ld ++ Lx) W w' := by
  refine (put_any h.d h.x h.dis (hR.quiet h.k) (hR.low h.dn) s hs hroom hkl (by rw [hwl]; exact Nat.zero_le _)).mono ?_
  rintro ev w' ⟨he, Ld', Lx', h1, h2, h3, h4, h5, h6⟩
  refine ⟨he, ⟨Ld', Lx', ⟨h1, h2, h6, h.k.trans' h3 (fun y hy hl => ?_), fun y hy => ?_, fun y hy => ?_⟩, h4, h5⟩, h3⟩
  · rcases List.mem_append.1 hy with hy | hy
    · have := h.dn y hy; omega
    · have := h.xn y hy; omega
  · rcases h4 y hy with e | e
    · exact h.dn y e
    · have := h.k.size; omega
  · rcases h5 y hy with e | e
    · exact h.xn y e
    · have := h.k.size; omega
/-- An Open of a disk that a law made. -/
theorem open_sd (hd : Dsk W Ld gd D) (hk : Keeps [] w0 W) (hn : ∀ y ∈ Ld, w0.heap.size ≤ y) (hR : Rnds w0) (hok : D.Ok) (hw : D.wait = []) :
    Calls Tryd.prog 28 #[.pointer (some ⟨gd, 0, none⟩)] W fun ev w' => (∃ gx Lx, ev = .returned (.tuple #[.pointer (some ⟨gx, 0, none⟩), .nilIface]) ∧ SD w0 w' Ld Lx gd gx D (openP D D.sure.length Sr.new)) ∧ Keeps [] W w' := by
  refine (open_any hd hok (by rw [hw]; exact Nat.zero_le _) (hR.quiet hk) (hR.low hn)).mono ?_
  rintro ev w' ⟨gx, Lx, he, h1, h2, h3⟩
  refine ⟨⟨gx, Lx, he, hd.keep h2 (by simp), h1, fun y hy hm => ?_, hk.trans h2, hn, fun y hy => Nat.le_trans hk.size (h3 y hy)⟩, h2⟩
  have := h3 y hy
  have := hd.lt y hm
  omega
end
/-- Nothing lies behind the last record: an Open reads just what was put. -/
theorem Bears.stops {D : Dk} {S : Sr} {l : List Bs} (h : Bears D S l) (ht : S.at_ < D.sure.length → D.at S.at_ = zeros) : openP D D.sure.length Sr.new = S := by
  obtain ⟨n, hn⟩ := h.opens
  rw [hn]
  apply openP_done
  by_cases hl : S.at_ < D.sure.length
  · right
    have hb : bad D S.at_ := .inl (by rw [ht hl]; unfold zeros; decide)
    unfold oneF
    rw [if_pos hb]
  · exact .inl (by omega)
theorem kept_mem' (ws : List (Nat × Bs)) (ks : List Bool) : ∀ p ∈ kept ws ks, p ∈ ws := by
  induction ws generalizing ks with
  | nil => intro p hp; simp [kept] at hp
  | cons w ws ih =>
    intro p hp
    cases ks with
    | nil => simp [kept] at hp
    | cons k ks =>
      unfold kept at hp
      split at hp
      · rcases List.mem_cons.1 hp with rfl | hp
        · simp
        · exact List.mem_cons_of_mem _ (ih ks p hp)
      · exact List.mem_cons_of_mem _ (ih ks p hp)
theorem Bears.crash {D D1 : Dk} {S : Sr} {l : List Bs} (h : Bears D S l) (hs : D1.sure = D.sure) (hw : ∀ p ∈ D1.wait, S.at_ ≤ p.1 ∧ p.2.length = 64) (ks : List Bool) : Bears (D1.crash ks) S l := by
  have hlen : (D1.crash ks).sure.length = D.sure.length := by show (puts _ _).length = _; rw [puts_length, hs]
  have hok : ({ sure := D.sure, wait := kept D1.wait ks, fuse := -1 } : Dk).Ok := ⟨h.ok.1, fun p hp => (hw p (kept_mem' _ _ p hp)).2⟩
  have hsure : (D1.crash ks).sure = puts D.sure (kept D1.wait ks) := by show puts _ _ = _; rw [hs]
  have hat : ∀ k, k < S.at_ → (D1.crash ks).at k = D.at k := fun k hk => by
    by_cases hkl : k < D.sure.length
    · rw [at_put (D' := D1.crash ks) hok hsure rfl hkl]
      rw [at_sure h.wait]
      unfold Dk.at
      rw [lastWrite_out]
      intro p hp
      have := (hw p (kept_mem' _ _ p hp)).1
      omega
    · rw [at_sure rfl, at_sure h.wait, List.getD_eq_getElem?_getD, List.getD_eq_getElem?_getD, List.getElem?_eq_none (by rw [hlen]; omega), List.getElem?_eq_none (by omega)]
  refine h.beyond rfl ⟨?_, by simp [Dk.crash]⟩ hlen hat
  intro s hs'
  rw [hsure] at hs'
  exact ok_puts hok s hs'
theorem at_new (n k : Nat) : (Dk.new n).at k = zeros := by
  rw [at_sure rfl]
  have : (Dk.new n).sure.getD k [] = [] := by
    show (List.replicate n ([] : Bs)).getD k [] = []
    rw [List.getD_eq_getElem?_getD, List.getElem?_replicate]
    split <;> rfl
  rw [this]; rfl
end Go.Proofs.YtjoolemhcpcnoaaDoor
