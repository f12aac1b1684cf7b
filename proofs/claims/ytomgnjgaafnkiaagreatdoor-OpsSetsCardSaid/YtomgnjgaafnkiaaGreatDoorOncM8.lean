/- ops: picked. slices.IndexFunc and ContainsFunc over values and over rows, with a predicate that is handed in by its contract. foremankeep.small. -/
import Derived.Test.YtomgnjgaafnkiaaGreatDoorOncM6
import Derived.Test.YtomgnjgaafnkiaaGreatDoorOncM3
namespace Go.Proofs.YtomgnjgaafnkiaaGreatDoor
open Go.RowKit Go.BigFrame
attribute [local go_sem] bs_size bs_extract bs_append bs_toList
theorem slice_toS (A : Option Addr) (m d n : Nat) (h : n ≤ d) (W : World) : (Instr.slice 30 (.slice A m d) none (some (.int .i64 (n : Int))) none).run Tryz.prog W = .ok (.slice A n d) W := by
  have hT := Tryz.underlying30
  have hl0 : (0 : Int) ≤ (n : Int) := by omega
  have hl1 : (n : Int) ≤ (d : Int) := by omega
  cases A with
  | none => go_simp
  | some a => go_simp
theorem rdS_take {w : World} {A : Option Addr} {l : List Bs} {n : Nat} (h : Rd w [] 1 A l.length (strs l)) (hn : n ≤ l.length) : Rd w [] 1 A (l.take n).length (strs (l.take n)) := by
  refine ⟨by rw [strs_length, Nat.mul_one], fun h0 => ?_⟩
  obtain ⟨ad, e, hb, hlt, hc⟩ := h.2 (by rw [List.length_take] at h0; omega)
  refine ⟨ad, e, hb, hlt, fun j u hu => hc j u ?_⟩
  unfold strs at hu ⊢
  rw [List.map_take, List.getElem?_take] at hu
  split at hu
  · exact hu
  · cases hu
theorem cinfo' : (Tryz.prog.info? 39).map (fun i => (i.zero, i.size, i.bytes)) = some (some (.agg #[.string ⟨#[]⟩, .int .i64 0]), 2, 24) := by kernel_rfl
theorem csCells_snoc (q : List Cl) (v : Cl) : csCells (q ++ [v]) = csCells q ++ [.string (bs v.name), .int .i64 v.kind] := by simp [csCells, cCells]
theorem pickGo_at (a : List Cl) (l : List Bs) (m : Nat) (h : m < l.length) (out : List Cl) : pickGo a (l.take m) (l.drop m) out = match colIx a l[m] with
    | none => .error 7
    | some k => if l[m] ∈ l.take m then .error 9 else pickGo a (l.take (m + 1)) (l.drop (m + 1)) (out ++ [a.getD k zC]) := by
  rw [List.drop_eq_getElem_cons h]
  conv => lhs; unfold pickGo
  rw [List.take_succ_eq_append_getElem h]
  cases colIx a l[m] <;> rfl
set_option maxHeartbeats 8000000 in
theorem picked_any (j : Jb) (a : List Cl) (Ao : Option Addr) (co : Nat) (Ai : Option Addr) (ni ci : Nat) (Ac : Option Addr) (cc : Nat) (A : Option Addr) (c : Nat) (w : World) (hJ : JobIn w j Ao co Ac cc) (hA : Rd w [] 2 A a.length (csCells a)) (hc : a.length ≤ c) (hl : a.length ≤ 4294967296) :
    Calls Tryz.prog 66 #[jAgg j Ao co Ai ni ci Ac cc, .slice A a.length c] w fun e w' => ColsOut (pickedJ j a) e w' ∧ Keeps [] w w' := by
  obtain ⟨ic, hic, hcz0, hcz1, hcz2⟩ := info_parts cinfo'
  have HF0 := Lib.hid (fun (nm : Bs) W (q : Keeps [] w W) => find_any a nm A c W (hA.keep q) hl)
  have HA := Lib.hid hA
  have HJ := Lib.hid hJ.cols
  have hjc := hJ.cc
  have hjl := hJ.lc
  obtain ⟨R, hR⟩ : ∃ R, pickedJ j a = R := ⟨_, rfl⟩
  rw [hR]
  have HR : Hid (R = if j.cols.length = 0 ∨ 6 < j.cols.length then .error 1 else match pickGo a [] j.cols [] with
    | .error e => .error e
    | .ok out => .ok [if j.code = 4 then a else out]) := Lib.hid (by
    rw [← hR]
    unfold pickedJ
    split
    · rfl
    · cases pickGo a [] j.cols [] <;> rfl)
  clear hR hJ hA
  obtain ⟨at_, code, outs, ins, cols, op, ⟨lc, lk, ln, lw⟩, ⟨rc, rk, rn, rw'⟩, retry⟩ := j
  simp only at HR HJ hjc hjl
  have HK0 : Hid (Keeps [] w (w.alloc (.cells #[.int .i64 at_, .int .i64 code, .slice Ao outs.length co, .slice Ai ni ci, .slice Ac cols.length cc, .string (bs op), .string (bs lc), .int .i64 lk, .int .i64 ln, .string (bs lw), .string (bs rc), .int .i64 rk, .int .i64 rn, .string (bs rw'), .int .i64 retry] 36))) := Lib.hid ((Keeps.refl _ _).alloc _)
  have HBX := Lib.hid (Blk.new w 36 #[.int .i64 at_, .int .i64 code, .slice Ao outs.length co, .slice Ai ni ci, .slice Ac cols.length cc, .string (bs op), .string (bs lc), .int .i64 lk, .int .i64 ln, .string (bs lw), .string (bs rc), .int .i64 rk, .int .i64 rn, .string (bs rw'), .int .i64 retry])
  show Calls _ _ #[.agg #[.int .i64 at_, .int .i64 code, .slice Ao outs.length co, .slice Ai ni ci, .slice Ac cols.length cc, .string (bs op), .string (bs lc), .int .i64 lk, .int .i64 ln, .string (bs lw), .string (bs rc), .int .i64 rk, .int .i64 rn, .string (bs rw'), .int .i64 retry], .slice A a.length c] w _
  by_cases h0 : cols.length = 0
  · have t0 : ((cols.length : Int) == 0) = true := by rw [h0]; rfl
    have HR2 : Hid (R = .error 1) := Lib.hid (by rw [HR.out, if_pos (.inl h0)])
    clear HR h0
    go_enter Tryz.func66, Tryz.ntmps66
    go_wp2
    go_ret2
    exact ⟨by rw [HR2.out]; rfl, HK0.out⟩
  · have t0 : ((cols.length : Int) == 0) = false := by rw [beq_eq_false_iff_ne]; omega
    by_cases h6 : 6 < cols.length
    · have t6 : decide ((6 : Int) < (cols.length : Int)) = true := decide_eq_true (by omega)
      have HR2 : Hid (R = .error 1) := Lib.hid (by rw [HR.out, if_pos (.inr h6)])
      clear HR h0 h6
      go_enter Tryz.func66, Tryz.ntmps66
      go_wp2
      go_ret2
      exact ⟨by rw [HR2.out]; rfl, HK0.out⟩
    · have t6 : decide ((6 : Int) < (cols.length : Int)) = false := decide_eq_false (by omega)
      have hR3 : R = match pickGo a [] cols [] with
        | .error e => .error e
        | .ok out => .ok [if code = 4 then a else out] := by
        rw [HR.out, if_neg (by omega)]
      have HR3 := Lib.hid hR3
      obtain ⟨b, o, rfl, _, hb, hcs⟩ := HJ.out.open' (by omega) (by decide)
      have HCS := Lib.hid hcs
      have hpos : 0 < cols.length := by omega
      clear HR h0 hR3 hcs
      go_enter Tryz.func66, Tryz.ntmps66
      go_wp2
      obtain ⟨w2, hw2⟩ : ∃ w2, (w.alloc (.cells #[.int .i64 at_, .int .i64 code, .slice Ao outs.length co, .slice Ai ni ci, .slice (some ⟨b, o, none⟩) cols.length cc, .string (bs op), .string (bs lc), .int .i64 lk, .int .i64 ln, .string (bs lw), .string (bs rc), .int .i64 rk, .int .i64 rn, .string (bs rw'), .int .i64 retry] 36)) = w2 := ⟨_, rfl⟩
      rw [hw2] at HK0 HBX ⊢
      obtain ⟨bx, hbx⟩ : ∃ bx, w.heap.size = bx := ⟨_, rfl⟩
      rw [hbx] at HBX ⊢
      clear hw2 hbx
      go_loopw [6, 24] (fun u i wx => ∃ (m : Nat) (q : List Cl) (v : Value), v = u ∧ m ≤ cols.length ∧ q.length = m ∧ i = .int .i64 m ∧ wx.ownsRow w2.heap.size 39 2 v m (csCells q) ∧ Hid (pickGo a (cols.take m) (cols.drop m) q = pickGo a [] cols []) ∧ Keeps [] w2 wx) (fun _ i _ => cols.length - (intOf i).toNat)
      case atStart => exact ⟨0, [], _, rfl, Nat.zero_le _, rfl, rfl, World.ownsRow_nil _ _ _ _, by rw [List.take_zero, List.drop_zero]; exact rfl, Keeps.refl _ _⟩
      case round =>
        obtain ⟨m, q, v, rfl, hm, hq, rfl, hown, HPG, hk⟩ := hrel
        have HQ := Lib.hid hq
        have HO := Lib.hid hown
        have HK := Lib.hid hk
        have HKW := Lib.hid (HK0.out.trans hk)
        clear hq hown hk
        by_cases hlt : m < cols.length
        · have d0 := HKW.out.cell_of (HCS.out m _ (strs_at' cols m hlt)) (by simp)
          have y4 : wr.cell? ⟨bx, 4, none⟩ = some (.slice (some ⟨b, o, none⟩) cols.length cc) := HK.out.cell_of (HBX.out.cell 4) (by simp)
          have hst := pickGo_at a cols m hlt q
          rw [HPG.out] at hst
          have HST := Lib.hid hst
          have HCT := Lib.hid (fun W (z : Keeps [] w W) => contains_any (cols.take m) (cols[m]) (some ⟨b, o, none⟩) cc W (rdS_take (HJ.out.keep z) hm) (by rw [List.length_take]; omega))
          have hml : (cols.take m).length = m := by rw [List.length_take]; omega
          rw [hml] at HCT
          have hsl := slice_toS (some ⟨b, o, none⟩) cols.length cc m (by omega)
          have HF := Lib.hid (HF0.out cols[m])
          clear hst hml
          generalize cols[m] = nm at *
          cases hci : colIx a nm with
          | none =>
            rw [hci] at HF HST
            have HR4 : Hid (R = .error 7) := Lib.hid (by rw [HR3.out, HST.out])
            clear hci
            go_wp2_with fail
            refine (HF.out _ HKW.out).mono ?_
            rintro e w5 ⟨rfl, hk5⟩
            simp only [optI]
            go_wp2
            go_ret2
            exact ⟨by rw [HR4.out]; rfl, HKW.out.trans hk5⟩
          | some k =>
            rw [hci] at HF HST
            have hkl : k < a.length := (List.findIdx?_eq_some_iff_getElem.1 hci).1
            have hgd : a.getD k zC = a[k] := by rw [List.getD_eq_getElem?_getD, List.getElem?_eq_getElem hkl]; rfl
            obtain ⟨b4, o4, hAe, _, hb4, hcs⟩ := HA.out.open' (by omega) (by omega)
            subst hAe
            have d1 := hcs (k * 2) _ (csCells_at a k hkl).1
            have d2 := hcs (k * 2 + 1) _ (csCells_at a k hkl).2
            rw [← Nat.add_assoc] at d2
            have hi0 : ((k : Int) < 0) = False := eq_false (by omega)
            have hi1 : (0 : Int) ≤ (k : Int) := by omega
            have hi2 : (k : Int) < (a.length : Int) := by omega
            by_cases hin : nm ∈ cols.take m
            · rw [decide_eq_true hin] at HCT
              have HR4 : Hid (R = .error 9) := Lib.hid (by rw [HR3.out, HST.out]; simp only; rw [if_pos hin])
              clear hci hin hcs hgd d1 d2
              go_wp2_with fail
              refine (HF.out _ HKW.out).mono ?_
              rintro e w5 ⟨rfl, hk5⟩
              simp only [optI]
              have y5 := hk5.cell_of y4 (by simp)
              go_wp2_with (go_at_call 27; refine (HCT.out _ (HKW.out.trans hk5)).mono ?_; rintro e w6 ⟨rfl, rfl⟩)
              go_ret2
              exact ⟨by rw [HR4.out]; rfl, HKW.out.trans hk5⟩
            · rw [decide_eq_false hin] at HCT
              have HPG2 : Hid (pickGo a (cols.take (m + 1)) (cols.drop (m + 1)) (q ++ [a[k]]) = pickGo a [] cols []) := Lib.hid (by rw [HST.out]; simp only; rw [if_neg hin, hgd])
              have HD1 := Lib.hid d1
              have HD2 := Lib.hid d2
              clear hci hin hcs hgd d1 d2
              generalize a[k] = cl at *
              go_wp2_with fail
              refine (HF.out _ HKW.out).mono ?_
              rintro e w5 ⟨rfl, hk5⟩
              simp only [optI]
              have y5 := hk5.cell_of y4 (by simp)
              have e1 := (HKW.out.trans hk5).cell_of HD1.out (by simp)
              have e2 := (HKW.out.trans hk5).cell_of HD2.out (by simp)
              have HO5 := Lib.hid (own_keep HO.out hk5 (fun _ _ => by simp))
              have hz5 : w2.heap.size ≤ w5.heap.size := Nat.le_trans HK.out.size hk5.size
              have HK5 := Lib.hid (HK.out.trans hk5)
              have HCT5 := Lib.hid (HCT.out _ (HKW.out.trans hk5))
              have hbd := Lib.hid (show m + 1 ≤ maxLen ∧ (m + 1) * 24 ≤ 140737488355328 by simp only [maxLen]; omega)
              clear hk5 y4
              go_wp2_with (first | (go_at_call 27; refine HCT5.out.mono ?_; rintro e w6 ⟨rfl, rfl⟩) | (at_builtin; refine wpList_append_lies _ rfl _ _ 22 rfl w2.heap.size 39 ic _ 2 24 Tryz.underlying22 hic hcz0 hcz1 hcz2 rfl (by decide) _ m (csCells q) rfl (HO5.out.alloc _) ⟨w5.heap.size, 0, none⟩ 1 1 [.string (bs cl.name), .int .i64 cl.kind] rfl rfl (World.news_of_block (heap_alloc_new _ _)) (by simp [Value.oneCell']) (by decide) hbd.out.1 hbd.out.2 (by simp; omega) _ rfl ?_; intro gw cap2 w8 hown8 hgrow8 hat8 hlt8))
              have HK8 := Lib.hid ((HK5.out.alloc (.cells #[.string (bs cl.name), .int .i64 cl.kind] 39)).grown hgrow8 (fun g hg => .inr (HO5.out.lt g hg).1))
              rw [← csCells_snoc] at hown8
              have HO8 := Lib.hid hown8
              clear hown8 hgrow8 hat8 hlt8
              go_wp2
              go_roundw
              case rel => exact ⟨m + 1, q ++ [cl], _, rfl, by omega, by simp [HQ.out], by go_num, HO8.out, HPG2, HK8.out⟩
              case measure => simp [intOf]; omega
        · obtain rfl : m = cols.length := by omega
          have hpg := HPG.out
          rw [List.drop_length] at hpg
          have HR4 : Hid (R = .ok [if code = 4 then a else q]) := Lib.hid (by rw [HR3.out, ← hpg]; rfl)
          clear hpg HPG
          have y1 : wr.cell? ⟨bx, 1, none⟩ = some (.int .i64 code) := HK.out.cell_of (HBX.out.cell 1) (by simp)
          by_cases h4 : code = 4
          · have t4 : (code == 4) = true := by rw [h4]; rfl
            have HR5 : Hid (R = .ok [a]) := Lib.hid (by rw [HR4.out, if_pos h4])
            have HRO := Lib.hid (heads_one (HA.out.keep HKW.out) hc 22)
            clear h4
            go_wp2
            go_ret2
            exact ⟨by rw [HR5.out]; exact ⟨_, _, rfl, Nat.le_refl _, HRO.out⟩, HKW.out.alloc _⟩
          · have t4 : (code == 4) = false := by rw [beq_eq_false_iff_ne]; exact h4
            have HR5 : Hid (R = .ok [q]) := Lib.hid (by rw [HR4.out, if_neg h4])
            obtain ⟨Aq, cq, hv, hcq, hrd⟩ : ∃ A c, v = .slice A q.length c ∧ q.length ≤ c ∧ Rd wr [] 2 A q.length (csCells q) := by
              have h := HO.out
              rcases h.2 with ⟨hv, h0⟩ | ⟨g, cap, cur, hv, hb, hh, hc, r⟩
              · omega
              · exact ⟨_, cap, by rw [HQ.out]; exact hv, by rw [HQ.out]; exact hc, by rw [HQ.out]; exact Rd.of_own (hv ▸ h) (fun _ _ => by simp)⟩
            subst hv
            have HRO := Lib.hid (heads_one hrd hcq 22)
            clear h4 hrd
            go_wp2
            go_ret2
            exact ⟨by rw [HR5.out]; exact ⟨_, _, rfl, Nat.le_refl _, HRO.out⟩, HKW.out.alloc _⟩
end Go.Proofs.YtomgnjgaafnkiaaGreatDoor
namespace Go.Proofs.YtomgnjgaafnkiaaGreatDoor
open Go.RowKit
attribute [local go_sem] bs_size bs_extract bs_append bs_toList
def findIx {α : Type} (p : α → Bool) (l : List α) : Int := match l.findIdx? p with | some i => (i : Int) | none => -1
theorem findIx_hit {α : Type} {p : α → Bool} {l : List α} {k : Nat} (h : k < l.length) (hn : ∀ j (hj : j < k), p (l[j]'(by omega)) = false) (hp : p l[k] = true) : findIx p l = (k : Int) := by
  unfold findIx
  have : l.findIdx? p = some k := by
    rw [List.findIdx?_eq_some_iff_getElem]
    exact ⟨h, hp, fun j hj => by simpa using hn j hj⟩
  rw [this]
theorem findIx_none {α : Type} {p : α → Bool} {l : List α} (hn : ∀ j (hj : j < l.length), p l[j] = false) : findIx p l = -1 := by
  unfold findIx
  have : l.findIdx? p = none := by
    rw [List.findIdx?_eq_none_iff]
    intro x hx
    obtain ⟨j, hj, rfl⟩ := List.getElem_of_mem hx
    exact hn j hj
  rw [this]
theorem findIx_any {α : Type} (p : α → Bool) (l : List α) : decide (0 ≤ findIx p l) = l.any p := by
  unfold findIx
  cases h : l.findIdx? p with
  | none =>
    rw [List.findIdx?_eq_none_iff] at h
    simp
    intro x hx
    simpa using h x hx
  | some i =>
    rw [List.findIdx?_eq_some_iff_getElem] at h
    obtain ⟨hi, hp, _⟩ := h
    simp
    exact ⟨_, List.getElem_mem hi, hp⟩
def PredV (k : Nat) (cap : Array Value) (p : Vl → Bool) (l : List Vl) (w : World) : Prop :=
  ∀ c ∈ l, ∀ W, Keeps [] w W → Calls Tryz.prog k (#[vAgg c] ++ cap) W fun e W' => e = .returned (.bool (p c)) ∧ Keeps [] W W'
def PredR (k : Nat) (cap : Array Value) (p : List Vl → Bool) (l : List (List Vl)) (w : World) : Prop :=
  ∀ r ∈ l, ∀ A c W, Keeps [] w W → r.length ≤ c → Rd W [] 3 A r.length (vsCells r) → Calls Tryz.prog k (#[.slice A r.length c] ++ cap) W fun e W' => e = .returned (.bool (p r)) ∧ Keeps [] W W'
set_option maxHeartbeats 2000000 in
theorem indexFuncV_any (k : Nat) (cap : Array Value) (he : ∀ args w, (callFunc k args).run Tryz.prog w = .ok (.enter k args) w) (p : Vl → Bool) (l : List Vl) (A : Option Addr) (c : Nat) (w : World) (hR : Rd w [] 3 A l.length (vsCells l)) (hl : l.length ≤ 4294967296) (hf : PredV k cap p l w) :
    Calls Tryz.prog 53 #[.slice A l.length c, .func (.func k) #[] cap] w fun e w' => e = .returned (.int .i64 (findIx p l)) ∧ Keeps [] w w' := by
  have HR := Lib.hid hR
  have HF := Lib.hid hf
  clear hR hf
  go_enter Tryz.func53, Tryz.ntmps53
  go_wp2
  go_loopw [8] (fun i wr => ∃ n : Nat, n ≤ l.length ∧ i = .int .i64 n ∧ Hid (∀ j (hj : j < n) (hl : j < l.length), p l[j] = false) ∧ Keeps [] w wr) (fun i _ => l.length - (intOf i).toNat)
  case atStart => exact ⟨0, Nat.zero_le _, rfl, fun j hj => absurd hj (by omega), Keeps.refl _ _⟩
  case round =>
    obtain ⟨n, hn, rfl, hno, hk⟩ := hrel
    by_cases hlt : n < l.length
    · obtain ⟨b, o, rfl, _, hb, hc⟩ := (HR.out.keep hk).open' (by omega) (by omega)
      have d1 := hc (n * 3) _ (vsCells_at l n hlt).1
      have d2 := hc (n * 3 + 1) _ (vsCells_at l n hlt).2.1
      have d3 := hc (n * 3 + 2) _ (vsCells_at l n hlt).2.2
      rw [← Nat.add_assoc] at d2 d3
      have HH := HF.out l[n] (List.getElem_mem hlt) wr hk
      generalize hx : l[n] = x at *
      have HX := Lib.hid hx
      have HH' := Lib.hid HH
      clear HH hc hx
      cases hp : p x with
      | true =>
        have hfin : findIx p l = (n : Int) := findIx_hit hlt (fun j hj => hno j hj (by omega)) ((congrArg p HX.out).trans hp)
        rw [hp] at HH'
        have HP := Lib.hid hfin
        clear hfin hp
        go_wp2_with fail
        refine HH'.out.mono ?_
        rintro e W2 ⟨rfl, hk2⟩
        go_wp2
        go_ret
        exact ⟨by rw [HP.out]; rfl, hk.trans hk2⟩
      | false =>
        have hno' : Hid (∀ j (hj : j < n + 1) (hl : j < l.length), p l[j] = false) := fun j hj hl => by
          by_cases h : j < n
          · exact hno j h hl
          · obtain rfl : j = n := by omega
            exact (congrArg p HX.out).trans hp
        rw [hp] at HH'
        clear hp
        go_wp2_with fail
        refine HH'.out.mono ?_
        rintro e W2 ⟨rfl, hk2⟩
        go_wp2
        go_roundw
        case rel => exact ⟨n + 1, by omega, by go_num, hno', hk.trans hk2⟩
        case measure => simp [intOf]; omega
    · have hfin : Hid (findIx p l = -1) := findIx_none fun j hj => hno j (by omega) hj
      go_wp2
      go_ret
      exact ⟨by rw [hfin.out]; rfl, hk⟩
theorem containsFuncV_any (k : Nat) (cap : Array Value) (he : ∀ args w, (callFunc k args).run Tryz.prog w = .ok (.enter k args) w) (p : Vl → Bool) (l : List Vl) (A : Option Addr) (c : Nat) (w : World) (hR : Rd w [] 3 A l.length (vsCells l)) (hl : l.length ≤ 4294967296) (hf : PredV k cap p l w) :
    Calls Tryz.prog 38 #[.slice A l.length c, .func (.func k) #[] cap] w fun e w' => e = .returned (.bool (l.any p)) ∧ Keeps [] w w' := by
  have HC := Lib.hid (indexFuncV_any k cap he p l A c w hR hl hf)
  clear hR hf he
  rw [← findIx_any]
  go_enter Tryz.func38, Tryz.ntmps38
  go_wp2_with (go_at_call 53; refine HC.out.mono ?_; rintro e W2 ⟨rfl, hk2⟩)
  go_ret
  exact ⟨rfl, hk2⟩
set_option maxHeartbeats 2000000 in
theorem indexFuncR_any (k : Nat) (cap : Array Value) (he : ∀ args w, (callFunc k args).run Tryz.prog w = .ok (.enter k args) w) (p : (List Vl) → Bool) (l : List (List Vl)) (A : Option Addr) (c : Nat) (w : World) (hR : RdRows w [] A l) (hl : l.length ≤ 4294967296) (hf : PredR k cap p l w) :
    Calls Tryz.prog 52 #[.slice A l.length c, .func (.func k) #[] cap] w fun e w' => e = .returned (.int .i64 (findIx p l)) ∧ Keeps [] w w' := by
  have HR := Lib.hid hR
  have HF := Lib.hid hf
  clear hR hf
  go_enter Tryz.func52, Tryz.ntmps52
  go_wp2
  go_loopw [8] (fun i wr => ∃ n : Nat, n ≤ l.length ∧ i = .int .i64 n ∧ Hid (∀ j (hj : j < n) (hl : j < l.length), p l[j] = false) ∧ Keeps [] w wr) (fun i _ => l.length - (intOf i).toNat)
  case atStart => exact ⟨0, Nat.zero_le _, rfl, fun j hj => absurd hj (by omega), Keeps.refl _ _⟩
  case round =>
    obtain ⟨n, hn, rfl, hno, hk⟩ := hrel
    by_cases hlt : n < l.length
    · obtain ⟨us, hul, hu1, hu2⟩ := HR.out.keep hk
      obtain ⟨b, o, rfl, _, hb, hc⟩ := hu1.open' (by omega) (by omega)
      have d1 := hc n _ (List.getElem?_eq_getElem (by omega))
      obtain ⟨Ar, cr, hue, hcr, hRr⟩ := hu2 n (by omega) hlt
      rw [hue] at d1
      have HH := HF.out l[n] (List.getElem_mem hlt) Ar cr wr hk hcr hRr
      clear hue hcr hRr hu1 hu2
      generalize hx : l[n] = x at *
      have HX := Lib.hid hx
      have HH' := Lib.hid HH
      clear HH hc hx
      cases hp : p x with
      | true =>
        have hfin : findIx p l = (n : Int) := findIx_hit hlt (fun j hj => hno j hj (by omega)) ((congrArg p HX.out).trans hp)
        rw [hp] at HH'
        have HP := Lib.hid hfin
        clear hfin hp
        go_wp2_with fail
        refine HH'.out.mono ?_
        rintro e W2 ⟨rfl, hk2⟩
        go_wp2
        go_ret
        exact ⟨by rw [HP.out]; rfl, hk.trans hk2⟩
      | false =>
        have hno' : Hid (∀ j (hj : j < n + 1) (hl : j < l.length), p l[j] = false) := fun j hj hl => by
          by_cases h : j < n
          · exact hno j h hl
          · obtain rfl : j = n := by omega
            exact (congrArg p HX.out).trans hp
        rw [hp] at HH'
        clear hp
        go_wp2_with fail
        refine HH'.out.mono ?_
        rintro e W2 ⟨rfl, hk2⟩
        go_wp2
        go_roundw
        case rel => exact ⟨n + 1, by omega, by go_num, hno', hk.trans hk2⟩
        case measure => simp [intOf]; omega
    · have hfin : Hid (findIx p l = -1) := findIx_none fun j hj => hno j (by omega) hj
      go_wp2
      go_ret
      exact ⟨by rw [hfin.out]; rfl, hk⟩
theorem containsFuncR_any (k : Nat) (cap : Array Value) (he : ∀ args w, (callFunc k args).run Tryz.prog w = .ok (.enter k args) w) (p : (List Vl) → Bool) (l : List (List Vl)) (A : Option Addr) (c : Nat) (w : World) (hR : RdRows w [] A l) (hl : l.length ≤ 4294967296) (hf : PredR k cap p l w) :
    Calls Tryz.prog 31 #[.slice A l.length c, .func (.func k) #[] cap] w fun e w' => e = .returned (.bool (l.any p)) ∧ Keeps [] w w' := by
  have HC := Lib.hid (indexFuncR_any k cap he p l A c w hR hl hf)
  clear hR hf he
  rw [← findIx_any]
  go_enter Tryz.func31, Tryz.ntmps31
  go_wp2_with (go_at_call 52; refine HC.out.mono ?_; rintro e W2 ⟨rfl, hk2⟩)
  go_ret
  exact ⟨rfl, hk2⟩
end Go.Proofs.YtomgnjgaafnkiaaGreatDoor
namespace Go.Proofs.YtomgnjgaafnkiaaGreatDoor
open Go.RowKit
attribute [local go_sem] bs_size bs_extract bs_append bs_toList
def smallB (t : Tb) : Bool := !(decide (8 < t.cols.length) || decide (65 < t.rows.length) || t.cols.any (fun c => decide (40 < c.name.length))) && !(t.rows.any fun r => decide (8 < r.length) || r.any fun v => decide (40 < v.word.length))
theorem longC_any (c : Cl) (w : World) : Calls Tryz.prog 36 #[cAgg c] w fun e w' => e = .returned (.bool (decide (40 < c.name.length))) ∧ Keeps [] w w' := by
  obtain ⟨s, k⟩ := c
  show Calls _ _ #[.agg #[.string (bs s), .int .i64 k]] w _
  go_enter Tryz.func36, Tryz.ntmps36
  go_wp2
  go_ret
  exact ⟨congrArg (fun b => Ending.returned (.bool b)) (decide_eq_decide.2 (show ((40 : Int) < (s.length : Int)) ↔ 40 < s.length by omega)), (Keeps.refl _ _).alloc _⟩
theorem longV_any (v : Vl) (w : World) : Calls Tryz.prog 39 #[vAgg v] w fun e w' => e = .returned (.bool (decide (40 < v.word.length))) ∧ Keeps [] w w' := by
  obtain ⟨k, n, s⟩ := v
  show Calls _ _ #[.agg #[.int .i64 k, .int .i64 n, .string (bs s)]] w _
  go_enter Tryz.func39, Tryz.ntmps39
  go_wp2
  go_ret
  exact ⟨congrArg (fun b => Ending.returned (.bool b)) (decide_eq_decide.2 (show ((40 : Int) < (s.length : Int)) ↔ 40 < s.length by omega)), (Keeps.refl _ _).alloc _⟩
theorem longR_any (r : List Vl) (A : Option Addr) (c : Nat) (w : World) (hc : r.length ≤ c) (hR : Rd w [] 3 A r.length (vsCells r)) :
    Calls Tryz.prog 37 #[.slice A r.length c] w fun e w' => e = .returned (.bool (decide (8 < r.length) || r.any fun v => decide (40 < v.word.length))) ∧ Keeps [] w w' := by
  by_cases h : 8 < r.length
  · have h1 : (8 : Int) < (r.length : Int) := by omega
    have HR : Hid ((decide (8 < r.length) || r.any fun v => decide (40 < v.word.length)) = true) := Lib.hid (by rw [decide_eq_true h]; rfl)
    rw [HR.out]
    clear hR h
    go_enter Tryz.func37, Tryz.ntmps37
    go_wp2
    go_ret
    exact ⟨rfl, Keeps.refl _ _⟩
  · have h1 : ¬ (8 : Int) < (r.length : Int) := by omega
    have HC := Lib.hid (containsFuncV_any 39 #[] (enters_of Tryz.func39 (by kernel_rfl) rfl) (fun v => decide (40 < v.word.length)) r A c w hR (by omega) (fun v _ W _ => longV_any v W))
    rw [decide_eq_false h, Bool.false_or]
    generalize (r.any fun v => decide (40 < v.word.length)) = R at *
    clear hR h
    go_enter Tryz.func37, Tryz.ntmps37
    go_wp2_with (go_at_call 38; refine HC.out.mono ?_; rintro e W2 ⟨rfl, hk2⟩)
    go_ret
    exact ⟨rfl, hk2⟩
set_option maxHeartbeats 2000000 in
theorem small_any (t : Tb) (A B : Option Addr) (c d : Nat) (w : World) (hA : Rd w [] 2 A t.cols.length (csCells t.cols)) (hB : RdRows w [] B t.rows) :
    Calls Tryz.prog 9 #[tAgg A t.cols.length c B t.rows.length d] w fun e w' => e = .returned (.bool (smallB t)) ∧ Keeps [] w w' := by
  show Calls _ _ #[.agg #[.slice A t.cols.length c, .slice B t.rows.length d]] w _
  by_cases h8 : 8 < t.cols.length
  · have h1 : (8 : Int) < (t.cols.length : Int) := by omega
    have HR : Hid (smallB t = false) := Lib.hid (by unfold smallB; rw [decide_eq_true h8]; rfl)
    clear hA hB h8
    go_enter Tryz.func9, Tryz.ntmps9
    go_wp2
    go_ret
    exact ⟨by rw [HR.out]; rfl, (Keeps.refl _ _).alloc _⟩
  · have h1 : ¬ (8 : Int) < (t.cols.length : Int) := by omega
    by_cases h65 : 65 < t.rows.length
    · have h2 : (65 : Int) < (t.rows.length : Int) := by omega
      have HR : Hid (smallB t = false) := Lib.hid (by unfold smallB; rw [decide_eq_true h65, Bool.or_true]; rfl)
      clear hA hB h8 h65
      go_enter Tryz.func9, Tryz.ntmps9
      go_wp2
      go_ret
      exact ⟨by rw [HR.out]; rfl, (Keeps.refl _ _).alloc _⟩
    · have h2 : ¬ (65 : Int) < (t.rows.length : Int) := by omega
      have HC := Lib.hid (fun W (q : Keeps [] w W) => containsFuncC_any 36 #[] (enters_of Tryz.func36 (by kernel_rfl) rfl) (fun c => decide (40 < c.name.length)) t.cols A c W (hA.keep q) (by omega) (fun v _ W _ => longC_any v W))
      have HD := Lib.hid (fun W (q : Keeps [] w W) => containsFuncR_any 37 #[] (enters_of Tryz.func37 (by kernel_rfl) rfl) (fun r => decide (8 < r.length) || r.any fun v => decide (40 < v.word.length)) t.rows B d W (hB.keep q) (by omega) (fun r _ A c W _ hc hr => longR_any r A c W hc hr))
      have HR : Hid (smallB t = (!(t.cols.any (fun c => decide (40 < c.name.length))) && !(t.rows.any fun r => decide (8 < r.length) || r.any fun v => decide (40 < v.word.length)))) := Lib.hid (by unfold smallB; rw [decide_eq_false h65, decide_eq_false h8]; rfl)
      rw [HR.out]
      generalize (t.rows.any fun r => decide (8 < r.length) || r.any fun v => decide (40 < v.word.length)) = R at *
      generalize (t.cols.any (fun c => decide (40 < c.name.length))) = Q at *
      clear hA hB h8 h65
      cases Q with
      | true =>
        go_enter Tryz.func9, Tryz.ntmps9
        go_wp2_with (go_at_call 35; refine (HC.out _ ((Keeps.refl _ _).alloc _)).mono ?_; rintro e W2 ⟨rfl, hk2⟩)
        go_ret
        exact ⟨rfl, ((Keeps.refl _ _).alloc _).trans hk2⟩
      | false =>
        go_enter Tryz.func9, Tryz.ntmps9
        go_wp2_with (go_at_call 35; refine (HC.out _ ((Keeps.refl _ _).alloc _)).mono ?_; rintro e W2 ⟨rfl, hk2⟩; have q1 := hk2.cell_of (p := ⟨w.heap.size, 1, none⟩) (v := .slice B t.rows.length d) (by simp) (by simp))
        refine (HD.out _ (((Keeps.refl _ _).alloc _).trans hk2)).mono ?_
        rintro e W3 ⟨rfl, hk3⟩
        go_wp2
        go_ret
        exact ⟨rfl, (((Keeps.refl _ _).alloc _).trans hk2).trans hk3⟩
end Go.Proofs.YtomgnjgaafnkiaaGreatDoor
