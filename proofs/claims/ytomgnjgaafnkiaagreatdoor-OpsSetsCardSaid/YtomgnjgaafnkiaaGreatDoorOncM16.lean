/- A map from texts to booleans, all of them true: a set of texts. ops.text: a row as one text. ops.distinct. -/
import Derived.Test.YtomgnjgaafnkiaaGreatDoorOncM1
import Derived.Maps.Own
import Derived.Maps.OwnSet
import Derived.Maps.StringElems
import Derived.Test.YtomgnjgaafnkiaaGreatDoorOncM12
namespace Go.Proofs.YtomgnjgaafnkiaaGreatDoor
open Go.RowKit Go.Maps
/-- Block b is a map of at most n entries that holds true at just these texts, and nothing else. -/
def SetOf (P : Program) (S E : TypeId) (w : World) (b n : Nat) (l : List Bs) : Prop :=
  ∃ D : DataW Unit, w.ownsMap P S (plainElem P E) b n D ∧ ∀ k : Bs, Maps.has D (.string k) = decide (k ∈ l) ∧ D.atKey (.string k) (.lit (.bool false)) = .lit (.bool (decide (k ∈ l)))
section
variable {P : Program} {T S E : TypeId} {w w' : World} {b n : Nat} {l : List Bs}
theorem SetOf.lt (h : SetOf P S E w b n l) : b < w.heap.size := by obtain ⟨D, h, _⟩ := h; exact h.lt
theorem SetOf.made (w : World) : SetOf P S E (w.alloc (.map #[] 0)) w.heap.size 0 [] :=
  ⟨_, World.ownsMap_made w _ _ _, fun _ => ⟨rfl, rfl⟩⟩
theorem SetOf.of_block (h : SetOf P S E w b n l) (hb : w'.heap[b]? = w.heap[b]?) : SetOf P S E w' b n l := by
  obtain ⟨D, ⟨es, clock, h1, h2⟩, h3⟩ := h
  exact ⟨D, ⟨es, clock, hb.trans h1, h2⟩, h3⟩
theorem SetOf.keep {L : List Nat} (h : SetOf P S E w b n l) (hk : Keeps L w w') (hb : b ∉ L) : SetOf P S E w' b n l := h.of_block (hk.block b h.lt hb)
theorem SetOf.mono (h : SetOf P S E w b n l) {n' : Nat} (hn : n ≤ n') : SetOf P S E w b n' l := by
  obtain ⟨D, h1, h2⟩ := h
  exact ⟨D, h1.mono hn, h2⟩
theorem plainElem_bool_inv {v : Value} {d : DataW Unit} {ps : List MemPlace} (hE : P.underlying E = some .bool) (h : plainElem P E v = some (d, ps)) : ∃ x, v = .bool x ∧ d = .lit (.bool x) := by
  simp only [plainElem, hE] at h
  cases v <;> simp at h
  exact ⟨_, rfl, h.1.symm⟩
theorem SetOf.look (h : SetOf P S E w b n l) (hT : P.underlying T = some (.map S E)) (hS : P.underlying S = some .string) (hE : P.underlying E = some .bool) (hz : (zeroValue E).run P w = .ok (.bool false) w) (k : Bs) (hk : k.length ≤ maxLen) :
    (Instr.lookup T (.map (some b)) (.string (bs k)) false).run P w = .ok (.bool (decide (k ∈ l))) w := by
  obtain ⟨D, h1, h2⟩ := h
  have hkey : keyOf P S (.string (bs k)) = some (.string k) := WideMaps.keyOf_string_mk hS (by rw [bs_size]; exact hk)
  obtain ⟨v, ps, hrun, hv⟩ := h1.lookup (string_keyed hS) hT hz (plainElem_bool hE false) hkey
  obtain ⟨x, rfl, hx⟩ := plainElem_bool_inv hE hv
  rw [(h2 k).2] at hx
  injection hx with hx
  injection hx with hx
  rw [hrun, hx]
theorem SetOf.store (h : SetOf P S E w b n l) (hT : P.underlying T = some (.map S E)) (hS : P.underlying S = some .string) (hE : P.underlying E = some .bool) (k : Bs) (hk : k.length ≤ maxLen) (hn : n < maxLen) :
    ∃ w', (Instr.mapUpdate T (.map (some b)) (.string (bs k)) (.bool true)).run P w = .ok () w' ∧ SetOf P S E w' b (n + 1) (k :: l) ∧ w.grownBy w' (some b) := by
  obtain ⟨D, h1, h2⟩ := h
  have hkey : keyOf P S (.string (bs k)) = some (.string k) := WideMaps.keyOf_string_mk hS (by rw [bs_size]; exact hk)
  obtain ⟨w', hrun, h3, h4⟩ := h1.update (string_keyed hS) hT hn hkey (plainElem_bool hE true)
  have hm := h1.isMap
  refine ⟨w', hrun, ⟨_, h3, fun x => ?_⟩, h4⟩
  by_cases hx : x = k
  · subst hx
    exact ⟨by rw [has_put_same hm (by trivial)]; simp, by rw [atKey_put_same hm (by trivial)]; simp⟩
  · have hne : (Lit.string x) ≠ Lit.string k := fun e => hx (by injection e)
    have hd : decide (x ∈ k :: l) = decide (x ∈ l) := by simp [hx]
    rw [hd]
    exact ⟨by rw [has_put_other hne]; exact (h2 x).1, by rw [atKey_put_other hne]; exact (h2 x).2⟩
end
end Go.Proofs.YtomgnjgaafnkiaaGreatDoor
namespace Go.Proofs.YtomgnjgaafnkiaaGreatDoor
open Go.RowKit Go.BigFrame
attribute [local go_sem] bs_size bs_extract bs_append bs_toList
theorem joinC_tail (c : UInt8) (x : Bs) (r : List Bs) : joinC c (x :: r) = x ++ Lib.joinTail [c] r := by
  induction r generalizing x with
  | nil => simp [joinC, Lib.joinTail]
  | cons y t ih =>
    show x ++ c :: joinC c (y :: t) = _
    rw [ih y]
    simp [Lib.joinTail]
theorem join_joinC (c : UInt8) {l : List Bs} (h : l ≠ []) : Lib.join l [c] = joinC c l := by
  cases l with
  | nil => exact absurd rfl h
  | cons x r => rw [Lib.join_cons, joinC_tail]
set_option maxHeartbeats 4000000 in
theorem text_any (r : List Vl) (h1 : 1 ≤ r.length) (h6 : r.length ≤ 4294967296) (hv : ∀ v ∈ r, numOk v.num ∧ v.word.length ≤ 1000000000) (hlen : (rowText r).length ≤ 140737488355328) (A : Option Addr) (c : Nat) (w : World) (hE : TEnv w) (hA : Rd w [] 3 A r.length (vsCells r)) :
    Calls Tryz.prog 96 #[.slice A r.length c] w fun e w' => e = .returned (.string (bs (rowText r))) ∧ Keeps [] w w' := by
  obtain ⟨is, his, hsz0, hsz1, hsz2⟩ := info_parts sinfo
  have HV := Lib.hid (fun v (hm : v ∈ r) W (q : Keeps [] w W) => value_any v (hv v hm).1 (hv v hm).2 W (hE.quiet q))
  obtain ⟨b, o, rfl, _, hb, hcs⟩ := hA.open' (by omega) (by omega)
  have HCS := Lib.hid hcs
  clear hcs hA hE hv
  go_enter Tryz.func96, Tryz.ntmps96
  go_wp2
  go_loopw [3, 8] (fun u i wx => ∃ (m : Nat) (v : Value), v = u ∧ m ≤ r.length ∧ i = .int .i64 m ∧ wx.ownsRow w.heap.size 9 1 v m (strs ((r.take m).map valueL)) ∧ Keeps [] w wx) (fun _ i _ => r.length - (intOf i).toNat)
  case atStart => exact ⟨0, _, rfl, Nat.zero_le _, rfl, World.ownsRow_nil _ _ _ _, Keeps.refl _ _⟩
  case round =>
    obtain ⟨m, v, rfl, hm, rfl, hown, hk⟩ := hrel
    have HO := Lib.hid hown
    have HK := Lib.hid hk
    clear hown hk
    by_cases hlt : m < r.length
    · obtain ⟨x0, x1, x2⟩ := vsCells_at r m hlt
      have d0 := HK.out.cell_of (HCS.out _ _ x0) (by simp)
      have d1 := HK.out.cell_of (HCS.out _ _ x1) (by simp)
      have d2 := HK.out.cell_of (HCS.out _ _ x2) (by simp)
      rw [← Nat.add_assoc] at d1 d2
      have HVV := Lib.hid (HV.out r[m] (List.getElem_mem hlt))
      have hst : (r.take (m + 1)).map valueL = (r.take m).map valueL ++ [valueL r[m]] := by rw [List.take_succ_eq_append_getElem hlt, List.map_append]; rfl
      have HST := Lib.hid hst
      clear hst x0 x1 x2
      generalize r[m] = x at *
      obtain ⟨xk, xn, xw⟩ := x
      have HVW : Hid (∀ W, Keeps [] w W → Calls Tryz.prog 61 #[.agg #[.int .i64 xk, .int .i64 xn, .string (bs xw)]] W fun e w' => e = .returned (.string (bs (valueL ⟨xk, xn, xw⟩))) ∧ Keeps [] W w') := HVV
      clear HVV
      generalize valueL ⟨xk, xn, xw⟩ = tx at *
      have hi0 : (0 : Int) ≤ (m : Int) := by omega
      have hi2 : (m : Int) < (r.length : Int) := by omega
      have hbd := Lib.hid (show m + 1 ≤ maxLen ∧ (m + 1) * 16 ≤ 140737488355328 by simp only [maxLen]; omega)
      have hz := HK.out.size
      go_wp2_with fail
      refine (HVW.out _ (HK.out.alloc _)).mono ?_
      rintro e w5 ⟨rfl, hk5⟩
      have HO5 := Lib.hid (own_keep (HO.out.alloc (.cells #[.int .i64 xk, .int .i64 xn, .string (bs xw)] 32)) hk5 (fun _ _ => by simp))
      have HK5 := Lib.hid ((HK.out.alloc _).trans hk5)
      have hz5 := HK5.out.size
      clear hk5
      go_wp2_with (at_builtin; (refine wpList_append_lies _ rfl _ _ 30 rfl w.heap.size 9 is _ 1 16 Tryz.underlying30 his hsz0 hsz1 hsz2 rfl (by decide) _ m (strs ((r.take m).map valueL)) rfl (HO5.out.alloc _) ⟨w5.heap.size, 0, none⟩ 1 1 [.string (bs tx)] rfl rfl (World.news_of_block (heap_alloc_new _ _)) (by simp [Value.oneCell']) (by decide) hbd.out.1 hbd.out.2 (by rw [size_alloc]; omega) _ rfl ?_); intro gw cap2 w8 hown8 hgrow8 hat8 hlt8)
      have HK8 := Lib.hid ((HK5.out.alloc (.cells #[.string (bs tx)] 9)).grown hgrow8 (fun g hg => .inr (HO5.out.lt g hg).1))
      rw [← strs_snoc, ← HST.out] at hown8
      have HO8 := Lib.hid hown8
      clear hown8 hgrow8 hat8 hlt8
      go_wp2
      go_roundw
      case rel => exact ⟨m + 1, _, rfl, by omega, by go_num, HO8.out, HK8.out⟩
      case measure => simp [intOf]; omega
    · obtain rfl : m = r.length := by omega
      have hq := HO.out
      rw [List.take_length] at hq
      obtain ⟨g, cap, rfl, hcp, hbg, hg, hcell⟩ := own_some hq h1
      have hml : ((r.map valueL).map bs).length = r.length := by simp
      have hmm : ((r.map valueL).map bs).map (·.data.toList) = r.map valueL := by
        rw [List.map_map]
        exact (List.map_congr_left (fun x _ => rfl)).trans (List.map_id _)
      have hne : r.map valueL ≠ [] := fun h => by
        have := congrArg List.length h
        simp at this
        rw [this] at h1
        simp at h1
      have HJ := Tryz.strings_Join g 0 cap ((r.map valueL).map bs) (bs [32]) wr (fun j x hx => by
        rw [Nat.zero_add]
        refine hcell j _ ?_
        unfold strs
        rw [List.map_map, List.getElem?_map]
        rw [List.map_map, List.getElem?_map] at hx
        cases hr : r[j]? with
        | none => rw [hr] at hx; cases hx
        | some y => rw [hr] at hx; cases hx; rfl) hg (by rw [hml]; omega) (by rw [hml]; exact hcp) (by
          rw [hmm]
          show (Lib.join (r.map valueL) [32]).length ≤ _
          rw [join_joinC 32 hne]
          exact hlen)
      rw [hml, hmm] at HJ
      have hjj : Lib.join (r.map valueL) (bs [32]).data.toList = rowText r := join_joinC 32 hne
      rw [hjj] at HJ
      have HJJ := Lib.hid HJ
      clear hq hcell HJ hjj hmm hml hne
      go_wp2_with fail
      refine HJJ.out.mono ?_
      rintro e w6 ⟨rfl, hk6⟩
      have HK6 := Lib.hid (HK.out.trans (Keeps.of_below hk6))
      clear hk6
      go_wp2
      go_ret
      exact ⟨rfl, HK6.out⟩
end Go.Proofs.YtomgnjgaafnkiaaGreatDoor
namespace Go.Proofs.YtomgnjgaafnkiaaGreatDoor
open Go.RowKit Go.BigFrame
attribute [local go_sem] bs_size bs_extract bs_append bs_toList
theorem distinct_at (rs : List (List Vl)) (m : Nat) (h : m < rs.length) (seen : List Bs) (out : List (List Vl)) : distinctGo (rs.drop m) seen out = if rowText rs[m] ∈ seen then distinctGo (rs.drop (m + 1)) seen out else distinctGo (rs.drop (m + 1)) (rowText rs[m] :: seen) (out ++ [rs[m]]) := by
  rw [List.drop_eq_getElem_cons h]
  conv => lhs; unfold distinctGo
set_option maxHeartbeats 4000000 in
theorem distinct_any (rs : List (List Vl)) (B : Option Addr) (d : Nat) (w : World) (hE : TEnv w) (hR : RdRows w [] B rs) (hl : rs.length ≤ 4294967296) (hrow : ∀ r ∈ rs, 1 ≤ r.length ∧ r.length ≤ 4294967296 ∧ (∀ v ∈ r, numOk v.num ∧ v.word.length ≤ 1000000000) ∧ (rowText r).length ≤ 1000000000) :
    Calls Tryz.prog 75 #[.slice B rs.length d] w fun e w' => (∃ v, e = .returned v ∧ RowsIs w' v (distinctGo rs [] [])) ∧ Keeps [] w w' := by
  obtain ⟨ir, hir, hrz0, hrz1, hrz2⟩ := info_parts rinfo
  have hmm := @run_makeMap Tryz.prog
  have HT := Lib.hid (fun r (hm : r ∈ rs) A c W (q : Keeps [] w W) (hA : Rd w [] 3 A r.length (vsCells r)) => text_any r (hrow r hm).1 (hrow r hm).2.1 (hrow r hm).2.2.1 (Nat.le_trans (hrow r hm).2.2.2 (by decide)) A c W (hE.quiet q) (hA.keep q))
  have HL := Lib.hid (fun r (hm : r ∈ rs) => (hrow r hm).2.2.2)
  clear hrow hE
  have HR := Lib.hid hR
  clear hR
  have HK0 := Lib.hid ((Keeps.refl [] w).alloc (.map #[] 0))
  have HS0 := Lib.hid (SetOf.made (P := Tryz.prog) (S := 9) (E := 4) w)
  go_enter Tryz.func75, Tryz.ntmps75
  go_wp2
  obtain ⟨w2, hw2⟩ : ∃ w2, (w.alloc (.map #[] 0)) = w2 := ⟨_, rfl⟩
  have hsz : w2.heap.size = w.heap.size + 1 := by rw [← hw2, size_alloc]
  rw [hw2] at HK0 HS0 ⊢
  obtain ⟨bm, hbm⟩ : ∃ bm, w.heap.size = bm := ⟨_, rfl⟩
  rw [hbm] at HS0 hsz ⊢
  have hlb : w.heap.size ≤ bm := by omega
  clear hw2 hbm hmm
  go_loopw [4, 11] (fun u i wx => ∃ (m : Nat) (v : Value) (seen : List Bs) (out : List (List Vl)), v = u ∧ m ≤ rs.length ∧ i = .int .i64 m ∧ out.length ≤ m ∧ Hid (SetOf Tryz.prog 9 4 wx bm m seen) ∧ Hid (Gath w wx w2.heap.size v out) ∧ Hid (distinctGo (rs.drop m) seen out = distinctGo rs [] []) ∧ Keeps [] w wx ∧ w2.heap.size ≤ wx.heap.size) (fun _ i _ => rs.length - (intOf i).toNat)
  case atStart => exact ⟨0, _, [], [], rfl, Nat.zero_le _, rfl, Nat.le_refl _, HS0, Gath.nil _ _ _, rfl, HK0.out, Nat.le_refl _⟩
  case round =>
    obtain ⟨m, v, seen, out, rfl, hm, rfl, hol, HS, HG, HD, hk, hzr⟩ := hrel
    have HK := Lib.hid hk
    clear hk
    by_cases hlt : m < rs.length
    · obtain ⟨us, hul, hur, hui⟩ := HR.out
      have hux : m < us.length := by omega
      have hrw := hui m hux hlt
      obtain ⟨b7, o7, hBe, _, hb7, hcs⟩ := hur.open' (by omega) (by omega)
      have d7 := hcs (m * 1) us[m] (by rw [Nat.mul_one]; exact List.getElem?_eq_getElem hux)
      rw [Nat.mul_one] at d7
      have hmem : rs[m] ∈ rs := List.getElem_mem hlt
      have hst := distinct_at rs m hlt seen out
      rw [HD.out] at hst
      generalize rs[m] = r at *
      have HRW := Lib.hid hrw
      obtain ⟨Ar, cr, hu, hcr, hrd⟩ := hrw
      rw [hu] at HRW d7
      have d8 := HK.out.cell_of d7 (by simp)
      subst hBe
      have HTX := Lib.hid (HT.out r hmem Ar cr wr HK.out hrd)
      have hln := HL.out r hmem
      have hi0 : (0 : Int) ≤ (m : Int) := by omega
      have hi2 : (m : Int) < (rs.length : Int) := by omega
      have HST := Lib.hid hst
      clear hst hu hul hur hui hcs d7 hrd hmem
      generalize rowText r = tx at *
      go_wp2_with fail
      refine HTX.out.mono ?_
      rintro e w5 ⟨rfl, hk5⟩
      have HS5 := Lib.hid (HS.out.keep hk5 (by simp))
      have HG5 := Lib.hid (HG.out.keep hk5)
      have HK5 := Lib.hid (HK.out.trans hk5)
      have hz5 := Nat.le_trans hzr hk5.size
      clear hk5
      have hlook := HS5.out.look (T := 132) Tryz.underlying132 Tryz.underlying9 Tryz.underlying4 (by kernel_rfl) tx (by simp only [maxLen]; omega)
      by_cases hin : tx ∈ seen
      · rw [decide_eq_true hin] at hlook
        have HDN : Hid (distinctGo (rs.drop (m + 1)) seen out = distinctGo rs [] []) := Lib.hid (by rw [HST.out, if_pos hin])
        clear hin HTX
        go_wp2
        go_roundw
        case rel => exact ⟨m + 1, v, seen, out, rfl, by omega, by go_num, by omega, HS5.out.mono (by omega), HG5.out, HDN, HK5.out, hz5⟩
        case measure => simp [intOf]; omega
      · rw [decide_eq_false hin] at hlook
        have HDN : Hid (distinctGo (rs.drop (m + 1)) (tx :: seen) (out ++ [r]) = distinctGo rs [] []) := Lib.hid (by rw [HST.out, if_neg hin])
        obtain ⟨w6, hrun, hs6, hg6⟩ := HS5.out.store (T := 132) Tryz.underlying132 Tryz.underlying9 Tryz.underlying4 tx (by simp only [maxLen]; omega) (by simp only [maxLen]; omega)
        obtain ⟨uo, hgl, hgo, hgi⟩ := HG5.out
        have hlo := fun g hg => (hgo.lt g hg).1
        have hgo6 := hgo.kept hg6 (by
          cases hv : v.ownBlock with
          | none => exact .inl rfl
          | some g => exact .inr (fun e => by
              injection e with e
              have := hlo g hv
              omega))
        have HO6 := Lib.hid hgo6
        have HGI := Lib.hid hgi
        have HGL := Lib.hid hgl
        have HS6 := Lib.hid hs6
        have HK6 := Lib.hid (HK5.out.grown hg6 (fun g hg => .inr (by injection hg with hg; omega)))
        have hz6 := Nat.le_trans hz5 hg6.size
        have hbd := Lib.hid (show out.length + 1 ≤ maxLen ∧ (out.length + 1) * 24 ≤ 140737488355328 by simp only [maxLen]; omega)
        clear hin HTX hgo hgi hgl hgo6 hs6 hg6 hlo
        go_wp2_with (at_builtin; (refine wpList_append_lies _ rfl _ _ 23 rfl w2.heap.size 41 ir _ 1 24 Tryz.underlying23 hir hrz0 hrz1 hrz2 rfl (by decide) _ out.length uo rfl (HO6.out.alloc _) ⟨w6.heap.size, 0, none⟩ 1 1 [.slice Ar r.length cr] rfl rfl (World.news_of_block (heap_alloc_new _ _)) (by simp [Value.oneCell']) (by decide) hbd.out.1 hbd.out.2 (by rw [size_alloc]; omega) _ rfl ?_); intro gw cap2 w8 hown8 hgrow8 hat8 hlt8)
        have HK8 := Lib.hid ((HK6.out.alloc (.cells #[.slice Ar r.length cr] 41)).grown hgrow8 (fun g hg => .inr (Nat.le_trans (by omega) (HO6.out.lt g hg).1)))
        have HGN := Lib.hid (gath_snoc HGL.out HGI.out HRW.out hown8)
        have HSN := Lib.hid (HS6.out.of_block (w' := w8) (by
          rw [hgrow8.block bm (by rw [size_alloc]; omega) (fun e => by have := (HO6.out.lt bm e.symm).1; omega)]
          exact (((Keeps.refl [] w6).alloc _).block bm HS6.out.lt (by simp))))
        have hz8 : w2.heap.size ≤ w8.heap.size := Nat.le_trans (Nat.le_trans hz6 (by rw [size_alloc]; omega)) hgrow8.size
        clear hown8 hgrow8 hat8 hlt8
        go_wp2
        go_roundw
        case rel => exact ⟨m + 1, _, _, _, rfl, by omega, by go_num, by simp; omega, HSN, HGN, HDN, HK8.out, hz8⟩
        case measure => simp [intOf]; omega
    · obtain rfl : m = rs.length := by omega
      have hd := HD.out
      rw [List.drop_length] at hd
      have HF := Lib.hid (HG.out.is HK.out)
      have hd2 : out = distinctGo rs [] [] := hd
      rw [hd2] at HF
      clear hd hd2 HD HG HS
      go_wp2
      go_ret
      exact ⟨⟨_, rfl, HF.out⟩, HK.out⟩
end Go.Proofs.YtomgnjgaafnkiaaGreatDoor
