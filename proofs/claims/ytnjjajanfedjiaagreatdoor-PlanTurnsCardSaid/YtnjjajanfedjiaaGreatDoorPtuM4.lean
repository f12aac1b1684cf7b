/- Slices of texts. The parser's names. The parser's names, walked. -/
import Derived.Test.YtnjjajanfedjiaaGreatDoorProg
import Derived.Test.YtnjjajanfedjiaaGreatDoorPtuM1
import Derived.Test.YtnjjajanfedjiaaGreatDoorPtuM3
set_option linter.unusedSimpArgs false
set_option linter.unusedVariables false
namespace Go.Proofs.YtnjjajanfedjiaaGreatDoor
open Go.RowKit
def strs (l : List Bs) : List Value := l.map fun s => .string (bs s)
theorem strs_length (l : List Bs) : (strs l).length = l.length := by simp [strs]
theorem strs_at' (l : List Bs) (k : Nat) (h : k < l.length) : (strs l)[k]? = some (.string (bs l[k])) := by simp [strs, h]
theorem strs_snoc (l : List Bs) (s : Bs) : strs (l ++ [s]) = strs l ++ [.string (bs s)] := by simp [strs]
theorem slice_str {P : Program} {T : TypeId} (hT : P.underlying T = some .string) (s : Bs) (lo hi : Nat) (h1 : lo ≤ hi) (h2 : hi ≤ s.length) (W : World) :
  (Instr.slice T (.string (bs s)) (some (.int .i64 (lo : Int))) (some (.int .i64 (hi : Int))) none).run P W = .ok (.string (bs ((s.take hi).drop lo))) W := by
 have h3 : (lo : Int) ≤ (hi : Int) := by omega
 have h4 : (hi : Int) ≤ (s.length : Int) := by omega
 have e : (bs s).extract lo hi = bs ((s.take hi).drop lo) := bs_extract s lo hi
 rw [← e]
 have h5 : hi ≤ (bs s).size := by rw [bs_size]; exact h2
 have h6 : (hi : Int) ≤ ((bs s).size : Int) := by rw [bs_size]; exact h4
 go_simp
end Go.Proofs.YtnjjajanfedjiaaGreatDoor
namespace Go.Proofs.YtnjjajanfedjiaaGreatDoor
open Go.RowKit Go.BigFrame
attribute [local go_sem] bs_size bs_extract bs_append bs_toList
theorem sinf : (Tryz.prog.info? 9).map (fun i => (i.zero, i.size, i.bytes)) = some (some (.string ⟨#[]⟩), 1, 16) := by kernel_rfl
theorem own_lit {W : World} {g base n size : Nat} {e : TypeId} {cs : Array Value} (h : Blk W g e cs) (hb : base ≤ g) (hn : cs.size = n * size) (hm : n ≤ maxLen) : W.ownsRow base e size (.slice (some ⟨g, 0, none⟩) n n) n cs.toList :=
 ⟨by simpa using hn, .inr ⟨g, n, cs, rfl, hb, h, Nat.le_refl _, hm, hn, by rw [← hn]; exact List.take_of_length_le (by simp)⟩⟩
def leftT (b : Nat) (W : World) : Nat := match W.cell? ⟨b, 0, none⟩ with
 | some (.slice _ n _) => n
 | _ => 0
theorem Ps.left {W : World} {b : Nat} {l : List Tk} (h : Ps W b l) : leftT b W = l.length := by
 obtain ⟨g, o, c, h1, _⟩ := h
 unfold leftT
 rw [h1.cell 0]
 rfl
theorem own_ps {W W' : World} {base b n size : Nat} {e : TypeId} {v : Value} {xs : List Value} {l : List Tk} (h : W.ownsRow base e size v n xs) (hp : Ps W b l) (hk : Keeps [b] W W') (he : e ≠ 94) : W'.ownsRow base e size v n xs := by
 obtain ⟨g, o, c, h1, _⟩ := hp
 refine own_keep h hk (fun g' hg hm => ?_)
 have hm' : g' = b := by simpa using hm
 subst hm'
 rcases h.2 with ⟨rfl, _⟩ | ⟨g2, cap, cur, rfl, _, hh, _⟩
 ·cases hg
 ·have : g2 = g' := by simpa [Value.ownBlock] using hg
  subst this
  unfold Blk at h1
  rw [h1] at hh
  injection hh with hh
  injection hh with _ h2
  exact he h2.symm
theorem Ps.grown {W W' : World} {b : Nat} {l : List Tk} {row : Option Nat} {e : TypeId} (h : Ps W b l) (hg : W.grownBy W' row) (hr : ∀ x, row = some x → OfTy W x e) (h1 : e ≠ 94) (h2 : e ≠ 97) : Ps W' b l :=
 h.far (L := row.toList) (Keeps.grown (Keeps.refl _ W) hg (fun g hg => .inl (by rw [hg]; simp))) (fun x hx => ⟨e, hr x (by
  cases row with
  | none => cases hx
  | some y => simp at hx; rw [hx]), h1, h2⟩)
theorem own_ty {W : World} {base n size : Nat} {e : TypeId} {v : Value} {xs : List Value} (h : W.ownsRow base e size v n xs) : ∀ x, v.ownBlock = some x → OfTy W x e := fun x hx => by
 rcases h.2 with ⟨rfl, _⟩ | ⟨g2, cap, cur, rfl, _, hh, _⟩
 ·cases hx
 ·have : g2 = x := by simpa [Value.ownBlock] using hx
  subst this
  exact ⟨_, _, hh⟩
theorem own_low {W : World} {base base' n size : Nat} {e : TypeId} {v : Value} {xs : List Value} (h : W.ownsRow base' e size v n xs) (hb : base ≤ base') : W.ownsRow base e size v n xs := by
 refine ⟨h.1, ?_⟩
 rcases h.2 with h2 | ⟨g, cap, cur, hv, hg, r⟩
 ·exact .inl h2
 ·exact .inr ⟨g, cap, cur, hv, Nat.le_trans hb hg, r⟩
def NamesOut (R : Except (Int × Int) (List Bs × List Tk)) (b base : Nat) (e : Ending) (w' : World) : Prop := match R with
 | .ok (ns, r) => ∃ v, e = .returned v ∧ w'.ownsRow base 9 1 v ns.length (strs ns) ∧ Ps w' b r
 | .error x => Thrown x e w'
end Go.Proofs.YtnjjajanfedjiaaGreatDoor
namespace Go.Proofs.YtnjjajanfedjiaaGreatDoor
open Go.RowKit Go.BigFrame
attribute [local go_sem] bs_size bs_extract bs_append bs_toList
set_option maxRecDepth 100000 in
set_option maxHeartbeats 4000000 in
theorem names_any {l : List Tk} {b : Nat} (w : World) (h : Ps w b l) (hll : l.length ≤ 1000000) :
  Calls Tryz.prog 116 #[.pointer (some ⟨b, 0, none⟩)] w fun e w' => NamesOut (namesP l) b w.heap.size e w' ∧ Keeps [b] w w' := by
 obtain ⟨i0, hi, hz0, hz1, hz2⟩ := info_parts sinf
 have HL := Lib.hid hll
 obtain ⟨R, hR⟩ : ∃ R, namesP l = R := ⟨_, rfl⟩
 rw [hR]
 unfold namesP at hR
 rcases hN : nameP l with x | ⟨s, r⟩
 ·rw [hN] at hR
  have HR : Hid (R = .error x) := Lib.hid hR.symm
  have H := Lib.hid (name_no hN w h)
  clear hR hN h hll
  go_enter Tryz.func116, Tryz.ntmps116
  go_wp2_with fail
  refine H.out.mono ?_
  rintro ev w2 ⟨⟨gi, rfl, hb⟩, hk2⟩
  exact ⟨rfl, by rw [HR.out]; exact ⟨gi, rfl, hb⟩, hk2⟩
 ·rw [hN] at hR
  have hR' : namesGo r.length r [s] = R := hR
  have hrl : r.length < l.length := by
   obtain ⟨_, _, _, e⟩ := nameP_ok hN
   have := h.endT.pos
   rw [e, List.length_tail]
   omega
  have HRL := Lib.hid hrl
  have HR := Lib.hid hR'
  have H := Lib.hid (name_yes hN w h)
  clear hR hR' hN h hll hrl
  go_enter Tryz.func116, Tryz.ntmps116
  go_wp2_with fail
  refine H.out.mono ?_
  rintro ev w2 ⟨rfl, hp2, hk2⟩
  have HP2 := Lib.hid (hp2.keep ((Keeps.refl _ _).alloc (.cells #[.string (bs s)] 9)))
  have HK2 := Lib.hid (hk2.alloc (.cells #[.string (bs s)] 9))
  have HO2 : Hid ((w2.alloc (.cells #[.string (bs s)] 9)).ownsRow w.heap.size 9 1 (.slice (some ⟨w2.heap.size, 0, none⟩) 1 1) [s].length (strs [s])) := Lib.hid (own_lit (Blk.new w2 9 #[.string (bs s)]) hk2.size rfl (by decide))
  clear hp2 hk2
  go_wp2_with fail
  go_loopw [3] (fun v wr => ∃ (acc : List Bs) (q : List Tk) (n : Nat), Hid (namesGo n q acc = R) ∧ q.length ≤ n ∧ acc.length + q.length ≤ l.length ∧ Hid (Ps wr b q) ∧ Hid (wr.ownsRow w.heap.size 9 1 v acc.length (strs acc)) ∧ Hid (Keeps [b] w wr)) (fun _ wr => leftT b wr)
  case atStart => exact ⟨[s], r, r.length, HR, Nat.le_refl _, by have := HRL.out; simp; omega, HP2, HO2, HK2⟩
  case round =>
   clear HR HRL HP2 HO2 HK2
   obtain ⟨acc, q, n, HR, hqn, hlen, HP, HO, HK⟩ := hrel
   have hq1 := HP.out.endT.pos
   have HM := Lib.hid HP.out.left
   have HT := take_any [44] wr HP.out
   cases hs : seeP [44] q with
   | false =>
    rw [hs] at HT
    have HT1 := Lib.hid HT
    have HRR : Hid (R = .ok (acc, q)) := Lib.hid (by
     rw [← HR.out]
     obtain ⟨m, rfl⟩ : ∃ m, n = m + 1 := ⟨n - 1, by omega⟩
     unfold namesGo
     rw [hs]
     rfl)
    clear HT hs
    go_wp2_with fail
    refine HT1.out.mono ?_
    rintro ev w3 ⟨rfl, hp3, hk3⟩
    have HO3 := Lib.hid (own_ps HO.out HP.out hk3 (by decide))
    go_wp2
    go_ret
    exact ⟨by rw [HRR.out]; exact ⟨_, rfl, HO3.out, hp3⟩, HK.out.trans hk3⟩
   | true =>
    rw [hs, if_pos rfl] at HT
    have HT1 := Lib.hid HT
    have hq2 := HP.out.more (seeP_kind hs)
    have HS := Lib.hid hs
    clear HT hs
    go_wp2_with fail
    refine HT1.out.mono ?_
    rintro ev w3 ⟨rfl, hp3, hk3⟩
    have HO3 := Lib.hid (own_ps HO.out HP.out hk3 (by decide))
    have HP3 := Lib.hid hp3
    have HK3 := Lib.hid (HK.out.trans hk3)
    clear hp3 hk3 HT1
    rcases hN : nameP q.tail with x | ⟨s', r'⟩
    ·have HRR : Hid (R = .error x) := Lib.hid (by
      rw [← HR.out]
      obtain ⟨m, rfl⟩ : ∃ m, n = m + 1 := ⟨n - 1, by omega⟩
      unfold namesGo
      rw [if_pos HS.out, hN]
      rfl)
     have H := Lib.hid (name_no hN w3 HP3.out)
     clear hN
     go_wp2_with fail
     refine H.out.mono ?_
     rintro ev w4 ⟨⟨gi, rfl, hb⟩, hk4⟩
     exact ⟨rfl, by rw [HRR.out]; exact ⟨gi, rfl, hb⟩, HK3.out.trans hk4⟩
    ·have hr' : r'.length + 2 ≤ q.length := by
      obtain ⟨_, _, _, e⟩ := nameP_ok hN
      have := HP3.out.endT.pos
      rw [e, List.length_tail, List.length_tail]
      rw [List.length_tail] at this
      omega
     have HRR : Hid (namesGo (n - 1) r' (acc ++ [s']) = R) := Lib.hid (by
      rw [← HR.out]
      obtain ⟨m, rfl⟩ : ∃ m, n = m + 1 := ⟨n - 1, by omega⟩
      conv => rhs; unfold namesGo
      rw [if_pos HS.out, hN]
      rfl)
     have H := Lib.hid (name_yes hN w3 HP3.out)
     have hbd := Lib.hid (show acc.length + 1 ≤ maxLen ∧ (acc.length + 1) * 16 ≤ 140737488355328 by have := HL.out; simp only [maxLen]; omega)
     clear hN
     go_wp2_with fail
     refine H.out.mono ?_
     rintro ev w4 ⟨rfl, hp4, hk4⟩
     have HO4 := Lib.hid (own_ps HO3.out HP3.out hk4 (by decide))
     have HP4 := Lib.hid (hp4.keep ((Keeps.refl _ _).alloc (.cells #[.string (bs s')] 9)))
     have HK4 := Lib.hid (HK3.out.trans hk4)
     have HWZ := Lib.hid (show w.heap.size ≤ w4.heap.size + 1 from Nat.le_succ_of_le HK4.out.size)
     clear hp4 hk4 H HO3 HP3 HK3
     go_wp2_with (at_builtin; refine wpList_append_lies _ rfl _ _ 39 rfl _ 9 i0 _ 1 16 Tryz.underlying39 hi hz0 hz1 hz2 rfl (by decide) _ acc.length (strs acc) rfl (HO4.out.alloc _) ⟨w4.heap.size, 0, none⟩ 1 1 [.string (bs s')] rfl rfl (World.news_of_block (heap_alloc_new _ _)) (by simp [Value.oneCell']) (by decide) hbd.out.1 hbd.out.2 (by simp; exact HWZ.out) _ rfl ?_; intro gw cap2 w8 hown8 hgrow8 hat8 hlt8)
     have HK8 := Lib.hid ((HK4.out.alloc _).grown hgrow8 (fun g hg => .inr (HO4.out.lt g hg).1))
     have HP8 := Lib.hid (HP4.out.grown hgrow8 (fun x hx => (own_ty HO4.out x hx).keep ((Keeps.refl [] _).alloc _) (by simp)) (by decide) (by decide))
     rw [← strs_snoc] at hown8
     have HO8 : Hid (w8.ownsRow w.heap.size 9 1 _ (acc ++ [s']).length (strs (acc ++ [s']))) := Lib.hid (by rw [List.length_append]; exact hown8)
     clear hown8 hgrow8 hat8 hlt8
     go_wp2
     go_roundw
     case rel => exact ⟨acc ++ [s'], r', n - 1, HRR, by omega, by simp; omega, HP8, HO8, HK8⟩
     case measure => rw [HP8.out.left, HM.out]; omega
end Go.Proofs.YtnjjajanfedjiaaGreatDoor
