/- The parser's names. The parser's names, walked. The parser's one: one of some marks. -/
import Derived.Test.YtdmboaoeholkpaaDoorFlwM3
namespace Go.Proofs.YtdmboaoeholkpaaDoor
open Go.RowKit Go.BigFrame
attribute [local go_sem] bs_size bs_extract bs_append bs_toList
theorem sinf : (Tryd.prog.info? 9).map (fun i => (i.zero, i.size, i.bytes)) = some (some (.string ⟨#[]⟩), 1, 16) := by kernel_rfl
/-- A row that a literal makes. -/
theorem own_lit {W : World} {g base n size : Nat} {e : TypeId} {cs : Array Value} (h : Blk W g e cs) (hb : base ≤ g) (hn : cs.size = n * size) (hm : n ≤ maxLen) : W.ownsRow base e size (.slice (some ⟨g, 0, none⟩) n n) n cs.toList :=
  ⟨by simpa using hn, .inr ⟨g, n, cs, rfl, hb, h, Nat.le_refl _, hm, hn, by rw [← hn]; exact List.take_of_length_le (by simp)⟩⟩
/-- How many tokens are left to the parser at b. -/
def leftT (b : Nat) (W : World) : Nat := match W.cell? ⟨b, 0, none⟩ with
  | some (.slice _ n _) => n
  | _ => 0
theorem Ps.left {W : World} {b : Nat} {l : List Tk} (h : Ps W b l) : leftT b W = l.length := by
  obtain ⟨g, o, c, h1, _⟩ := h
  unfold leftT
  rw [h1.cell 0]
  rfl
/-- A row outside the parser's box stays. -/
theorem own_ps {W W' : World} {base b n size : Nat} {e : TypeId} {v : Value} {xs : List Value} {l : List Tk} (h : W.ownsRow base e size v n xs) (hp : Ps W b l) (hk : Keeps [b] W W') (he : e ≠ 46) : W'.ownsRow base e size v n xs := by
  obtain ⟨g, o, c, h1, _⟩ := hp
  refine own_keep h hk (fun g' hg hm => ?_)
  have hm' : g' = b := by simpa using hm
  subst hm'
  rcases h.2 with ⟨rfl, _⟩ | ⟨g2, cap, cur, rfl, _, hh, _⟩
  · cases hg
  · have : g2 = g' := by simpa [Value.ownBlock] using hg
    subst this
    unfold Blk at h1
    rw [h1] at hh
    injection hh with hh
    injection hh with _ h2
    exact he h2.symm
theorem Ps.grown {W W' : World} {b : Nat} {l : List Tk} {row : Option Nat} {e : TypeId} (h : Ps W b l) (hg : W.grownBy W' row) (hr : ∀ x, row = some x → OfTy W x e) (h1 : e ≠ 46) (h2 : e ≠ 49) : Ps W' b l :=
  h.far (L := row.toList) (Keeps.grown (Keeps.refl _ W) hg (fun g hg => .inl (by rw [hg]; simp))) (fun x hx => ⟨e, hr x (by
    cases row with
    | none => cases hx
    | some y => simp at hx; rw [hx]), h1, h2⟩)
theorem own_ty {W : World} {base n size : Nat} {e : TypeId} {v : Value} {xs : List Value} (h : W.ownsRow base e size v n xs) : ∀ x, v.ownBlock = some x → OfTy W x e := fun x hx => by
  rcases h.2 with ⟨rfl, _⟩ | ⟨g2, cap, cur, rfl, _, hh, _⟩
  · cases hx
  · have : g2 = x := by simpa [Value.ownBlock] using hx
    subst this
    exact ⟨_, _, hh⟩
theorem own_low {W : World} {base base' n size : Nat} {e : TypeId} {v : Value} {xs : List Value} (h : W.ownsRow base' e size v n xs) (hb : base ≤ base') : W.ownsRow base e size v n xs := by
  refine ⟨h.1, ?_⟩
  rcases h.2 with h2 | ⟨g, cap, cur, hv, hg, r⟩
  · exact .inl h2
  · exact .inr ⟨g, cap, cur, hv, Nat.le_trans hb hg, r⟩
/-- What names hands back. -/
def NamesOut (R : Except (Int × Int) (List Bs × List Tk)) (b base : Nat) (e : Ending) (w' : World) : Prop := match R with
  | .ok (ns, r) => ∃ v, e = .returned v ∧ w'.ownsRow base 9 1 v ns.length (strs ns) ∧ Ps w' b r
  | .error x => Thrown x e w'
theorem namesGo_step {n : Nat} {l : List Tk} {acc : List Bs} (hn : l.length ≤ n + 1) (h : seeP [44] l = true) {s : Bs} {r : List Tk} (hm : nameP l.tail = .ok (s, r)) : namesGo (n + 1) l acc = namesGo n r (acc ++ [s]) := by
  conv => lhs; unfold namesGo
  rw [if_pos h, hm]
  rfl
end Go.Proofs.YtdmboaoeholkpaaDoor
namespace Go.Proofs.YtdmboaoeholkpaaDoor
open Go.RowKit Go.BigFrame
attribute [local go_sem] bs_size bs_extract bs_append bs_toList
set_option maxRecDepth 100000 in
set_option maxHeartbeats 4000000 in
theorem names_any {l : List Tk} {b : Nat} (w : World) (h : Ps w b l) (hll : l.length ≤ 1000000) :
    Calls Tryd.prog 37 #[.pointer (some ⟨b, 0, none⟩)] w fun e w' => NamesOut (namesP l) b w.heap.size e w' ∧ Keeps [b] w w' := by
  obtain ⟨i0, hi, hz0, hz1, hz2⟩ := info_parts sinf
  have HL := Lib.hid hll
  obtain ⟨R, hR⟩ : ∃ R, namesP l = R := ⟨_, rfl⟩
  rw [hR]
  unfold namesP at hR
  rcases hN : nameP l with x | ⟨s, r⟩
  · rw [hN] at hR
    have HR : Hid (R = .error x) := Lib.hid hR.symm
    have H := Lib.hid (name_no hN w h)
    clear hR hN h hll
    go_enter Tryd.func37, Tryd.ntmps37
    go_wp2_with fail
    refine H.out.mono ?_
    rintro ev w2 ⟨⟨gi, rfl, hb⟩, hk2⟩
    exact ⟨rfl, by rw [HR.out]; exact ⟨gi, rfl, hb⟩, hk2⟩
  · rw [hN] at hR
    have hR' : namesGo r.length r [s] = R := hR
    have hrl : r.length < l.length := by
      obtain ⟨_, _, _, e⟩ := nameP_ok hN
      have := h.endT.pos
      rw [e, List.length_tail]
      omega
    have HRL := Lib.hid hrl
    have HR := Lib.hid hR'
    have H := Lib.hid (name_yes hN w h)
    clear hR hR' hN h hll hrl
    go_enter Tryd.func37, Tryd.ntmps37
    go_wp2_with fail
    refine H.out.mono ?_
    rintro ev w2 ⟨rfl, hp2, hk2⟩
    have HP2 := Lib.hid (hp2.keep ((Keeps.refl _ _).alloc (.cells #[.string (bs s)] 9)))
    have HK2 := Lib.hid (hk2.alloc (.cells #[.string (bs s)] 9))
    have HO2 : Hid ((w2.alloc (.cells #[.string (bs s)] 9)).ownsRow w.heap.size 9 1 (.slice (some ⟨w2.heap.size, 0, none⟩) 1 1) [s].length (strs [s])) := Lib.hid (own_lit (Blk.new w2 9 #[.string (bs s)]) hk2.size rfl (by decide))
    clear hp2 hk2
    go_wp2_with fail
    go_loopw [3] (fun v wr => ∃ (acc : List Bs) (q : List Tk) (n : Nat), Hid (namesGo n q acc = R) ∧ q.length ≤ n ∧ acc.length + q.length ≤ l.length ∧ Hid (Ps wr b q) ∧ Hid (wr.ownsRow w.heap.size 9 1 v acc.length (strs acc)) ∧ Hid (Keeps [b] w wr)) (fun _ wr => leftT b wr)
    case atStart => exact ⟨[s], r, r.length, HR, Nat.le_refl _, by have := HRL.out; simp; omega, HP2, HO2, HK2⟩
    case round =>
      clear HR HRL HP2 HO2 HK2
      obtain ⟨acc, q, n, HR, hqn, hlen, HP, HO, HK⟩ := hrel
      have hq1 := HP.out.endT.pos
      have HM := Lib.hid HP.out.left
      have HT := take_any [44] wr HP.out
      cases hs : seeP [44] q with
      | false =>
        rw [hs] at HT
        have HT1 := Lib.hid HT
        have HRR : Hid (R = .ok (acc, q)) := Lib.hid (by
          rw [← HR.out]
          obtain ⟨m, rfl⟩ : ∃ m, n = m + 1 := ⟨n - 1, by omega⟩
          unfold namesGo
          rw [hs]
          rfl)
        clear HT hs
        go_wp2_with fail
        refine HT1.out.mono ?_
        rintro ev w3 ⟨rfl, hp3, hk3⟩
        have HO3 := Lib.hid (own_ps HO.out HP.out hk3 (by decide))
        go_wp2
        go_ret
        exact ⟨by rw [HRR.out]; exact ⟨_, rfl, HO3.out, hp3⟩, HK.out.trans hk3⟩
      | true =>
        rw [hs, if_pos rfl] at HT
        have HT1 := Lib.hid HT
        have hq2 := HP.out.more (seeP_kind hs)
        have HS := Lib.hid hs
        clear HT hs
        go_wp2_with fail
        refine HT1.out.mono ?_
        rintro ev w3 ⟨rfl, hp3, hk3⟩
        have HO3 := Lib.hid (own_ps HO.out HP.out hk3 (by decide))
        have HP3 := Lib.hid hp3
        have HK3 := Lib.hid (HK.out.trans hk3)
        clear hp3 hk3 HT1
        rcases hN : nameP q.tail with x | ⟨s', r'⟩
        · have HRR : Hid (R = .error x) := Lib.hid (by
            rw [← HR.out]
            obtain ⟨m, rfl⟩ : ∃ m, n = m + 1 := ⟨n - 1, by omega⟩
            unfold namesGo
            rw [if_pos HS.out, hN]
            rfl)
          have H := Lib.hid (name_no hN w3 HP3.out)
          clear hN
          go_wp2_with fail
          refine H.out.mono ?_
          rintro ev w4 ⟨⟨gi, rfl, hb⟩, hk4⟩
          exact ⟨rfl, by rw [HRR.out]; exact ⟨gi, rfl, hb⟩, HK3.out.trans hk4⟩
        · have hr' : r'.length + 2 ≤ q.length := by
            obtain ⟨_, _, _, e⟩ := nameP_ok hN
            have := HP3.out.endT.pos
            rw [e, List.length_tail, List.length_tail]
            rw [List.length_tail] at this
            omega
          have HRR : Hid (namesGo (n - 1) r' (acc ++ [s']) = R) := Lib.hid (by
            rw [← HR.out]
            obtain ⟨m, rfl⟩ : ∃ m, n = m + 1 := ⟨n - 1, by omega⟩
            conv => rhs; unfold namesGo
            rw [if_pos HS.out, hN]
            rfl)
          have H := Lib.hid (name_yes hN w3 HP3.out)
          have hbd := Lib.hid (show acc.length + 1 ≤ maxLen ∧ (acc.length + 1) * 16 ≤ 140737488355328 by have := HL.out; simp only [maxLen]; omega)
          clear hN
          go_wp2_with fail
          refine H.out.mono ?_
          rintro ev w4 ⟨rfl, hp4, hk4⟩
          have HO4 := Lib.hid (own_ps HO3.out HP3.out hk4 (by decide))
          have HP4 := Lib.hid (hp4.keep ((Keeps.refl _ _).alloc (.cells #[.string (bs s')] 9)))
          have HK4 := Lib.hid (HK3.out.trans hk4)
          have HWZ := Lib.hid (show w.heap.size ≤ w4.heap.size + 1 from Nat.le_succ_of_le HK4.out.size)
          clear hp4 hk4 H HO3 HP3 HK3
          go_wp2_with (at_builtin; refine wpList_append_lies _ rfl _ _ 59 rfl _ 9 i0 _ 1 16 Tryd.underlying59 hi hz0 hz1 hz2 rfl (by decide) _ acc.length (strs acc) rfl (HO4.out.alloc _) ⟨w4.heap.size, 0, none⟩ 1 1 [.string (bs s')] rfl rfl (World.news_of_block (heap_alloc_new _ _)) (by simp [Value.oneCell']) (by decide) hbd.out.1 hbd.out.2 (by simp; exact HWZ.out) _ rfl ?_; intro gw cap2 w8 hown8 hgrow8 hat8 hlt8)
          have HK8 := Lib.hid ((HK4.out.alloc _).grown hgrow8 (fun g hg => .inr (HO4.out.lt g hg).1))
          have HP8 := Lib.hid (HP4.out.grown hgrow8 (fun x hx => (own_ty HO4.out x hx).keep ((Keeps.refl [] _).alloc _) (by simp)) (by decide) (by decide))
          rw [← strs_snoc] at hown8
          have HO8 : Hid (w8.ownsRow w.heap.size 9 1 _ (acc ++ [s']).length (strs (acc ++ [s']))) := Lib.hid (by rw [List.length_append]; exact hown8)
          clear hown8 hgrow8 hat8 hlt8
          go_wp2
          go_roundw
          case rel => exact ⟨acc ++ [s'], r', n - 1, HRR, by omega, by simp; omega, HP8, HO8, HK8⟩
          case measure => rw [HP8.out.left, HM.out]; omega
end Go.Proofs.YtdmboaoeholkpaaDoor
namespace Go.Proofs.YtdmboaoeholkpaaDoor
open Go.RowKit Go.BigFrame
attribute [local go_sem] bs_size bs_extract bs_append bs_toList
theorem seenI_some {l : List Tk} : ∀ {ms : List Bs} {k : Nat} (h : k < ms.length), (∀ j (hj : j < k), seeP (ms[j]'(by omega)) l = false) → seeP ms[k] l = true → seenI l ms = some k
  | [], _, h, _, _ => absurd h (by simp)
  | m :: ms, 0, _, _, h => by unfold seenI; exact if_pos h
  | m :: ms, k + 1, h, hn, hs => by
    unfold seenI
    have h0 := hn 0 (by omega)
    rw [if_neg (by simpa using h0), seenI_some (ms := ms) (k := k) (by simpa using h) (fun j hj => hn (j + 1) (by omega)) (by simpa using hs)]
    rfl
theorem seenI_none {l : List Tk} : ∀ {ms : List Bs}, (∀ j (hj : j < ms.length), seeP (ms[j]'hj) l = false) → seenI l ms = none
  | [], _ => rfl
  | m :: ms, hn => by
    unfold seenI
    have h0 := hn 0 (by simp)
    rw [if_neg (by simpa using h0), seenI_none (ms := ms) (fun j hj => hn (j + 1) (by simpa using hj))]
    rfl
def seenX (l : List Tk) (ms : List Bs) : Int := match seenI l ms with
  | some k => (k : Int)
  | none => -1
set_option maxHeartbeats 2000000 in
theorem indexSee {l : List Tk} {b : Nat} (ms : List Bs) (A : Option Addr) (c : Nat) (w : World) (h : Ps w b l) (hR : Rd w [] 1 A ms.length (strs ms)) (hl : ms.length ≤ 4294967296) :
    Calls Tryd.prog 46 #[.slice A ms.length c, .func (.func 20) #[.pointer (some ⟨b, 0, none⟩)] #[]] w fun e w' => e = .returned (.int .i64 (seenX l ms)) ∧ w = w' := by
  have HR := Lib.hid hR
  have HP := Lib.hid h
  clear hR h
  go_enter Tryd.func46, Tryd.ntmps46
  go_wp2
  go_loop [8] (fun i => ∃ n : Nat, n ≤ ms.length ∧ i = .int .i64 n ∧ Hid (∀ j (hj : j < n) (hl : j < ms.length), seeP ms[j] l = false)) (fun i => ms.length - (intOf i).toNat)
  case atStart => exact ⟨0, Nat.zero_le _, rfl, fun j hj => absurd hj (by omega)⟩
  case round =>
    obtain ⟨n, hn, rfl, hno⟩ := hrel
    by_cases hlt : n < ms.length
    · obtain ⟨g, o, rfl, _, hg, hc⟩ := HR.out.open' (by omega) (by omega)
      have d1 := hc n _ (strs_at' ms n hlt)
      have HH := see_any ms[n] w HP.out
      generalize hx : ms[n] = x at *
      have HX := Lib.hid hx
      have HH' := Lib.hid HH
      clear HH hc hx
      cases hp : seeP x l with
      | true =>
        have hfin : seenX l ms = (n : Int) := by
          unfold seenX
          rw [seenI_some hlt (fun j hj => hno j hj (by omega)) (by rw [HX.out]; exact hp)]
        rw [hp] at HH'
        have HQ := Lib.hid hfin
        clear hfin hp
        go_wp2_with fail
        refine HH'.out.mono ?_
        rintro e W2 ⟨rfl, rfl⟩
        go_wp2
        go_ret
        exact ⟨by rw [HQ.out]; rfl, rfl⟩
      | false =>
        have hno' : Hid (∀ j (hj : j < n + 1) (hl : j < ms.length), seeP ms[j] l = false) := fun j hj hl => by
          by_cases h : j < n
          · exact hno j h hl
          · obtain rfl : j = n := by omega
            rw [HX.out]
            exact hp
        rw [hp] at HH'
        clear hp
        go_wp2_with fail
        refine HH'.out.mono ?_
        rintro e W2 ⟨rfl, rfl⟩
        go_wp2
        go_round
        case rel => exact ⟨n + 1, by omega, by go_num, hno'⟩
        case measure => simp [intOf]; omega
    · have hfin : Hid (seenX l ms = -1) := by
        unfold seenX
        rw [seenI_none (fun j hj => hno j (by omega) hj)]
        rfl
      go_wp2
      go_ret
      exact ⟨by rw [hfin.out]; rfl, rfl⟩
theorem seenI_see {l : List Tk} : ∀ {ms : List Bs} {k : Nat}, seenI l ms = some k → ∃ h : k < ms.length, seeP ms[k] l = true
  | [], _, h => by cases h
  | m :: ms, k, h => by
    unfold seenI at h
    split at h
    · rename_i hs
      injection h with h
      subst h
      exact ⟨by simp, hs⟩
    · obtain ⟨j, hj, rfl⟩ := Option.map_eq_some_iff.1 h
      obtain ⟨h1, h2⟩ := seenI_see hj
      exact ⟨by simpa using h1, by simpa using h2⟩
theorem oneP_ok {ms : List Bs} {l r : List Tk} {s : Bs} (h : oneP ms l = .ok (s, r)) : ∃ k, seenI l ms = some k ∧ ∃ hk : k < ms.length, s = ms[k] ∧ seeP ms[k] l = true ∧ r = l.tail := by
  unfold oneP at h
  cases hs : seenI l ms with
  | none => rw [hs] at h; cases h
  | some k =>
    rw [hs] at h
    obtain ⟨h1, h2⟩ := seenI_see hs
    injection h with h
    injection h with h3 h4
    refine ⟨k, rfl, h1, ?_, h2, h4.symm⟩
    rw [← h3, List.getD_eq_getElem?_getD, List.getElem?_eq_getElem h1]
    rfl
set_option maxHeartbeats 2000000 in
theorem one_yes {ms : List Bs} {l r : List Tk} {s : Bs} {b : Nat} (hm : oneP ms l = .ok (s, r)) (A : Option Addr) (c : Nat) (w : World) (h : Ps w b l) (hR : Rd w [b] 1 A ms.length (strs ms)) (hl : ms.length ≤ 4294967296) :
    Calls Tryd.prog 36 #[.pointer (some ⟨b, 0, none⟩), .slice A ms.length c] w fun e w' => e = .returned (.string (bs s)) ∧ Ps w' b r ∧ Keeps [b] w w' := by
  obtain ⟨k, h1, hk, rfl, hs, rfl⟩ := oneP_ok hm
  have HI := indexSee ms A c w h (hR.move (by simp)) hl
  have e : seenX l ms = (k : Int) := by unfold seenX; rw [h1]
  rw [e] at HI
  have HM := Lib.hid (must_yes (s := ms[k]) (r := l.tail) (by unfold mustP; rw [if_pos hs]) w h)
  obtain ⟨g, o, rfl, hgb, hg, hc⟩ := hR.open' (by omega) (by omega)
  have d1 := hc k _ (strs_at' ms k hk)
  have HI2 := Lib.hid HI
  have hk2 : (k : Int) < (ms.length : Int) := by omega
  have hne : g ≠ b := by simpa using hgb
  generalize ms[k] = x at *
  clear hm h1 hs HI e hc hR h hgb
  have hmf : ∀ (fn : Fn) (first cap : Array Value) (w : World), (Instr.makeFunc fn first cap).run Tryd.prog w = .ok (.func fn first cap) w := fun _ _ _ _ => rfl
  go_enter Tryd.func36, Tryd.ntmps36
  go_wp2_with fail
  refine HI2.out.mono ?_
  rintro ev w1 ⟨rfl, rfl⟩
  go_wp2_with fail
  refine HM.out.mono ?_
  rintro ev w2 ⟨rfl, hp, hk⟩
  have d2 := hk.cell_of d1 (by simpa using hne)
  have hg2 := World.block_lt_of_cell? _ _ d2
  go_wp2
  go_ret
  exact ⟨rfl, hp, hk⟩
theorem oneP_err {ms : List Bs} {l : List Tk} {x : Int × Int} (h : oneP ms l = .error x) : seenI l ms = none ∧ x = (3, (hdT l).at_) := by
  unfold oneP at h
  cases hs : seenI l ms with
  | none =>
    rw [hs] at h
    exact ⟨rfl, (Except.error.inj h).symm⟩
  | some k => rw [hs] at h; cases h
set_option maxHeartbeats 2000000 in
theorem one_no {ms : List Bs} {l : List Tk} {b : Nat} {x : Int × Int} (hm : oneP ms l = .error x) (A : Option Addr) (c : Nat) (w : World) (h : Ps w b l) (hR : Rd w [b] 1 A ms.length (strs ms)) (hl : ms.length ≤ 4294967296) :
    Calls Tryd.prog 36 #[.pointer (some ⟨b, 0, none⟩), .slice A ms.length c] w fun e w' => Thrown x e w' ∧ Keeps [b] w w' := by
  obtain ⟨h1, rfl⟩ := oneP_err hm
  have HI := indexSee ms A c w h (hR.move (by simp)) hl
  have e : seenX l ms = -1 := by unfold seenX; rw [h1]
  rw [e] at HI
  have HF := Lib.hid (fail_any' 3 w h)
  have HI2 := Lib.hid HI
  clear hm h1 HI e hR h
  have hmf : ∀ (fn : Fn) (first cap : Array Value) (w : World), (Instr.makeFunc fn first cap).run Tryd.prog w = .ok (.func fn first cap) w := fun _ _ _ _ => rfl
  go_enter Tryd.func36, Tryd.ntmps36
  go_wp2_with fail
  refine HI2.out.mono ?_
  rintro ev w1 ⟨rfl, rfl⟩
  go_wp2_with fail
  refine HF.out.mono ?_
  rintro ev w2 ⟨⟨gi, rfl, hb⟩, hk2⟩
  exact ⟨rfl, ⟨gi, rfl, hb⟩, hk2.of_nil⟩
end Go.Proofs.YtdmboaoeholkpaaDoor
