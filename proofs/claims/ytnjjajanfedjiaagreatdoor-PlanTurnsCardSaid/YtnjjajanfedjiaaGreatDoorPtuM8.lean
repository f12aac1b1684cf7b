/- The parser's input. A job that is being read, in memory. The parser's where. -/
import Derived.Test.YtnjjajanfedjiaaGreatDoorPtuM7
set_option linter.unusedSimpArgs false
set_option linter.unusedVariables false
namespace Go.Proofs.YtnjjajanfedjiaaGreatDoor
open Go.RowKit Go.BigFrame
attribute [local go_sem] bs_size bs_extract bs_append bs_toList
theorem cinf : (Tryz.prog.info? 61).map (fun i => (i.zero, i.size, i.bytes)) = some (some (.agg #[.string ⟨#[]⟩, .int .i64 0]), 2, 24) := by kernel_rfl
def InOut (R : Except (Int × Int) (In × List Tk)) (b base : Nat) (e : Ending) (w' : World) : Prop := match R with
 | .ok (x, r) => ∃ v, e = .returned (.agg #[.int .i64 x.at_, .string (bs x.name), v]) ∧ w'.ownsRow base 61 2 v x.cols.length (csCells x.cols) ∧ Ps w' b r
 | .error x => Thrown x e w'
theorem err_bind {α β : Type} (x : Int × Int) (f : α → Except (Int × Int) β) : ((Except.error x : Except (Int × Int) α) >>= f) = .error x := rfl
theorem ok_bind {α β : Type} (a : α) (f : α → Except (Int × Int) β) : ((Except.ok a : Except (Int × Int) α) >>= f) = f a := rfl
theorem rd_lit {W : World} {g b : Nat} (l : List Bs) (h : Blk W g 9 (strs l).toArray) (hb : g ≠ b) : Rd W [b] 1 (some ⟨g, 0, none⟩) l.length (strs l) :=
 ⟨by rw [strs_length, Nat.mul_one], fun _ => ⟨_, rfl, by simpa using hb, h.lt, fun j u hu => by rw [add_at, Nat.zero_add, h.cell]; simpa using hu⟩⟩
theorem colsGo_succ (n : Nat) (l : List Tk) (acc : List Cl) : colsGo (n + 1) l acc = (nameP l >>= fun p => oneP [[105, 110, 116], [116, 101, 120, 116]] p.2 >>= fun k => if seeP [44] k.2 then colsGo n k.2.tail (acc ++ [⟨p.1, if k.1 = [116, 101, 120, 116] then 2 else 1⟩]) else .ok (acc ++ [⟨p.1, if k.1 = [116, 101, 120, 116] then 2 else 1⟩], k.2)) := by
 conv => lhs; unfold colsGo colOne
 rcases nameP l with x | ⟨s, r⟩
 ·rfl
 ·rw [ok_bind, ok_bind]
  simp only
  rcases oneP [[105, 110, 116], [116, 101, 120, 116]] r with x | ⟨k, r2⟩ <;> rfl
theorem csCells_one (acc : List Cl) (s : Bs) (k : Int) : csCells (acc ++ [⟨s, k⟩]) = csCells acc ++ [.string (bs s), .int .i64 k] := by simp [csCells, cCells]
theorem nameP_len {l r : List Tk} {s : Bs} (h : nameP l = .ok (s, r)) : r.length = l.length - 1 := by
 obtain ⟨_, _, _, e⟩ := nameP_ok h
 rw [e, List.length_tail]
theorem mustP_len {l r : List Tk} {s : Bs} (h : mustP s l = .ok r) : r.length = l.length - 1 := by
 obtain ⟨_, e⟩ := mustP_ok h
 rw [e, List.length_tail]
theorem oneP_len {l r : List Tk} {s : Bs} {ms : List Bs} (h : oneP ms l = .ok (s, r)) : r.length = l.length - 1 := by
 obtain ⟨_, _, _, _, _, e⟩ := oneP_ok h
 rw [e, List.length_tail]
set_option maxRecDepth 100000 in
set_option maxHeartbeats 8000000 in
theorem input_any {l : List Tk} {b : Nat} (w : World) (h : Ps w b l) (hll : l.length ≤ 1000000) :
  Calls Tryz.prog 75 #[.pointer (some ⟨b, 0, none⟩)] w fun e w' => InOut (inputP l) b w.heap.size e w' ∧ Keeps [b] w w' := by
 obtain ⟨i0, hi, hz0, hz1, hz2⟩ := info_parts cinf
 have HL := Lib.hid hll
 obtain ⟨R, hR⟩ : ∃ R, inputP l = R := ⟨_, rfl⟩
 rw [hR]
 unfold inputP at hR
 obtain ⟨at_, hat⟩ : ∃ at_, (hdT l).at_ = at_ := ⟨_, rfl⟩
 rw [hat] at hR
 have HR := Lib.hid hR
 have H := Lib.hid h
 obtain ⟨g, o, c, c0, z0, lb, lg, -, hn, hc, hc2, k0, k1, k2, -⟩ := h.open'
 rw [hat] at k2
 have hn2 : (0 : Int) < (l.length : Int) := by omega
 have HW := Lib.hid (fsz w (.cells #[.int .i64 0, .string ⟨#[]⟩, .slice none 0 0] 63))
 have HRB := Lib.hid ((Blk.new w 63 #[.int .i64 0, .string ⟨#[]⟩, .slice none 0 0]).alloc (.cells #[.int .i64 at_, .string ⟨#[]⟩, .slice none 0 0] 63))
 have hxb := Blk.new (w.alloc (.cells #[.int .i64 0, .string ⟨#[]⟩, .slice none 0 0] 63)) 63 #[.int .i64 at_, .string ⟨#[]⟩, .slice none 0 0]
 rw [fsz] at hxb
 have HXB := Lib.hid hxb
 have HK0 := Lib.hid (((Keeps.refl [] w).alloc (.cells #[.int .i64 0, .string ⟨#[]⟩, .slice none 0 0] 63)).alloc (.cells #[.int .i64 at_, .string ⟨#[]⟩, .slice none 0 0] 63))
 have HRBB : Hid (w.heap.size ≠ b) := Lib.hid (by omega)
 have HXG : Hid (w.heap.size ≤ w.heap.size + 1) := Lib.hid (by omega)
 have HP0 := Lib.hid (h.keep HK0.out)
 clear h hR hat hxb hll
 go_enter Tryz.func75, Tryz.ntmps75
 go_upto_region 2 with (fail)
 obtain ⟨w0, hw0⟩ : ∃ x, (w.alloc (.cells #[.int .i64 0, .string ⟨#[]⟩, .slice none 0 0] 63)).alloc (.cells #[.int .i64 at_, .string ⟨#[]⟩, .slice none 0 0] 63) = x := ⟨_, rfl⟩
 rw [hw0] at HRB HXB HK0 HP0 ⊢
 clear hw0 HW c0 z0 lb lg hn hc hc2 k0 k1 k2 hn2
 obtain ⟨xb, hx⟩ : ∃ xb, w.heap.size + 1 = xb := ⟨_, rfl⟩
 rw [hx] at HXB HXG ⊢
 obtain ⟨rb, hr⟩ : ∃ rb, w.heap.size = rb := ⟨_, rfl⟩
 rw [hr] at HRB HRBB ⊢
 have HRX : Hid (rb ≠ xb ∧ w.heap.size ≤ rb) := Lib.hid (by omega)
 clear hx hr
 rcases h1 : mustP [105, 110] l with x | r1
 ·have HX : Hid (R = .error x) := Lib.hid (by rw [← HR.out, h1]; rfl)
  have HC := Lib.hid (must_no h1 w0 HP0.out)
  clear h1
  go_wp2_with fail
  refine HC.out.mono ?_
  rintro ev w9 ⟨⟨gi, rfl, hb⟩, hk9⟩
  exact ⟨rfl, by rw [HX.out]; exact ⟨gi, rfl, hb⟩, HK0.out.of_nil.trans hk9⟩
 have HR1 : Hid ((do let (nm, r) ← nameP r1; let r ← mustP [58] r; let (cs, r) ← colsGo r.length r []; let r ← mustP [59] r; .ok (⟨at_, nm, cs⟩, r)) = R) := Lib.hid (by rw [← HR.out, h1]; rfl)
 have HC := Lib.hid (must_yes h1 w0 HP0.out)
 have hl1 := mustP_len h1
 have HL1 := Lib.hid hl1
 clear h1 HR hl1
 go_wp2_with fail
 refine HC.out.mono ?_
 rintro ev w1 ⟨rfl, hp1, hk1⟩
 have HP1 := Lib.hid hp1
 have HRB1 := Lib.hid (far_ps HP0.out hk1 HRB.out (by decide))
 have HXB1 := Lib.hid (far_ps HP0.out hk1 HXB.out (by decide))
 have HK1 := Lib.hid (HK0.out.of_nil.trans hk1)
 clear hp1 hk1 HC HP0 HRB HXB HK0
 rcases h2 : nameP r1 with x | ⟨nm, r2⟩
 ·have HX : Hid (R = .error x) := Lib.hid (by rw [← HR1.out, h2]; rfl)
  have HC := Lib.hid (name_no h2 w1 HP1.out)
  clear h2
  go_wp2_with fail
  refine HC.out.mono ?_
  rintro ev w9 ⟨⟨gi, rfl, hb⟩, hk9⟩
  exact ⟨rfl, by rw [HX.out]; exact ⟨gi, rfl, hb⟩, HK1.out.trans hk9⟩
 have HR2 : Hid ((do let r ← mustP [58] r2; let (cs, r) ← colsGo r.length r []; let r ← mustP [59] r; .ok (⟨at_, nm, cs⟩, r)) = R) := Lib.hid (by rw [← HR1.out, h2]; rfl)
 have HC := Lib.hid (name_yes h2 w1 HP1.out)
 have HL2 := Lib.hid (nameP_len h2)
 clear h2 HR1
 go_wp2_with fail
 refine HC.out.mono ?_
 rintro ev w2 ⟨rfl, hp2, hk2⟩
 have HP2' := Lib.hid hp2
 have HRB2' := Lib.hid (far_ps HP1.out hk2 HRB1.out (by decide))
 have HXB2' := Lib.hid (far_ps HP1.out hk2 HXB1.out (by decide))
 have HK2' := Lib.hid (HK1.out.trans hk2)
 clear hp2 hk2 HC HP1 HRB1 HXB1 HK1
 have e0 : w2.cell? ⟨xb, 1, none⟩ = some (.string ⟨#[]⟩) := HXB2'.out.cell 1
 have e1 := HXB2'.out.frozen 1
 have e2 := HXB2'.out.lt
 go_upto_region 4 with (fail)
 have HP2 := Lib.hid (HP2'.out.set (i := 1) HXB2'.out (by decide) (by decide) (.string (bs nm)))
 have HRB2 := Lib.hid (HRB2'.out.far (p := ⟨xb, 1, none⟩) HRX.out.1 (.string (bs nm)))
 have HXB2 := Lib.hid ((HXB2'.out.set 1 (.string (bs nm))).congr (cs' := #[.int .i64 at_, .string (bs nm), .slice none 0 0]) rfl)
 have HK2 := Lib.hid (HK2'.out.setCell (p := ⟨xb, 1, none⟩) (.inr HXG.out) (.string (bs nm)))
 obtain ⟨w3, hw3⟩ : ∃ x, w2.setCell ⟨xb, 1, none⟩ (.string (bs nm)) = x := ⟨_, rfl⟩
 rw [hw3] at HP2 HRB2 HXB2 HK2 ⊢
 clear hw3 HP2' HRB2' HXB2' HK2' e0 e1 e2
 rcases h3 : mustP [58] r2 with x | r3
 ·have HX : Hid (R = .error x) := Lib.hid (by rw [← HR2.out, h3]; rfl)
  have HC := Lib.hid (must_no h3 w3 HP2.out)
  clear h3
  go_wp2_with fail
  refine HC.out.mono ?_
  rintro ev w9 ⟨⟨gi, rfl, hb⟩, hk9⟩
  exact ⟨rfl, by rw [HX.out]; exact ⟨gi, rfl, hb⟩, HK2.out.trans hk9⟩
 obtain ⟨S, hS⟩ : ∃ S, colsGo r3.length r3 [] = S := ⟨_, rfl⟩
 have HR3 : Hid ((S >>= fun p => (mustP [59] p.2 >>= fun r => .ok (⟨at_, nm, p.1⟩, r))) = R) := Lib.hid (by rw [← HR2.out, h3, ok_bind, hS])
 have HS := Lib.hid hS
 have HC := Lib.hid (must_yes h3 w3 HP2.out)
 have HL3 := Lib.hid (mustP_len h3)
 have hlen3 : r3.length ≤ l.length := by have := HL1.out; have := HL2.out; have := HL3.out; omega
 clear h3 HR2 hS
 go_wp2_with fail
 refine HC.out.mono ?_
 rintro ev w4 ⟨rfl, hp4, hk4⟩
 have HP4 := Lib.hid hp4
 have HRB4 := Lib.hid (far_ps HP2.out hk4 HRB2.out (by decide))
 have HXB4 := Lib.hid (far_ps HP2.out hk4 HXB2.out (by decide))
 have HK4 := Lib.hid (HK2.out.trans hk4)
 clear hp4 hk4 HC HP2 HRB2 HXB2 HK2
 go_wp2_with fail
 go_loopw [4] (fun m wr => ∃ (mb : Bool) (acc : List Cl) (q : List Tk) (n : Nat) (v : Value), m = .bool mb ∧ Hid (mb = true → colsGo n q acc = S ∧ q.length ≤ n) ∧ Hid (mb = false → S = .ok (acc, q)) ∧ acc.length + q.length ≤ l.length ∧ Hid (Ps wr b q) ∧ Hid (Blk wr xb 63 #[.int .i64 at_, .string (bs nm), v]) ∧ Hid (Blk wr rb 63 #[.int .i64 0, .string ⟨#[]⟩, .slice none 0 0]) ∧ Hid (wr.ownsRow w.heap.size 61 2 v acc.length (csCells acc)) ∧ Hid (Keeps [b] w wr)) (fun _ wr => leftT b wr)
 case atStart => exact ⟨true, [], r3, r3.length, _, rfl, Lib.hid (fun _ => ⟨HS.out, Nat.le_refl _⟩), Lib.hid (fun h => by cases h), by simpa using hlen3, HP4, HXB4, HRB4, Lib.hid (World.ownsRow_nil _ _ _ _), HK4⟩
 case round =>
  clear HP4 HXB4 HRB4 HK4 hlen3 HS
  obtain ⟨mb, acc, q, n, v, rfl, HG, HF, hlen, HP, HXB, HRB, HO, HK⟩ := hrel
  obtain ⟨A, cv, rfl, -⟩ := own_form HO.out
  have HM := Lib.hid HP.out.left
  cases mb with
  | false =>
   have HSS := Lib.hid (HF.out rfl)
   clear HF HG
   rcases h7 : mustP [59] q with x | r7
   ·have HX : Hid (R = .error x) := Lib.hid (by rw [← HR3.out, HSS.out, ok_bind, h7]; rfl)
    have HC := Lib.hid (must_no h7 wr HP.out)
    clear h7
    go_wp2_with fail
    refine HC.out.mono ?_
    rintro ev w9 ⟨⟨gi, rfl, hb⟩, hk9⟩
    exact ⟨rfl, by rw [HX.out]; exact ⟨gi, rfl, hb⟩, HK.out.trans hk9⟩
   have HX : Hid (R = .ok (⟨at_, nm, acc⟩, r7)) := Lib.hid (by rw [← HR3.out, HSS.out, ok_bind, h7]; rfl)
   have HC := Lib.hid (must_yes h7 wr HP.out)
   clear h7
   go_wp2_with fail
   refine HC.out.mono ?_
   rintro ev w10 ⟨rfl, hp, hk⟩
   have hXa := far_ps HP.out hk HXB.out (by decide)
   have hRa := far_ps HP.out hk HRB.out (by decide)
   have HOa := Lib.hid (own_ps HO.out HP.out hk (by decide))
   have HKa := Lib.hid (HK.out.trans hk)
   have HPa := Lib.hid hp
   have HRA := Lib.hid hRa
   have x0 : w10.cell? ⟨xb, 0, none⟩ = some (.int .i64 at_) := hXa.cell 0
   have x1 : w10.cell? ⟨xb, 1, none⟩ = some (.string (bs nm)) := hXa.cell 1
   have x2 : w10.cell? ⟨xb, 2, none⟩ = some (.slice A acc.length cv) := hXa.cell 2
   have lx := hXa.lt
   have y0 : w10.cell? ⟨rb, 0, none⟩ = some (.int .i64 0) := hRa.cell 0
   have y1 : w10.cell? ⟨rb, 1, none⟩ = some (.string ⟨#[]⟩) := hRa.cell 1
   have y2 : w10.cell? ⟨rb, 2, none⟩ = some (.slice none 0 0) := hRa.cell 2
   have f0 := hRa.frozen 0
   have f1 := hRa.frozen 1
   have f2 := hRa.frozen 2
   have lr := hRa.lt
   clear hp hk hXa hRa HC
   go_wp2
   have hb7 := ((HRA.out.set 0 (.int .i64 at_)).set 1 (.string (bs nm))).set 2 (.slice A acc.length cv)
   have z0 := hb7.cell 0
   have z1 := hb7.cell 1
   have z2 := hb7.cell 2
   refine bodyPost_ret (v := .agg #[.int .i64 at_, .string (bs nm), .slice A acc.length cv]) (by simp [results, Tryz.results75, go_sem, z0, z1, z2]) rfl ⟨?_, ?_⟩
   ·rw [HX.out]
    have hkk : Keeps [rb] w10 (((w10.setCell ⟨rb, 0, none⟩ (.int .i64 at_)).setCell ⟨rb, 1, none⟩ (.string (bs nm))).setCell ⟨rb, 2, none⟩ (.slice A acc.length cv)) := (((Keeps.refl [rb] w10).setCell (.inl (by simp)) _).setCell (.inl (by simp)) _).setCell (.inl (by simp)) _
    exact ⟨_, rfl, own_keep HOa.out hkk (fun g hg hm => by rw [List.mem_singleton.1 hm] at hg; exact (own_ty HOa.out rb hg).ne HRA.out.ty (by decide) rfl), HPa.out.far hkk (fun x hx => ⟨63, by rw [List.mem_singleton.1 hx]; exact HRA.out.ty, by decide, by decide⟩)⟩
   ·exact ((HKa.out.setCell (.inr HRX.out.2) _).setCell (.inr HRX.out.2) _).setCell (.inr HRX.out.2) _
  | true =>
   obtain ⟨hgo, hqn⟩ := HG.out rfl
   have hq1 := HP.out.endT.pos
   obtain ⟨n, rfl⟩ : ∃ m, n = m + 1 := ⟨n - 1, by omega⟩
   have HGO := Lib.hid hgo
   clear hgo HG HF
   rcases h5 : nameP q with x | ⟨s, q1⟩
   ·have HX : Hid (R = .error x) := Lib.hid (by rw [← HR3.out, ← HGO.out, colsGo_succ, h5]; rfl)
    have HC := Lib.hid (name_no h5 wr HP.out)
    clear h5
    go_wp2_with fail
    refine HC.out.mono ?_
    rintro ev w9 ⟨⟨gi, rfl, hb⟩, hk9⟩
    exact ⟨rfl, by rw [HX.out]; exact ⟨gi, rfl, hb⟩, HK.out.trans hk9⟩
   have HGO1 : Hid ((oneP [[105, 110, 116], [116, 101, 120, 116]] q1 >>= fun p => (if seeP [44] p.2 then colsGo n p.2.tail (acc ++ [⟨s, if p.1 = [116, 101, 120, 116] then 2 else 1⟩]) else .ok (acc ++ [⟨s, if p.1 = [116, 101, 120, 116] then 2 else 1⟩], p.2))) = S) := Lib.hid (by
    rw [← HGO.out, colsGo_succ, h5]
    rfl)
   have HC := Lib.hid (name_yes h5 wr HP.out)
   have HL5 := Lib.hid (nameP_len h5)
   clear h5 HGO
   go_wp2_with fail
   refine HC.out.mono ?_
   rintro ev w2 ⟨rfl, hp2, hk2⟩
   have HP3 := Lib.hid ((hp2.keep ((Keeps.refl _ _).alloc (.cells #[.string (bs s), .int .i64 1] 61))).keep ((Keeps.refl _ _).alloc (.cells #[.string (bs [105, 110, 116]), .string (bs [116, 101, 120, 116])] 9)))
   have HK3 := Lib.hid (((HK.out.trans hk2).alloc (.cells #[.string (bs s), .int .i64 1] 61)).alloc (.cells #[.string (bs [105, 110, 116]), .string (bs [116, 101, 120, 116])] 9))
   have HXB3 := Lib.hid (((far_ps HP.out hk2 HXB.out (by decide)).alloc (.cells #[.string (bs s), .int .i64 1] 61)).alloc (.cells #[.string (bs [105, 110, 116]), .string (bs [116, 101, 120, 116])] 9))
   have HRB3 := Lib.hid (((far_ps HP.out hk2 HRB.out (by decide)).alloc (.cells #[.string (bs s), .int .i64 1] 61)).alloc (.cells #[.string (bs [105, 110, 116]), .string (bs [116, 101, 120, 116])] 9))
   have HO3 := Lib.hid (((own_ps HO.out HP.out hk2 (by decide)).alloc (.cells #[.string (bs s), .int .i64 1] 61)).alloc (.cells #[.string (bs [105, 110, 116]), .string (bs [116, 101, 120, 116])] 9))
   have HCB3 := Lib.hid ((Blk.new w2 61 #[.string (bs s), .int .i64 1]).alloc (.cells #[.string (bs [105, 110, 116]), .string (bs [116, 101, 120, 116])] 9))
   have hsb := Blk.new (w2.alloc (.cells #[.string (bs s), .int .i64 1] 61)) 9 #[.string (bs [105, 110, 116]), .string (bs [116, 101, 120, 116])]
   rw [fsz] at hsb
   have hRD : Rd ((w2.alloc (.cells #[.string (bs s), .int .i64 1] 61)).alloc (.cells #[.string (bs [105, 110, 116]), .string (bs [116, 101, 120, 116])] 9)) [b] 1 (some ⟨w2.heap.size + 1, 0, none⟩) 2 (strs [[105, 110, 116], [116, 101, 120, 116]]) := rd_lit [[105, 110, 116], [116, 101, 120, 116]] hsb (by have := hp2.lt; omega)
   have HRD := Lib.hid hRD
   have HCG : Hid (w.heap.size ≤ w2.heap.size) := Lib.hid (HK.out.trans hk2).size
   have HCX : Hid (xb ≠ w2.heap.size ∧ rb ≠ w2.heap.size) := Lib.hid ⟨by have := HXB.out.lt; have := hk2.size; omega, by have := HRB.out.lt; have := hk2.size; omega⟩
   have HCP : Hid (b < w2.heap.size) := Lib.hid hp2.lt
   have HOC : Hid ((Value.slice A acc.length cv).ownBlock ≠ some w2.heap.size) := Lib.hid (fun e => by have := (HO.out.lt _ e).2; have := hk2.size; omega)
   clear hp2 hk2 hsb hRD HC HP HXB HRB HO HK
   go_wp2_with fail
   rcases h6 : oneP [[105, 110, 116], [116, 101, 120, 116]] q1 with x | ⟨k, q2⟩
   ·have HX : Hid (R = .error x) := Lib.hid (by rw [← HR3.out, ← HGO1.out, h6]; rfl)
    have HC := Lib.hid (one_no h6 (some ⟨w2.heap.size + 1, 0, none⟩) 2 _ HP3.out HRD.out (by decide))
    clear h6
    refine HC.out.mono ?_
    rintro ev w9 ⟨⟨gi, rfl, hb⟩, hk9⟩
    exact ⟨rfl, by rw [HX.out]; exact ⟨gi, rfl, hb⟩, HK3.out.trans hk9⟩
   have HC := Lib.hid (one_yes h6 (some ⟨w2.heap.size + 1, 0, none⟩) 2 _ HP3.out HRD.out (by decide))
   have hkk : k = [105, 110, 116] ∨ k = [116, 101, 120, 116] := by
    obtain ⟨i, _, hi2, e, _⟩ := oneP_ok h6
    rw [e]
    match i, hi2 with
    | 0, _ => exact .inl rfl
    | 1, _ => exact .inr rfl
   have HGOk : Hid ((if seeP [44] q2 then colsGo n q2.tail (acc ++ [⟨s, if k = [116, 101, 120, 116] then 2 else 1⟩]) else .ok (acc ++ [⟨s, if k = [116, 101, 120, 116] then 2 else 1⟩], q2)) = S) := Lib.hid (by rw [← HGO1.out, h6]; rfl)
   have hl6 := oneP_len h6
   have HL6 : Hid (q2.length + 2 ≤ q.length) := Lib.hid (by
    have h5' := HL5.out
    have hp1 := HP3.out.endT.pos
    omega)
   clear h6 hl6 HGO1
   generalize hcb : w2.heap.size = cb at *
   have HCBE := Lib.hid hcb
   clear hcb
   refine HC.out.mono ?_
   rintro ev w5 ⟨rfl, hp5, hk5⟩
   have HP5' := Lib.hid hp5
   have HK5' := Lib.hid (HK3.out.trans hk5)
   have HXB5' := Lib.hid (far_ps HP3.out hk5 HXB3.out (by decide))
   have HRB5' := Lib.hid (far_ps HP3.out hk5 HRB3.out (by decide))
   have HCB5' := Lib.hid (far_ps HP3.out hk5 HCB3.out (by decide))
   have HO5' := Lib.hid (own_ps HO3.out HP3.out hk5 (by decide))
   clear hp5 hk5 HC HP3 HK3 HXB3 HRB3 HO3 HCB3 HRD
   rcases hkk with rfl | rfl
   ·have HGO2 : Hid ((if seeP [44] q2 then colsGo n q2.tail (acc ++ [⟨s, 1⟩]) else .ok (acc ++ [⟨s, 1⟩], q2)) = S) := Lib.hid HGOk.out
    clear HGOk
    go_upto_region 12 with (fail)
    have HP5 := HP5'
    have HK5 := HK5'
    have HXB5 := HXB5'
    have HRB5 := HRB5'
    have HCB5 := HCB5'
    have HO5 := HO5'
    clear HP5' HK5' HXB5' HRB5' HCB5' HO5'
    have hbd := Lib.hid (show acc.length + 1 ≤ maxLen ∧ (acc.length + 1) * 24 ≤ 140737488355328 by have := HL.out; simp only [maxLen]; omega)
    have xf2 := HXB5.out.frozen 2
    have x2 : w5.cell? ⟨xb, 2, none⟩ = some (.slice A acc.length cv) := HXB5.out.cell 2
    have lx := HXB5.out.lt
    have q0 : w5.cell? ⟨cb, 0, none⟩ = some (.string (bs s)) := HCB5.out.cell 0
    have q1 : w5.cell? ⟨cb, 1, none⟩ = some (.int .i64 1) := HCB5.out.cell 1
    have lc := HCB5.out.lt
    have HWZ := Lib.hid (show w.heap.size ≤ w5.heap.size + 1 from Nat.le_succ_of_le HK5.out.size)
    go_wp2_with (at_builtin; refine wpList_append_lies _ rfl _ _ 59 rfl _ 61 i0 _ 2 24 Tryz.underlying59 hi hz0 hz1 hz2 rfl (by decide) _ acc.length (csCells acc) rfl (HO5.out.alloc _) ⟨w5.heap.size, 0, none⟩ 1 1 [.string (bs s), .int .i64 1] rfl rfl (World.news_of_block (heap_alloc_new _ _)) (by simp [Value.oneCell']) (by decide) hbd.out.1 hbd.out.2 (by simp; exact HWZ.out) _ rfl ?_)
    intro gw cap2 w8 hown8 hgrow8 hat8 hlt8
    have HP8 := (HP5.out.keep ((Keeps.refl _ _).alloc (.cells #[.string (bs s), .int .i64 1] 61))).grown hgrow8 (fun x hx => (own_ty HO5.out x hx).keep ((Keeps.refl [] _).alloc _) (by simp)) (by decide) (by decide)
    have HXB8 : Blk w8 xb 63 #[.int .i64 at_, .string (bs nm), .slice A acc.length cv] := (hgrow8.block xb ((HXB5.out.alloc _).lt) (fun e => (own_ty HO5.out xb e.symm).ne HXB5.out.ty (by decide) rfl)).trans (HXB5.out.alloc _)
    have hRB8 : Blk w8 rb 63 #[.int .i64 0, .string ⟨#[]⟩, .slice none 0 0] := (hgrow8.block rb ((HRB5.out.alloc _).lt) (fun e => (own_ty HO5.out rb e.symm).ne HRB5.out.ty (by decide) rfl)).trans (HRB5.out.alloc _)
    have HK8 := (HK5.out.alloc (.cells #[.string (bs s), .int .i64 1] 61)).grown hgrow8 (fun g hg => .inr (HO5.out.lt g hg).1)
    rw [← csCells_one] at hown8
    have xf8 := HXB8.frozen 2
    have x8 : w8.cell? ⟨xb, 2, none⟩ = some (.slice A acc.length cv) := HXB8.cell 2
    have lx8 := HXB8.lt
    obtain ⟨u, hu⟩ : ∃ u, Value.slice (some ⟨gw, 0, none⟩) (acc.length + 1) cap2 = u := ⟨_, rfl⟩
    have HP9 := Lib.hid (HP8.set (i := 2) HXB8 (by decide) (by decide) u)
    have HXB9 := Lib.hid ((HXB8.set 2 u).congr (cs' := #[.int .i64 at_, .string (bs nm), u]) rfl)
    have HO9 : Hid ((w8.setCell ⟨xb, 2, none⟩ u).ownsRow w.heap.size 61 2 u (acc ++ [(⟨s, 1⟩ : Cl)]).length (csCells (acc ++ [(⟨s, 1⟩ : Cl)]))) := Lib.hid (by
     rw [List.length_append]
     rw [hu] at hown8
     exact own_keep hown8 (L := [xb]) (Keeps.setCell (Keeps.refl _ _) (.inl (by simp)) _) (fun g hg hm => by
      rw [List.mem_singleton.1 hm] at hg
      exact (own_ty hown8 xb hg).ne HXB8.ty (by decide) rfl))
    have HK9 := Lib.hid (HK8.setCell (p := ⟨xb, 2, none⟩) (.inr HXG.out) u)
    have HRB9 := Lib.hid (hRB8.far (p := ⟨xb, 2, none⟩) HRX.out.1 u)
    obtain ⟨w9, hw9⟩ : ∃ x, w8.setCell ⟨xb, 2, none⟩ u = x := ⟨_, rfl⟩
    rw [hw9] at HP9 HXB9 HO9 HK9 HRB9
    have HW9 := Lib.hid hw9
    have HU := Lib.hid hu
    clear hown8 hgrow8 hat8 hlt8 HP8 HK8 q0 q1 lc x2 xf2 lx hu hw9 hRB8
    clear HP5 HO5 HCB5 HXB5 HK5
    go_upto_region 7 with (fail)
    rw [HU.out, HW9.out]
    have HT := take_any [44] w9 HP9.out
    cases hs : seeP [44] q2 with
    | false =>
     rw [hs] at HT
     have HT1 := Lib.hid HT
     have HSS : Hid (S = .ok (acc ++ [⟨s, 1⟩], q2)) := Lib.hid (by rw [← HGO2.out, hs]; rfl)
     clear HT hs
     go_wp2_with fail
     refine HT1.out.mono ?_
     rintro ev w10 ⟨rfl, hp, hk⟩
     have HPa : Hid (Ps w10 b q2) := Lib.hid hp
     have HXa := Lib.hid (far_ps HP9.out hk HXB9.out (by decide))
     have HRa := Lib.hid (far_ps HP9.out hk HRB9.out (by decide))
     have HOa := Lib.hid (own_ps HO9.out HP9.out hk (by decide))
     have HKa := Lib.hid (HK9.out.trans hk)
     clear hp hk HT1
     go_wp2
     go_roundw
     case rel => exact ⟨false, acc ++ [⟨s, 1⟩], q2, 0, u, rfl, Lib.hid (fun h => by cases h), Lib.hid (fun _ => HSS.out), by have := HL6.out; simp; omega, HPa, HXa, HRa, HOa, HKa⟩
     case measure => have := HL6.out; rw [HPa.out.left, HM.out]; omega
    | true =>
     rw [hs, if_pos rfl] at HT
     have HT1 := Lib.hid HT
     have hq3 : q2.tail.length = q2.length - 1 := List.length_tail
     have HQ3 := Lib.hid hq3
     have HGO3 : Hid (colsGo n q2.tail (acc ++ [⟨s, 1⟩]) = S) := Lib.hid (by rw [← HGO2.out, hs]; rfl)
     clear HT hs hq3
     go_wp2_with fail
     refine HT1.out.mono ?_
     rintro ev w10 ⟨rfl, hp, hk⟩
     have HPa := Lib.hid hp
     have HXa := Lib.hid (far_ps HP9.out hk HXB9.out (by decide))
     have HRa := Lib.hid (far_ps HP9.out hk HRB9.out (by decide))
     have HOa := Lib.hid (own_ps HO9.out HP9.out hk (by decide))
     have HKa := Lib.hid (HK9.out.trans hk)
     clear hp hk HT1
     go_wp2
     go_roundw
     case rel => exact ⟨true, acc ++ [⟨s, 1⟩], q2.tail, n, u, rfl, Lib.hid (fun _ => ⟨HGO3.out, by have := HL6.out; have := HQ3.out; omega⟩), Lib.hid (fun h => by cases h), by have := HL6.out; have := HQ3.out; simp; omega, HPa, HXa, HRa, HOa, HKa⟩
     case measure => have := HL6.out; have := HQ3.out; rw [HPa.out.left, HM.out]; omega
   ·have HGO2 : Hid ((if seeP [44] q2 then colsGo n q2.tail (acc ++ [⟨s, 2⟩]) else .ok (acc ++ [⟨s, 2⟩], q2)) = S) := Lib.hid HGOk.out
    clear HGOk
    have qq1 : w5.cell? ⟨cb, 1, none⟩ = some (.int .i64 1) := HCB5'.out.cell 1
    have qf1 := HCB5'.out.frozen 1
    have lcc := HCB5'.out.lt
    go_upto_region 12 with (fail)
    have HP5 := Lib.hid (HP5'.out.setNew (i := 1) HCP.out (.int .i64 2))
    have HK5 := Lib.hid (HK5'.out.setCell (p := ⟨cb, 1, none⟩) (.inr HCG.out) (.int .i64 2))
    have HXB5 := Lib.hid (HXB5'.out.far (p := ⟨cb, 1, none⟩) HCX.out.1 (.int .i64 2))
    have HRB5 := Lib.hid (HRB5'.out.far (p := ⟨cb, 1, none⟩) HCX.out.2 (.int .i64 2))
    have HCB5 := Lib.hid ((HCB5'.out.set 1 (.int .i64 2)).congr (cs' := #[.string (bs s), .int .i64 2]) rfl)
    have HO5 : Hid ((w5.setCell ⟨cb, 1, none⟩ (.int .i64 2)).ownsRow w.heap.size 61 2 (.slice A acc.length cv) acc.length (csCells acc)) := Lib.hid (own_keep HO5'.out (L := [cb]) (Keeps.setCell (Keeps.refl _ _) (.inl (by simp)) _) (fun g hg hm => HOC.out (by rw [← List.mem_singleton.1 hm]; exact hg)))
    obtain ⟨w6, hw6⟩ : ∃ x, w5.setCell ⟨cb, 1, none⟩ (.int .i64 2) = x := ⟨_, rfl⟩
    rw [hw6] at HP5 HK5 HXB5 HRB5 HCB5 HO5 ⊢
    clear hw6 qq1 qf1 lcc HP5' HK5' HXB5' HRB5' HCB5' HO5'
    have hbd := Lib.hid (show acc.length + 1 ≤ maxLen ∧ (acc.length + 1) * 24 ≤ 140737488355328 by have := HL.out; simp only [maxLen]; omega)
    have xf2 := HXB5.out.frozen 2
    have x2 : w6.cell? ⟨xb, 2, none⟩ = some (.slice A acc.length cv) := HXB5.out.cell 2
    have lx := HXB5.out.lt
    have q0 : w6.cell? ⟨cb, 0, none⟩ = some (.string (bs s)) := HCB5.out.cell 0
    have q1 : w6.cell? ⟨cb, 1, none⟩ = some (.int .i64 2) := HCB5.out.cell 1
    have lc := HCB5.out.lt
    have HWZ := Lib.hid (show w.heap.size ≤ w6.heap.size + 1 from Nat.le_succ_of_le HK5.out.size)
    go_wp2_with (at_builtin; refine wpList_append_lies _ rfl _ _ 59 rfl _ 61 i0 _ 2 24 Tryz.underlying59 hi hz0 hz1 hz2 rfl (by decide) _ acc.length (csCells acc) rfl (HO5.out.alloc _) ⟨w6.heap.size, 0, none⟩ 1 1 [.string (bs s), .int .i64 2] rfl rfl (World.news_of_block (heap_alloc_new _ _)) (by simp [Value.oneCell']) (by decide) hbd.out.1 hbd.out.2 (by simp; exact HWZ.out) _ rfl ?_)
    intro gw cap2 w8 hown8 hgrow8 hat8 hlt8
    have HP8 := (HP5.out.keep ((Keeps.refl _ _).alloc (.cells #[.string (bs s), .int .i64 2] 61))).grown hgrow8 (fun x hx => (own_ty HO5.out x hx).keep ((Keeps.refl [] _).alloc _) (by simp)) (by decide) (by decide)
    have HXB8 : Blk w8 xb 63 #[.int .i64 at_, .string (bs nm), .slice A acc.length cv] := (hgrow8.block xb ((HXB5.out.alloc _).lt) (fun e => (own_ty HO5.out xb e.symm).ne HXB5.out.ty (by decide) rfl)).trans (HXB5.out.alloc _)
    have hRB8 : Blk w8 rb 63 #[.int .i64 0, .string ⟨#[]⟩, .slice none 0 0] := (hgrow8.block rb ((HRB5.out.alloc _).lt) (fun e => (own_ty HO5.out rb e.symm).ne HRB5.out.ty (by decide) rfl)).trans (HRB5.out.alloc _)
    have HK8 := (HK5.out.alloc (.cells #[.string (bs s), .int .i64 2] 61)).grown hgrow8 (fun g hg => .inr (HO5.out.lt g hg).1)
    rw [← csCells_one] at hown8
    have xf8 := HXB8.frozen 2
    have x8 : w8.cell? ⟨xb, 2, none⟩ = some (.slice A acc.length cv) := HXB8.cell 2
    have lx8 := HXB8.lt
    obtain ⟨u, hu⟩ : ∃ u, Value.slice (some ⟨gw, 0, none⟩) (acc.length + 1) cap2 = u := ⟨_, rfl⟩
    have HP9 := Lib.hid (HP8.set (i := 2) HXB8 (by decide) (by decide) u)
    have HXB9 := Lib.hid ((HXB8.set 2 u).congr (cs' := #[.int .i64 at_, .string (bs nm), u]) rfl)
    have HO9 : Hid ((w8.setCell ⟨xb, 2, none⟩ u).ownsRow w.heap.size 61 2 u (acc ++ [(⟨s, 2⟩ : Cl)]).length (csCells (acc ++ [(⟨s, 2⟩ : Cl)]))) := Lib.hid (by
     rw [List.length_append]
     rw [hu] at hown8
     exact own_keep hown8 (L := [xb]) (Keeps.setCell (Keeps.refl _ _) (.inl (by simp)) _) (fun g hg hm => by
      rw [List.mem_singleton.1 hm] at hg
      exact (own_ty hown8 xb hg).ne HXB8.ty (by decide) rfl))
    have HK9 := Lib.hid (HK8.setCell (p := ⟨xb, 2, none⟩) (.inr HXG.out) u)
    have HRB9 := Lib.hid (hRB8.far (p := ⟨xb, 2, none⟩) HRX.out.1 u)
    obtain ⟨w9, hw9⟩ : ∃ x, w8.setCell ⟨xb, 2, none⟩ u = x := ⟨_, rfl⟩
    rw [hw9] at HP9 HXB9 HO9 HK9 HRB9
    have HW9 := Lib.hid hw9
    have HU := Lib.hid hu
    clear hown8 hgrow8 hat8 hlt8 HP8 HK8 q0 q1 lc x2 xf2 lx hu hw9 hRB8
    clear HP5 HO5 HCB5 HXB5 HK5
    go_upto_region 7 with (fail)
    rw [HU.out, HW9.out]
    have HT := take_any [44] w9 HP9.out
    cases hs : seeP [44] q2 with
    | false =>
     rw [hs] at HT
     have HT1 := Lib.hid HT
     have HSS : Hid (S = .ok (acc ++ [⟨s, 2⟩], q2)) := Lib.hid (by rw [← HGO2.out, hs]; rfl)
     clear HT hs
     go_wp2_with fail
     refine HT1.out.mono ?_
     rintro ev w10 ⟨rfl, hp, hk⟩
     have HPa : Hid (Ps w10 b q2) := Lib.hid hp
     have HXa := Lib.hid (far_ps HP9.out hk HXB9.out (by decide))
     have HRa := Lib.hid (far_ps HP9.out hk HRB9.out (by decide))
     have HOa := Lib.hid (own_ps HO9.out HP9.out hk (by decide))
     have HKa := Lib.hid (HK9.out.trans hk)
     clear hp hk HT1
     go_wp2
     go_roundw
     case rel => exact ⟨false, acc ++ [⟨s, 2⟩], q2, 0, u, rfl, Lib.hid (fun h => by cases h), Lib.hid (fun _ => HSS.out), by have := HL6.out; simp; omega, HPa, HXa, HRa, HOa, HKa⟩
     case measure => have := HL6.out; rw [HPa.out.left, HM.out]; omega
    | true =>
     rw [hs, if_pos rfl] at HT
     have HT1 := Lib.hid HT
     have hq3 : q2.tail.length = q2.length - 1 := List.length_tail
     have HQ3 := Lib.hid hq3
     have HGO3 : Hid (colsGo n q2.tail (acc ++ [⟨s, 2⟩]) = S) := Lib.hid (by rw [← HGO2.out, hs]; rfl)
     clear HT hs hq3
     go_wp2_with fail
     refine HT1.out.mono ?_
     rintro ev w10 ⟨rfl, hp, hk⟩
     have HPa := Lib.hid hp
     have HXa := Lib.hid (far_ps HP9.out hk HXB9.out (by decide))
     have HRa := Lib.hid (far_ps HP9.out hk HRB9.out (by decide))
     have HOa := Lib.hid (own_ps HO9.out HP9.out hk (by decide))
     have HKa := Lib.hid (HK9.out.trans hk)
     clear hp hk HT1
     go_wp2
     go_roundw
     case rel => exact ⟨true, acc ++ [⟨s, 2⟩], q2.tail, n, u, rfl, Lib.hid (fun _ => ⟨HGO3.out, by have := HL6.out; have := HQ3.out; omega⟩), Lib.hid (fun h => by cases h), by have := HL6.out; have := HQ3.out; simp; omega, HPa, HXa, HRa, HOa, HKa⟩
     case measure => have := HL6.out; have := HQ3.out; rw [HPa.out.left, HM.out]; omega
end Go.Proofs.YtnjjajanfedjiaaGreatDoor
namespace Go.Proofs.YtnjjajanfedjiaaGreatDoor
open Go.RowKit Go.BigFrame
attribute [local go_sem] bs_size bs_extract bs_append bs_toList
def jbCells (j : Jb) (v2 v3 v4 : Value) : Array Value :=
 #[.int .i64 j.at_, .int .i64 j.code, v2, v3, v4, .string (bs j.op), .string (bs j.left.col), .int .i64 j.left.val.kind, .int .i64 j.left.val.num, .string (bs j.left.val.word), .string (bs j.right.col), .int .i64 j.right.val.kind, .int .i64 j.right.val.num, .string (bs j.right.val.word), .int .i64 j.retry]
def Apart (u v : Value) : Prop := ∀ g, u.ownBlock = some g → v.ownBlock ≠ some g
theorem Apart.symm {u v : Value} (h : Apart u v) : Apart v u := fun g hg hu => h g hu hg
structure JbIs (W : World) (base jb : Nat) (j : Jb) (v2 v3 v4 : Value) : Prop where
 blk : Blk W jb 45 (jbCells j v2 v3 v4)
 o2 : W.ownsRow base 9 1 v2 j.outs.length (strs j.outs)
 o3 : W.ownsRow base 9 1 v3 j.ins.length (strs j.ins)
 o4 : W.ownsRow base 9 1 v4 j.cols.length (strs j.cols)
 n23 : Apart v2 v3
 n24 : Apart v2 v4
 n34 : Apart v3 v4
section
variable {W W' W7 w0 : World} {base jb b g H cap n size : Nat} {j : Jb} {v2 v3 v4 u : Value} {l : List Tk} {a : Bs} {o : Obj} {L : List Nat} {xs : List Value} {e : TypeId}
theorem own_far {t : TypeId} (h : W.ownsRow base e size u n xs) (hk : Keeps L W W') (hL : ∀ x ∈ L, OfTy W x t) (ht : e ≠ t) : W'.ownsRow base e size u n xs :=
 own_keep h hk (fun g hg hm => (own_ty h g hg).ne (hL g hm) ht rfl)
theorem JbIs.far {t : TypeId} (h : JbIs W base jb j v2 v3 v4) (hk : Keeps L W W') (hL : ∀ x ∈ L, OfTy W x t) (h1 : 9 ≠ t) (h2 : 45 ≠ t) : JbIs W' base jb j v2 v3 v4 :=
 ⟨h.blk.keep hk (fun hm => h.blk.ty.ne (hL jb hm) h2 rfl), own_far h.o2 hk hL h1, own_far h.o3 hk hL h1, own_far h.o4 hk hL h1, h.n23, h.n24, h.n34⟩
theorem JbIs.keep (h : JbIs W base jb j v2 v3 v4) (hk : Keeps [] W W') : JbIs W' base jb j v2 v3 v4 :=
 h.far (t := 3) hk (fun x hx => by cases hx) (by decide) (by decide)
theorem JbIs.ps (h : JbIs W base jb j v2 v3 v4) (hp : Ps W b l) (hk : Keeps [b] W W') : JbIs W' base jb j v2 v3 v4 :=
 h.far hk (fun x hx => by rw [List.mem_singleton.1 hx]; exact hp.ty) (by decide) (by decide)
theorem JbIs.box {j' : Jb} (h : JbIs W base jb j v2 v3 v4) (hk : Keeps [jb] W W') (hb : Blk W' jb 45 (jbCells j' v2 v3 v4)) (e2 : j'.outs = j.outs) (e3 : j'.ins = j.ins) (e4 : j'.cols = j.cols) : JbIs W' base jb j' v2 v3 v4 := by
 have hL : ∀ x ∈ [jb], OfTy W x 45 := fun x hx => by rw [List.mem_singleton.1 hx]; exact h.blk.ty
 refine ⟨hb, ?_, ?_, ?_, h.n23, h.n24, h.n34⟩
 ·rw [e2]; exact own_far h.o2 hk hL (by decide)
 ·rw [e3]; exact own_far h.o3 hk hL (by decide)
 ·rw [e4]; exact own_far h.o4 hk hL (by decide)
theorem Ps.box (hp : Ps W b l) (h : JbIs W base jb j v2 v3 v4) (hk : Keeps [jb] W W') : Ps W' b l :=
 hp.far hk (fun x hx => ⟨45, by rw [List.mem_singleton.1 hx]; exact h.blk.ty, by decide, by decide⟩)
theorem Keeps.box (hk0 : Keeps [b] w0 W) (hjb : w0.heap.size ≤ jb) (hk : Keeps [jb] W W') : Keeps [b] w0 W' :=
 hk0.trans' hk (fun x hx hl => by rw [List.mem_singleton.1 hx] at hl; omega)
theorem JbIs.put4 {cs : List Bs} (h : JbIs W base jb j v2 v3 v4) (hr : W.ownsRow base 9 1 u cs.length (strs cs)) (h2 : Apart v2 u) (h3 : Apart v3 u) : JbIs (W.setCell ⟨jb, 4, none⟩ u) base jb { j with cols := cs } v2 v3 u := by
 have hk : Keeps [jb] W (W.setCell ⟨jb, 4, none⟩ u) := (Keeps.refl _ _).setCell (.inl (by simp)) _
 have hL : ∀ x ∈ [jb], OfTy W x 45 := fun x hx => by rw [List.mem_singleton.1 hx]; exact h.blk.ty
 exact ⟨(h.blk.set 4 u).congr rfl, own_far h.o2 hk hL (by decide), own_far h.o3 hk hL (by decide), own_far hr hk hL (by decide), h.n23, h2, h3⟩
theorem JbIs.put2 {cs : List Bs} (h : JbIs W base jb j v2 v3 v4) (hr : W.ownsRow base 9 1 u cs.length (strs cs)) (h3 : Apart u v3) (h4 : Apart u v4) : JbIs (W.setCell ⟨jb, 2, none⟩ u) base jb { j with outs := cs } u v3 v4 := by
 have hk : Keeps [jb] W (W.setCell ⟨jb, 2, none⟩ u) := (Keeps.refl _ _).setCell (.inl (by simp)) _
 have hL : ∀ x ∈ [jb], OfTy W x 45 := fun x hx => by rw [List.mem_singleton.1 hx]; exact h.blk.ty
 exact ⟨(h.blk.set 2 u).congr rfl, own_far hr hk hL (by decide), own_far h.o3 hk hL (by decide), own_far h.o4 hk hL (by decide), h3, h4, h.n34⟩
theorem Apart.new (h : W.ownsRow base e size u n xs) (hu : ∀ g, v2.ownBlock = some g → W.heap.size ≤ g) : Apart u v2 := fun g hg hv => by
 have h1 := (h.lt g hg).2
 have h2 := hu g hv
 omega
theorem own_grow (h : W.ownsRow base e size v2 n xs) (hg : (W.alloc o).grownBy W7 u.ownBlock) (ha : Apart v2 u) : W7.ownsRow base e size v2 n xs :=
 own_keep (L := u.ownBlock.toList) (h.alloc o) (Keeps.grown (Keeps.refl _ _) hg (fun g hg => .inl (by rw [hg]; simp))) (fun g hv hm => by
  have : u.ownBlock = some g := by
   cases hu : u.ownBlock with
   | none => rw [hu] at hm; cases hm
   | some x => rw [hu] at hm; simp at hm; rw [hm]
  exact ha g hv this)
theorem apart_app {u' : Value} {p q : Nat} (h : W.ownsRow base e size v2 n xs) (ha : Apart v2 u) (hu : u' = .slice (some ⟨g, 0, none⟩) p q) (hat : u.ownBlock = some g ∨ g = H) (hH : W.heap.size ≤ H) : Apart v2 u' := fun x hx hx' => by
 subst hu
 have hgx : g = x := by simpa [Value.ownBlock] using hx'
 subst hgx
 rcases hat with h1 | h1
 ·exact ha _ hx h1
 ·have := (h.lt _ hx).2
  omega
end
section
variable {W W' W7 w0 : World} {base jb b g H cap m : Nat} {j : Jb} {v2 v3 v4 u : Value} {l : List Tk} {a : Bs} {o : Obj}
theorem jb_grown (h : JbIs W base jb j v2 v3 v4) {v : Value} (hg : (W.alloc o).grownBy W7 v.ownBlock) (hv : ∀ x, v.ownBlock = some x → OfTy W x 9) : Blk W7 jb 45 (jbCells j v2 v3 v4) :=
 (hg.block jb (h.blk.alloc o).lt (fun e => (hv jb e.symm).ne h.blk.ty (by decide) rfl)).trans (h.blk.alloc o)
theorem ps_grown (hp : Ps W b l) {v : Value} (hg : (W.alloc o).grownBy W7 v.ownBlock) (hv : ∀ x, v.ownBlock = some x → OfTy W x 9) : Ps W7 b l :=
 (hp.keep ((Keeps.refl _ _).alloc o)).grown hg (fun x hx => (hv x hx).keep ((Keeps.refl [] _).alloc o) (by simp)) (by decide) (by decide)
theorem JbIs.app3 (h : JbIs W base jb j v2 v3 v4) (hp : Ps W b l) (hk0 : Keeps [b] w0 W) (hb : base = w0.heap.size) (hjb : base ≤ jb) (hg : (W.alloc o).grownBy W7 v3.ownBlock) (hu : u = .slice (some ⟨g, 0, none⟩) m cap) (hown : W7.ownsRow base 9 1 u (j.ins.length + 1) (strs j.ins ++ [.string (bs a)])) (hat : v3.ownBlock = some g ∨ g = H) (hH : W.heap.size ≤ H) :
  JbIs (W7.setCell ⟨jb, 3, none⟩ u) base jb { j with ins := j.ins ++ [a] } v2 u v4 ∧ Ps (W7.setCell ⟨jb, 3, none⟩ u) b l ∧ Keeps [b] w0 (W7.setCell ⟨jb, 3, none⟩ u) := by
 have hbk := jb_grown h hg (own_ty h.o3)
 have hk : Keeps [jb] W7 (W7.setCell ⟨jb, 3, none⟩ u) := (Keeps.refl _ _).setCell (.inl (by simp)) _
 have hL : ∀ x ∈ [jb], OfTy W7 x 45 := fun x hx => by rw [List.mem_singleton.1 hx]; exact hbk.ty
 rw [← strs_snoc] at hown
 have hown' : W7.ownsRow base 9 1 u (j.ins ++ [a]).length (strs (j.ins ++ [a])) := by rw [List.length_append]; exact hown
 refine ⟨⟨(hbk.set 3 u).congr rfl, own_far (own_grow h.o2 hg h.n23) hk hL (by decide), own_far hown' hk hL (by decide), own_far (own_grow h.o4 hg h.n34.symm) hk hL (by decide), ?_, h.n24, ?_⟩, ?_, ?_⟩
 ·exact apart_app h.o2 h.n23 hu hat hH
 ·exact (apart_app h.o4 h.n34.symm hu hat hH).symm
 ·exact (ps_grown hp hg (own_ty h.o3)).far hk (fun x hx => ⟨45, hL x hx, by decide, by decide⟩)
 ·exact ((hk0.alloc o).grown hg (fun x hx => .inr (by rw [← hb]; exact (h.o3.lt x hx).1))).setCell (.inr (by rw [← hb]; exact hjb)) _
theorem JbIs.app4 (h : JbIs W base jb j v2 v3 v4) (hp : Ps W b l) (hk0 : Keeps [b] w0 W) (hb : base = w0.heap.size) (hjb : base ≤ jb) (hg : (W.alloc o).grownBy W7 v4.ownBlock) (hu : u = .slice (some ⟨g, 0, none⟩) m cap) (hown : W7.ownsRow base 9 1 u (j.cols.length + 1) (strs j.cols ++ [.string (bs a)])) (hat : v4.ownBlock = some g ∨ g = H) (hH : W.heap.size ≤ H) :
  JbIs (W7.setCell ⟨jb, 4, none⟩ u) base jb { j with cols := j.cols ++ [a] } v2 v3 u ∧ Ps (W7.setCell ⟨jb, 4, none⟩ u) b l ∧ Keeps [b] w0 (W7.setCell ⟨jb, 4, none⟩ u) := by
 have hbk := jb_grown h hg (own_ty h.o4)
 have hk : Keeps [jb] W7 (W7.setCell ⟨jb, 4, none⟩ u) := (Keeps.refl _ _).setCell (.inl (by simp)) _
 have hL : ∀ x ∈ [jb], OfTy W7 x 45 := fun x hx => by rw [List.mem_singleton.1 hx]; exact hbk.ty
 rw [← strs_snoc] at hown
 have hown' : W7.ownsRow base 9 1 u (j.cols ++ [a]).length (strs (j.cols ++ [a])) := by rw [List.length_append]; exact hown
 refine ⟨⟨(hbk.set 4 u).congr rfl, own_far (own_grow h.o2 hg h.n24) hk hL (by decide), own_far (own_grow h.o3 hg h.n34) hk hL (by decide), own_far hown' hk hL (by decide), h.n23, ?_, ?_⟩, ?_, ?_⟩
 ·exact apart_app h.o2 h.n24 hu hat hH
 ·exact apart_app h.o3 h.n34 hu hat hH
 ·exact (ps_grown hp hg (own_ty h.o4)).far hk (fun x hx => ⟨45, hL x hx, by decide, by decide⟩)
 ·exact ((hk0.alloc o).grown hg (fun x hx => .inr (by rw [← hb]; exact (h.o4.lt x hx).1))).setCell (.inr (by rw [← hb]; exact hjb)) _
end
theorem Keeps.undrew {w w' : World} {L : List Nat} (h : Keeps L w.drew w') : Keeps L w w' := ⟨h.os, h.output, h.size, h.block⟩
theorem fake_way {Q : Exit → Act → World → Prop} {c} {a0 : Act} {w : World} {F K : Act → World → Prop} (_ : ∀ a w, F a w → K a w) (d : Option Nat) (v : Value) (hX : Q (.panic c) a0 w) (_ : Hid False → F (a0.put d v) w) : Q (.panic c) a0 w := hX
theorem finP_le {r q : List Tk} {v u : Vl} (h : finP r v = .ok (u, q)) : q.length ≤ r.length := by
 unfold finP at h
 split at h
 ·injection h with h
  injection h with _ h
  rw [← h, List.length_tail]
  omega
 ·cases h
theorem val1P_le {neg : Bool} {r q : List Tk} {u : Vl} (h : val1P neg r = .ok (u, q)) : q.length ≤ r.length := by
 unfold val1P at h
 split at h
 ·cases h
 ·split at h
  ·exact finP_le h
  ·split at h
   ·split at h
    ·exact finP_le h
    ·cases h
   ·cases h
theorem argP_le {l r : List Tk} {a : Ar} (h : argP l = .ok (a, r)) : r.length ≤ l.length := by
 unfold argP at h
 split at h
 ·rcases hN : nameP l with x | ⟨s, r1⟩
  ·rw [hN] at h; cases h
  ·rw [hN, ok_bind] at h
   injection h with h
   injection h with _ h
   rw [← h, nameP_len hN]
   omega
 ·rcases hN : valueP l with x | ⟨v, r1⟩
  ·rw [hN] at h; cases h
  ·rw [hN, ok_bind] at h
   injection h with h
   injection h with _ h
   rw [← h]
   unfold valueP at hN
   split at hN
   ·exact Nat.le_trans (val1P_le hN) (by rw [List.length_tail]; omega)
   ·exact val1P_le hN
def JbOut (R : Except (Int × Int) (Jb × List Tk)) (b base jb : Nat) (e : Ending) (w' : World) : Prop := match R with
 | .ok (j, r) => e = .returned (.tuple #[]) ∧ (∃ v2 v3 v4, JbIs w' base jb j v2 v3 v4) ∧ Ps w' b r
 | .error x => Thrown x e w'
end Go.Proofs.YtnjjajanfedjiaaGreatDoor
namespace Go.Proofs.YtnjjajanfedjiaaGreatDoor
open Go.RowKit Go.BigFrame
attribute [local go_sem] bs_size bs_extract bs_append bs_toList
set_option maxRecDepth 100000 in
set_option maxHeartbeats 8000000 in
theorem where_any {l : List Tk} {b jb lo : Nat} {v2 v3 v4 : Value} (at_ code : Int) (outs ins cols : List Bs) (op : Bs) (left right : Ar) (retry : Int) (w0 w : World) (hE : FB w0 lo) (hlo : lo ≤ b) (h : Ps w b l) (hk : Keeps [b] w0 w) (hjb : w0.heap.size ≤ jb) (hj : JbIs w w0.heap.size jb ⟨at_, code, outs, ins, cols, op, left, right, retry⟩ v2 v3 v4) (hl3 : ins.length ≤ 1000000) (hl4 : cols.length ≤ 1000000) (hll : l.length ≤ 1000000) :
  Calls Tryz.prog 151 #[.pointer (some ⟨b, 0, none⟩), .pointer (some ⟨jb, 0, none⟩)] w fun e w' => JbOut (whereP ⟨at_, code, outs, ins, cols, op, left, right, retry⟩ l) b w0.heap.size jb e w' ∧ Keeps [b] w0 w' := by
 obtain ⟨i0, hi, hz0, hz1, hz2⟩ := info_parts sinf
 obtain ⟨R, hR⟩ : ∃ R, whereP ⟨at_, code, outs, ins, cols, op, left, right, retry⟩ l = R := ⟨_, rfl⟩
 rw [hR]
 unfold whereP at hR
 try unfold cmpL at hR
 have HR := Lib.hid hR
 have HE := Lib.hid hE
 have HP := Lib.hid h
 have HK := Lib.hid hk
 have HJ := Lib.hid hj
 have HJB := Lib.hid hjb
 have HL3 := Lib.hid hl3
 have HL4 := Lib.hid hl4
 have HLL := Lib.hid hll
 have HLQ := Lib.hid (Nat.le_refl l.length)
 clear hR hE h hk hj hl3 hl4 hll hjb
 go_enter Tryz.func151, Tryz.ntmps151
 rcases hS : mustP [119, 104, 101, 114, 101] l with x | r1
 ·have hr := HR.out
  rw [hS, err_bind] at hr
  have HX := Lib.hid hr.symm
  have HC := Lib.hid (must_no hS w HP.out)
  clear hr hS
  go_wp2_with fail
  refine HC.out.mono ?_
  rintro ev w9 ⟨⟨gi, rfl, hb⟩, hk9⟩
  exact ⟨rfl, by rw [HX.out]; exact ⟨gi, rfl, hb⟩, HK.out.trans hk9⟩
 have hr := HR.out
 rw [hS, ok_bind] at hr
 try dsimp only at hr
 clear HR
 have HR := Lib.hid hr
 clear hr
 have HC := Lib.hid (must_yes hS w HP.out)
 have HLR : Hid (r1.length ≤ l.length) := Lib.hid (by have := HLQ.out; have := mustP_len hS; omega)
 clear hS HLQ
 have HLQ := HLR
 clear HLR
 go_wp2_with fail
 refine HC.out.mono ?_
 rintro ev y1 ⟨rfl, hp, hk⟩
 have HJ' := Lib.hid (HJ.out.ps HP.out hk)
 have HK' := Lib.hid (HK.out.trans hk)
 clear HP HJ HK HC
 have HP := Lib.hid hp
 have HJ := HJ'
 have HK := HK'
 clear hp hk HJ' HK'
 rcases hS : nameP r1 with x | ⟨a2, r2⟩
 ·have hr := HR.out
  rw [hS, err_bind] at hr
  have HX := Lib.hid hr.symm
  have HC := Lib.hid (name_no hS y1 HP.out)
  clear hr hS
  go_wp2_with fail
  refine HC.out.mono ?_
  rintro ev w9 ⟨⟨gi, rfl, hb⟩, hk9⟩
  exact ⟨rfl, by rw [HX.out]; exact ⟨gi, rfl, hb⟩, HK.out.trans hk9⟩
 have hr := HR.out
 rw [hS, ok_bind] at hr
 try dsimp only at hr
 clear HR
 have HR := Lib.hid hr
 clear hr
 have HC := Lib.hid (name_yes hS y1 HP.out)
 have HLR : Hid (r2.length ≤ l.length) := Lib.hid (by have := HLQ.out; have := nameP_len hS; omega)
 clear hS HLQ
 have HLQ := HLR
 clear HLR
 go_wp2_with fail
 refine HC.out.mono ?_
 rintro ev y2 ⟨rfl, hp, hk⟩
 have HJ' := Lib.hid (HJ.out.ps HP.out hk)
 have HK' := Lib.hid (HK.out.trans hk)
 clear HP HJ HK HC
 have HP := Lib.hid hp
 have HJ := HJ'
 have HK := HK'
 clear hp hk HJ' HK'
 have jf6 := HJ.out.blk.frozen 6
 have jc6 : y2.cell? ⟨jb, 6, none⟩ = some (.string (bs left.col)) := HJ.out.blk.cell 6
 have jf7 := HJ.out.blk.frozen 7
 have jc7 : y2.cell? ⟨jb, 7, none⟩ = some (.int .i64 left.val.kind) := HJ.out.blk.cell 7
 have jf8 := HJ.out.blk.frozen 8
 have jc8 : y2.cell? ⟨jb, 8, none⟩ = some (.int .i64 left.val.num) := HJ.out.blk.cell 8
 have jf9 := HJ.out.blk.frozen 9
 have jc9 : y2.cell? ⟨jb, 9, none⟩ = some (.string (bs left.val.word)) := HJ.out.blk.cell 9
 have lj := HJ.out.blk.lt
 have hkb : Keeps [jb] y2 ((((y2.setCell ⟨jb, 6, none⟩ (.string (bs a2))).setCell ⟨jb, 7, none⟩ (.int .i64 0)).setCell ⟨jb, 8, none⟩ (.int .i64 0)).setCell ⟨jb, 9, none⟩ (.string ⟨#[]⟩)) := ((((Keeps.refl _ _).setCell (.inl (by simp)) _).setCell (.inl (by simp)) _).setCell (.inl (by simp)) _).setCell (.inl (by simp)) _
 have HJ' : Hid (JbIs ((((y2.setCell ⟨jb, 6, none⟩ (.string (bs a2))).setCell ⟨jb, 7, none⟩ (.int .i64 0)).setCell ⟨jb, 8, none⟩ (.int .i64 0)).setCell ⟨jb, 9, none⟩ (.string ⟨#[]⟩)) w0.heap.size jb (⟨at_, code, outs, ins, cols, op, ⟨a2, zV⟩, right, retry⟩ : Jb) v2 v3 v4) := Lib.hid (HJ.out.box hkb (((((HJ.out.blk.set 6 (.string (bs a2))).set 7 (.int .i64 0)).set 8 (.int .i64 0)).set 9 (.string ⟨#[]⟩)).congr (by rfl)) rfl rfl rfl)
 have HP' := Lib.hid (HP.out.box HJ.out hkb)
 have HK' := Lib.hid (HK.out.box HJB.out hkb)
 clear hkb
 go_upto_region 2 with (fail)
 obtain ⟨y3, hy⟩ : ∃ x, ((((y2.setCell ⟨jb, 6, none⟩ (.string (bs a2))).setCell ⟨jb, 7, none⟩ (.int .i64 0)).setCell ⟨jb, 8, none⟩ (.int .i64 0)).setCell ⟨jb, 9, none⟩ (.string ⟨#[]⟩)) = x := ⟨_, rfl⟩
 rw [hy] at HJ' HP' HK' ⊢
 clear hy jf6 jc6 jf7 jc7 jf8 jc8 jf9 jc9 lj HJ HP HK
 have HJ := HJ'
 have HP := HP'
 have HK := HK'
 clear HJ' HP' HK'
 have HJ' := Lib.hid (HJ.out.keep ((Keeps.refl _ _).alloc (.cells #[.string (bs [60, 62]), .string (bs [60, 61]), .string (bs [62, 61]), .string (bs [60]), .string (bs [62]), .string (bs [61])] 9)))
 have HP' := Lib.hid (HP.out.keep ((Keeps.refl _ _).alloc (.cells #[.string (bs [60, 62]), .string (bs [60, 61]), .string (bs [62, 61]), .string (bs [60]), .string (bs [62]), .string (bs [61])] 9)))
 have HK' := Lib.hid (HK.out.alloc (.cells #[.string (bs [60, 62]), .string (bs [60, 61]), .string (bs [62, 61]), .string (bs [60]), .string (bs [62]), .string (bs [61])] 9))
 have HRD : Hid (Rd (y3.alloc (.cells #[.string (bs [60, 62]), .string (bs [60, 61]), .string (bs [62, 61]), .string (bs [60]), .string (bs [62]), .string (bs [61])] 9)) [b] 1 (some ⟨y3.heap.size, 0, none⟩) 6 (strs [[60, 62], [60, 61], [62, 61], [60], [62], [61]])) := Lib.hid (rd_lit [[60, 62], [60, 61], [62, 61], [60], [62], [61]] (Blk.new y3 9 #[.string (bs [60, 62]), .string (bs [60, 61]), .string (bs [62, 61]), .string (bs [60]), .string (bs [62]), .string (bs [61])]) (by have := HP.out.lt; omega))
 clear HJ HP HK
 have HJ := HJ'
 have HP := HP'
 have HK := HK'
 clear HJ' HP' HK'
 go_wp2_with fail
 rcases hS : oneP [[60, 62], [60, 61], [62, 61], [60], [62], [61]] r2 with x | ⟨a4, r4⟩
 ·have hr := HR.out
  rw [hS, err_bind] at hr
  have HX := Lib.hid hr.symm
  have HC := Lib.hid (one_no hS (some ⟨y3.heap.size, 0, none⟩) 6 _ HP.out HRD.out (by decide))
  clear hr hS
  skip
  refine HC.out.mono ?_
  rintro ev w9 ⟨⟨gi, rfl, hb⟩, hk9⟩
  exact ⟨rfl, by rw [HX.out]; exact ⟨gi, rfl, hb⟩, HK.out.trans hk9⟩
 have hr := HR.out
 rw [hS, ok_bind] at hr
 try dsimp only at hr
 clear HR
 have HR := Lib.hid hr
 clear hr
 have HC := Lib.hid (one_yes hS (some ⟨y3.heap.size, 0, none⟩) 6 _ HP.out HRD.out (by decide))
 have HLR : Hid (r4.length ≤ l.length) := Lib.hid (by have := HLQ.out; have := oneP_len hS; omega)
 clear hS HRD HLQ
 have HLQ := HLR
 clear HLR
 refine HC.out.mono ?_
 rintro ev y4 ⟨rfl, hp, hk⟩
 have HJ' := Lib.hid (HJ.out.ps HP.out hk)
 have HK' := Lib.hid (HK.out.trans hk)
 clear HP HJ HK HC
 have HP := Lib.hid hp
 have HJ := HJ'
 have HK := HK'
 clear hp hk HJ' HK'
 have jf5 := HJ.out.blk.frozen 5
 have jc5 : y4.cell? ⟨jb, 5, none⟩ = some (.string (bs op)) := HJ.out.blk.cell 5
 have lj := HJ.out.blk.lt
 have hkb : Keeps [jb] y4 (y4.setCell ⟨jb, 5, none⟩ (.string (bs a4))) := (Keeps.refl _ _).setCell (.inl (by simp)) _
 have HJ' : Hid (JbIs (y4.setCell ⟨jb, 5, none⟩ (.string (bs a4))) w0.heap.size jb (⟨at_, code, outs, ins, cols, a4, ⟨a2, zV⟩, right, retry⟩ : Jb) v2 v3 v4) := Lib.hid (HJ.out.box hkb ((HJ.out.blk.set 5 (.string (bs a4))).congr (by rfl)) rfl rfl rfl)
 have HP' := Lib.hid (HP.out.box HJ.out hkb)
 have HK' := Lib.hid (HK.out.box HJB.out hkb)
 clear hkb
 go_upto_region 3 with (fail)
 obtain ⟨y5, hy⟩ : ∃ x, (y4.setCell ⟨jb, 5, none⟩ (.string (bs a4))) = x := ⟨_, rfl⟩
 rw [hy] at HJ' HP' HK' ⊢
 clear hy jf5 jc5 lj HJ HP HK
 have HJ := HJ'
 have HP := HP'
 have HK := HK'
 clear HJ' HP' HK'
 have HC := Lib.hid (farg_any y5 (HE.out.one hlo HK.out) hlo HP.out)
 rcases hS : argP r4 with x | ⟨a6, r6⟩
 ·have hr := HR.out
  rw [hS, err_bind] at hr
  have HX := Lib.hid hr.symm
  have hc := HC.out
  rw [hS] at hc
  have HC2 := Lib.hid hc
  clear hr hS hc HC
  go_wp2_with fail
  refine HC2.out.mono ?_
  rintro ev w9 ⟨⟨gi, rfl, hb⟩, hk9⟩
  exact ⟨rfl, by rw [HX.out]; exact ⟨gi, rfl, hb⟩, HK.out.trans hk9⟩
 have hr := HR.out
 rw [hS, ok_bind] at hr
 try dsimp only at hr
 clear HR
 have HR := Lib.hid hr
 clear hr
 have hc := HC.out
 rw [hS] at hc
 clear HC
 have HC := Lib.hid hc
 have HLR : Hid (r6.length ≤ l.length) := Lib.hid (Nat.le_trans (argP_le hS) HLQ.out)
 clear hS hc HLQ
 have HLQ := HLR
 clear HLR
 go_wp2_with fail
 refine HC.out.mono ?_
 rintro ev y6 ⟨⟨he, hp⟩, hk⟩
 have he2 : ev = .returned (.agg #[.string (bs a6.col), .int .i64 a6.val.kind, .int .i64 a6.val.num, .string (bs a6.val.word)]) := he
 subst he2
 clear he
 have HJ' := Lib.hid (HJ.out.ps HP.out hk)
 have HK' := Lib.hid (HK.out.trans hk)
 clear HP HJ HK HC
 have HP := Lib.hid hp
 have HJ := HJ'
 have HK := HK'
 clear hp hk HJ' HK'
 have jf10 := HJ.out.blk.frozen 10
 have jc10 : y6.cell? ⟨jb, 10, none⟩ = some (.string (bs right.col)) := HJ.out.blk.cell 10
 have jf11 := HJ.out.blk.frozen 11
 have jc11 : y6.cell? ⟨jb, 11, none⟩ = some (.int .i64 right.val.kind) := HJ.out.blk.cell 11
 have jf12 := HJ.out.blk.frozen 12
 have jc12 : y6.cell? ⟨jb, 12, none⟩ = some (.int .i64 right.val.num) := HJ.out.blk.cell 12
 have jf13 := HJ.out.blk.frozen 13
 have jc13 : y6.cell? ⟨jb, 13, none⟩ = some (.string (bs right.val.word)) := HJ.out.blk.cell 13
 have lj := HJ.out.blk.lt
 have hkb : Keeps [jb] y6 ((((y6.setCell ⟨jb, 10, none⟩ (.string (bs a6.col))).setCell ⟨jb, 11, none⟩ (.int .i64 a6.val.kind)).setCell ⟨jb, 12, none⟩ (.int .i64 a6.val.num)).setCell ⟨jb, 13, none⟩ (.string (bs a6.val.word))) := ((((Keeps.refl _ _).setCell (.inl (by simp)) _).setCell (.inl (by simp)) _).setCell (.inl (by simp)) _).setCell (.inl (by simp)) _
 have HJ' : Hid (JbIs ((((y6.setCell ⟨jb, 10, none⟩ (.string (bs a6.col))).setCell ⟨jb, 11, none⟩ (.int .i64 a6.val.kind)).setCell ⟨jb, 12, none⟩ (.int .i64 a6.val.num)).setCell ⟨jb, 13, none⟩ (.string (bs a6.val.word))) w0.heap.size jb (⟨at_, code, outs, ins, cols, a4, ⟨a2, zV⟩, a6, retry⟩ : Jb) v2 v3 v4) := Lib.hid (HJ.out.box hkb (((((HJ.out.blk.set 10 (.string (bs a6.col))).set 11 (.int .i64 a6.val.kind)).set 12 (.int .i64 a6.val.num)).set 13 (.string (bs a6.val.word))).congr (by rfl)) rfl rfl rfl)
 have HP' := Lib.hid (HP.out.box HJ.out hkb)
 have HK' := Lib.hid (HK.out.box HJB.out hkb)
 clear hkb
 have HX := Lib.hid HR.out.symm
 clear HR
 go_wp2
 first | go_end0 | refine bodyPost_ret (results_none rfl _ _ _) rfl ?_
 exact ⟨by rw [HX.out]; exact ⟨rfl, ⟨_, _, _, HJ'.out⟩, HP'.out⟩, HK'.out⟩
end Go.Proofs.YtnjjajanfedjiaaGreatDoor
