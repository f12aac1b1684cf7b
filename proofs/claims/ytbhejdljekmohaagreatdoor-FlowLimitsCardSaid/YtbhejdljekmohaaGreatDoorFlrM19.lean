/- The reference's input. A job that is being read by the reference's reader, in memory. The reference's body, code 0. -/
import Derived.Test.YtbhejdljekmohaaGreatDoorFlrM18
import Derived.Deep.DeepCutAuto
namespace Go.Proofs.YtbhejdljekmohaaGreatDoor
open Go.RowKit Go.BigFrame
attribute [local go_sem] bs_size bs_extract bs_append bs_toList
theorem Rl.must {α : Type} {s : Bs} {S : List Tk → Except (Int × Int) (α × List Tk)} {l l1 l2 : List Tk} {x x1 x2 : Option (Int × Int)} {c : α} (h : Rl (mustU s) l x () l1 x1) (k : Rl S l1 x1 c l2 x2) : Rl (fun r => mustP s r >>= S) l x c l2 x2 := by
  have e : (fun r => mustP s r >>= S) = fun r => mustU s r >>= fun p => (fun (_ : Unit) r => S r) p.1 p.2 := by
    funext r
    unfold mustU
    rcases mustP s r with z | q <;> rfl
  rw [e]
  exact Rl.bind (Q := fun _ r => S r) h k
theorem Rl.congr {α : Type} {P S : List Tk → Except (Int × Int) (α × List Tk)} {l l' : List Tk} {x x' : Option (Int × Int)} {a : α} (h : P l = S l) (k : Rl S l x a l' x') : Rl P l x a l' x' := by
  cases x' with
  | none => exact ⟨k.1, h.trans k.2⟩
  | some y =>
    cases x with
    | none =>
      have : S l = .error y := k
      exact h.trans this
    | some z => exact k
theorem must_seen {s : Bs} {l l1 : List Tk} {x1 : Option (Int × Int)} (h : Rl (mustU s) l none () l1 x1) (hs : seeP s l = true) : l1 = l.tail ∧ x1 = none := by
  have e : mustU s l = .ok ((), l.tail) := by
    unfold mustU mustP
    rw [if_pos hs]
    rfl
  cases x1 with
  | none =>
    have h2 := h.2
    rw [e] at h2
    injection h2 with h2
    injection h2 with _ h2
    exact ⟨h2.symm, rfl⟩
  | some y =>
    have h2 : mustU s l = .error y := h
    rw [e] at h2
    cases h2
theorem one_mem {ws : List Bs} {l l' : List Tk} {s : Bs} {x : Option (Int × Int)} (h : Rl (oneP ws) l x s l' none) : s ∈ ws := by
  obtain ⟨_, hi, _, e, _⟩ := oneP_ok h.2
  have h2 := h.2
  unfold oneP at h2
  split at h2
  · cases h2
  · rename_i k hk
    injection h2 with h2
    injection h2 with h2 _
    rw [← h2]
    have : k < ws.length := by
      have key : ∀ (ws : List Bs) (k : Nat), seenI l ws = some k → k < ws.length := by
        intro ws
        induction ws with
        | nil => intro k h; cases h
        | cons a ws ih =>
          intro k h
          unfold seenI at h
          split at h
          · injection h with h; subst h; simp
          · cases hs : seenI l ws with
            | none => rw [hs] at h; cases h
            | some j =>
              rw [hs] at h
              injection h with h
              subst h
              have := ih j hs
              simp
              omega
      exact key ws k hk
    rw [List.getD_eq_getElem?_getD, List.getElem?_eq_getElem this]
    exact List.getElem_mem this
theorem cols_stage {β : Type} (n : Nat) (r : List Tk) (acc : List Cl) (F : List Cl × List Tk → Except (Int × Int) (β × List Tk)) : (colsGo (n + 1) r acc >>= F) = (nameP r >>= fun p => oneP [[105, 110, 116], [116, 101, 120, 116]] p.2 >>= fun k => (if seeP [44] k.2 then colsGo n k.2.tail (acc ++ [⟨p.1, if k.1 = [116, 101, 120, 116] then 2 else 1⟩]) else .ok (acc ++ [⟨p.1, if k.1 = [116, 101, 120, 116] then 2 else 1⟩], k.2)) >>= F) := by
  rw [colsGo_succ]
  rcases nameP r with x | ⟨s, r⟩
  · rfl
  · rw [ok_bind, ok_bind]
    simp only
    rcases oneP [[105, 110, 116], [116, 101, 120, 116]] r with x | ⟨k, r2⟩
    · rfl
    · rfl
def inS4 (at_ : Int) (nm : Bs) (cs : List Cl) : List Tk → Except (Int × Int) (In × List Tk) := fun r => mustP [59] r >>= fun r => .ok (⟨at_, nm, cs⟩, r)
def inS3 (at_ : Int) (nm : Bs) : List Tk → Except (Int × Int) (In × List Tk) := fun r => colsGo r.length r [] >>= fun p => inS4 at_ nm p.1 p.2
def inS2 (at_ : Int) (nm : Bs) : List Tk → Except (Int × Int) (In × List Tk) := fun r => mustP [58] r >>= inS3 at_ nm
def inS1 (at_ : Int) : List Tk → Except (Int × Int) (In × List Tk) := fun r => nameP r >>= fun p => inS2 at_ p.1 p.2
def inT2 (at_ : Int) (nm : Bs) (n : Nat) (acc : List Cl) (s k : Bs) : List Tk → Except (Int × Int) (In × List Tk) := fun r => (if seeP [44] r then colsGo n r.tail (acc ++ [⟨s, if k = [116, 101, 120, 116] then 2 else 1⟩]) else .ok (acc ++ [⟨s, if k = [116, 101, 120, 116] then 2 else 1⟩], r)) >>= fun p => inS4 at_ nm p.1 p.2
def inT1 (at_ : Int) (nm : Bs) (n : Nat) (acc : List Cl) (s : Bs) : List Tk → Except (Int × Int) (In × List Tk) := fun r => oneP [[105, 110, 116], [116, 101, 120, 116]] r >>= fun k => inT2 at_ nm n acc s k.1 k.2
def kdI (k : Bs) : Int := if k = [105, 110, 116] then 1 else 2
set_option maxRecDepth 100000 in
set_option maxHeartbeats 8000000 in
theorem rinput_any {l : List Tk} {b lo : Nat} {x : Option (Int × Int)} (w : World) (hE : RB w lo) (hlo : lo ≤ b) (h : RdIs w b l x) (hll : l.length ≤ 1000000) :
    Calls Tryz.prog 17 #[.pointer (some ⟨b, 0, none⟩)] w fun e w' => ∃ i v l' x', e = .returned (.agg #[.int .i64 i.at_, .string (bs i.name), v]) ∧ w'.ownsRow w.heap.size 98 2 v i.cols.length (csCells i.cols) ∧ RdIs w' b l' x' ∧ Rl inputP l x i l' x' ∧ l'.length ≤ l.length ∧ (x = none → seeP [105, 110] l = true → l'.length < l.length) ∧ Keeps [b] w w' := by
  obtain ⟨i0, hi, hz0, hz1, hz2⟩ := info_parts cinf
  have HLL := Lib.hid hll
  obtain ⟨at_, hat⟩ : ∃ at_, (hdT l).at_ = at_ := ⟨_, rfl⟩
  have HIM : Hid (∀ i l' x', Rl (fun r => mustP [105, 110] r >>= inS1 at_) l x i l' x' → Rl inputP l x i l' x') := Lib.hid (fun i l' x' hq => Rl.congr (by rw [← hat]; rfl) hq)
  have HLQ := Lib.hid (Nat.le_refl l.length)
  obtain ⟨g, o, c, c0, c1, c2, -, lb, lg, -, hn, hc, hc2, k0, k1, k2, -⟩ := h.open'
  rw [hat] at k2
  have hn2 : (0 : Int) < (l.length : Int) := by omega
  have HW := Lib.hid (fsz w (.cells #[.int .i64 0, .string ⟨#[]⟩, .slice none 0 0] 62))
  have HRB := Lib.hid ((Blk.new w 62 #[.int .i64 0, .string ⟨#[]⟩, .slice none 0 0]).alloc (.cells #[.int .i64 at_, .string ⟨#[]⟩, .slice none 0 0] 62))
  have hxb := Blk.new (w.alloc (.cells #[.int .i64 0, .string ⟨#[]⟩, .slice none 0 0] 62)) 62 #[.int .i64 at_, .string ⟨#[]⟩, .slice none 0 0]
  rw [fsz] at hxb
  have HXB := Lib.hid hxb
  have hk0 := ((Keeps.refl [] w).alloc (.cells #[.int .i64 0, .string ⟨#[]⟩, .slice none 0 0] 62)).alloc (.cells #[.int .i64 at_, .string ⟨#[]⟩, .slice none 0 0] 62)
  have HK := Lib.hid (Keeps.of_nil (L := [b]) hk0)
  have HXG : Hid (w.heap.size ≤ w.heap.size + 1) := Lib.hid (by omega)
  have HP := Lib.hid (h.keep hk0)
  have HE := Lib.hid (hE.quiet hk0)
  have HE0 := Lib.hid hE
  have HBW : Hid (b < w.heap.size) := Lib.hid lb
  clear h hat hxb hll hE hk0
  go_enter Tryz.func17, Tryz.ntmps17
  go_upto_region 2 with (fail)
  obtain ⟨w0, hw0⟩ : ∃ x, (w.alloc (.cells #[.int .i64 0, .string ⟨#[]⟩, .slice none 0 0] 62)).alloc (.cells #[.int .i64 at_, .string ⟨#[]⟩, .slice none 0 0] 62) = x := ⟨_, rfl⟩
  rw [hw0] at HRB HXB HK HP HE ⊢
  clear hw0 HW c0 c1 c2 lb lg hn hc hc2 k0 k1 k2 hn2
  obtain ⟨xb, hx⟩ : ∃ xb, w.heap.size + 1 = xb := ⟨_, rfl⟩
  rw [hx] at HXB HXG ⊢
  obtain ⟨rb, hr⟩ : ∃ rb, w.heap.size = rb := ⟨_, rfl⟩
  rw [hr] at HRB ⊢
  have HRX : Hid (rb ≠ xb ∧ w.heap.size ≤ rb) := Lib.hid (by omega)
  clear hx hr
  have HC := Lib.hid (rmust_any [105, 110] w0 HE.out.fine (HE.out.fne hlo) HP.out)
  go_wp2_with fail
  refine HC.out.mono ?_
  rintro ev y1 ⟨rfl, ⟨q1, x1, hp, hr, hll'⟩, hk⟩
  have HST : Hid (x = none → seeP [105, 110] l = true → q1.length < l.length) := Lib.hid (fun e hs => by
    subst e
    rw [(must_seen hr hs).1, List.length_tail]
    have := HP.out.endT.pos
    omega)
  have HIM' : Hid (∀ i l' x', Rl (inS1 at_) q1 x1 i l' x' → Rl inputP l x i l' x') := Lib.hid (fun i l' x' hq => HIM.out i l' x' (Rl.must hr hq))
  clear HIM hr
  have HIM := HIM'
  clear HIM'
  have HXB' := Lib.hid (far_rd HP.out hk HXB.out (by decide))
  have HRB' := Lib.hid (far_rd HP.out hk HRB.out (by decide))
  have HK' := Lib.hid (HK.out.trans hk)
  have HE' := Lib.hid (HE.out.one hlo hk)
  have HP' := Lib.hid hp
  clear HXB HRB HK HE HP hk hp HC
  have HXB := HXB'
  have HRB := HRB'
  have HK := HK'
  have HE := HE'
  have HP := HP'
  clear HXB' HRB' HK' HE' HP'
  have HLR := Lib.hid (Nat.le_trans hll' HLQ.out)
  clear hll' HLQ
  have HLQ := HLR
  clear HLR
  have HLQ1 := HLQ
  clear HLQ
  have HLQ : Hid (q1.length ≤ q1.length) := Lib.hid (Nat.le_refl _)
  have HC := Lib.hid (rname_any y1 HE.out.fine (HE.out.fne hlo) HP.out)
  go_wp2_with fail
  refine HC.out.mono ?_
  rintro ev y2 ⟨a2, q2, x2, rfl, hp, hr, hs, hll', hk⟩
  clear hs
  have HIM' : Hid (∀ i l' x', Rl (inS2 at_ a2) q2 x2 i l' x' → Rl inputP l x i l' x') := Lib.hid (fun i l' x' hq => HIM.out i l' x' (Rl.bind (Q := fun a => inS2 at_ a) hr hq))
  clear HIM hr
  have HIM := HIM'
  clear HIM'
  have HXB' := Lib.hid (far_rd HP.out hk HXB.out (by decide))
  have HRB' := Lib.hid (far_rd HP.out hk HRB.out (by decide))
  have HK' := Lib.hid (HK.out.trans hk)
  have HE' := Lib.hid (HE.out.one hlo hk)
  have HP' := Lib.hid hp
  clear HXB HRB HK HE HP hk hp HC
  have HXB := HXB'
  have HRB := HRB'
  have HK := HK'
  have HE := HE'
  have HP := HP'
  clear HXB' HRB' HK' HE' HP'
  have HLR := Lib.hid (Nat.le_trans hll' HLQ.out)
  clear hll' HLQ
  have HLQ := HLR
  clear HLR
  have e0 : y2.cell? ⟨xb, 1, none⟩ = some (.string ⟨#[]⟩) := HXB.out.cell 1
  have e1 := HXB.out.frozen 1
  have e2 := HXB.out.lt
  go_upto_region 4 with (fail)
  have HP' := Lib.hid (HP.out.set (i := 1) HXB.out (by decide) (by decide) (.string (bs a2)))
  have HRB' := Lib.hid (HRB.out.far (p := ⟨xb, 1, none⟩) HRX.out.1 (.string (bs a2)))
  have HXB' := Lib.hid ((HXB.out.set 1 (.string (bs a2))).congr (cs' := #[.int .i64 at_, .string (bs a2), .slice none 0 0]) rfl)
  have HK' := Lib.hid (HK.out.setCell (p := ⟨xb, 1, none⟩) (.inr HXG.out) (.string (bs a2)))
  have HE' := Lib.hid (HE.out.go (L := [xb]) ((Keeps.refl [xb] _).setCell (p := ⟨xb, 1, none⟩) (.inl (by simp)) (.string (bs a2))) (fun y hy => by rw [List.mem_singleton.1 hy]; have := HXG.out; have := HBW.out; omega))
  obtain ⟨y3, hy3⟩ : ∃ x, y2.setCell ⟨xb, 1, none⟩ (.string (bs a2)) = x := ⟨_, rfl⟩
  rw [hy3] at HP' HRB' HXB' HK' HE' ⊢
  clear hy3 e0 e1 e2 HP HRB HXB HK HE
  have HP := HP'
  have HRB := HRB'
  have HXB := HXB'
  have HK := HK'
  have HE := HE'
  clear HP' HRB' HXB' HK' HE'
  have HC := Lib.hid (rmust_any [58] y3 HE.out.fine (HE.out.fne hlo) HP.out)
  go_wp2_with fail
  refine HC.out.mono ?_
  rintro ev y4 ⟨rfl, ⟨q4, x4, hp, hr, hll'⟩, hk⟩
  have HIM' : Hid (∀ i l' x', Rl (inS3 at_ a2) q4 x4 i l' x' → Rl inputP l x i l' x') := Lib.hid (fun i l' x' hq => HIM.out i l' x' (Rl.must hr hq))
  clear HIM hr
  have HIM := HIM'
  clear HIM'
  have HXB' := Lib.hid (far_rd HP.out hk HXB.out (by decide))
  have HRB' := Lib.hid (far_rd HP.out hk HRB.out (by decide))
  have HK' := Lib.hid (HK.out.trans hk)
  have HE' := Lib.hid (HE.out.one hlo hk)
  have HP' := Lib.hid hp
  clear HXB HRB HK HE HP hk hp HC
  have HXB := HXB'
  have HRB := HRB'
  have HK := HK'
  have HE := HE'
  have HP := HP'
  clear HXB' HRB' HK' HE' HP'
  have HLR := Lib.hid (Nat.le_trans hll' HLQ.out)
  clear hll' HLQ
  have HLQ := HLR
  clear HLR
  have hqlen := Lib.hid (show q4.length ≤ l.length from Nat.le_trans HLQ.out HLQ1.out)
  go_upto_region 5 with (fail)
  go_cut [4] (fun m wx => ∃ mb, m = .bool mb ∧ Hid (mb = true → x4 = none ∧ q4.length ≤ q4.length ∧ ([] : List Cl).length + q4.length ≤ l.length ∧ ∀ i l' x', Rl (fun r => colsGo q4.length r [] >>= fun p => inS4 at_ a2 p.1 p.2) q4 none i l' x' → Rl inputP l x i l' x') ∧ Hid (mb = false → ∀ i l' x', Rl (inS4 at_ a2 []) q4 x4 i l' x' → Rl inputP l x i l' x') ∧ Hid (RdIs wx b q4 x4) ∧ Hid (Blk wx xb 62 #[.int .i64 at_, .string (bs a2), .slice none 0 0]) ∧ Hid (Blk wx rb 62 #[.int .i64 0, .string ⟨#[]⟩, .slice none 0 0]) ∧ Hid (Keeps [b] w wx) ∧ Hid (RB wx lo))
  case first =>
    cases x4 with
    | some y =>
      have HD : Hid (∀ i l', Rl inputP l x i l' (some y)) := Lib.hid (fun i l' => HIM.out i l' _ rfl)
      clear HIM
      have HC := Lib.hid (ok_any y4 HE.out.fine HP.out)
      go_wp2_with fail
      refine HC.out.mono ?_
      rintro ev y5 ⟨hev, hk⟩
      have hev' : ev = .returned (.bool false) := hev
      subst hev'
      clear hev
      have HXB' := Lib.hid (HXB.out.keep hk (by simp))
      have HRB' := Lib.hid (HRB.out.keep hk (by simp))
      have HK' := Lib.hid (HK.out.trans hk.of_nil)
      have HE' := Lib.hid (HE.out.quiet hk)
      have HP' := Lib.hid (HP.out.keep hk)
      clear HXB HRB HK HE HP hk HC
      have HXB := HXB'
      have HRB := HRB'
      have HK := HK'
      have HE := HE'
      have HP := HP'
      clear HXB' HRB' HK' HE' HP'
      go_wp2
      go_meet
      exact ⟨false, rfl, Lib.hid (fun h => by cases h), Lib.hid (fun _ i l' x' hq => by have := Rl.dead hq; subst this; exact HD.out i l'), HP, HXB, HRB, HK, HE⟩
    | none =>
      have HC := Lib.hid (ok_any y4 HE.out.fine HP.out)
      go_wp2_with fail
      refine HC.out.mono ?_
      rintro ev y5 ⟨hev, hk⟩
      have hev' : ev = .returned (.bool true) := hev
      subst hev'
      clear hev
      have HXB' := Lib.hid (HXB.out.keep hk (by simp))
      have HRB' := Lib.hid (HRB.out.keep hk (by simp))
      have HK' := Lib.hid (HK.out.trans hk.of_nil)
      have HE' := Lib.hid (HE.out.quiet hk)
      have HP' := Lib.hid (HP.out.keep hk)
      clear HXB HRB HK HE HP hk HC
      have HXB := HXB'
      have HRB := HRB'
      have HK := HK'
      have HE := HE'
      have HP := HP'
      clear HXB' HRB' HK' HE' HP'
      go_wp2
      go_meet
      exact ⟨true, rfl, Lib.hid (fun _ => ⟨by trivial, Nat.le_refl _, by simpa using hqlen.out, fun i l' x' hq => HIM.out i l' x' (Rl.congr rfl hq)⟩), Lib.hid (fun h => by cases h), HP, HXB, HRB, HK, HE⟩
  case rest =>
    obtain ⟨mb0, rfl, HG0, HF0, HP2, HXB2, HRB2, HK2, HE2⟩ := hcut
    obtain ⟨y6, rfl⟩ : ∃ y : World, y = wc := ⟨_, rfl⟩
    clear HP HXB HRB HK HE HIM
    go_wp2_with fail
    go_loopw [4] (fun m wr => ∃ (mb : Bool) (acc : List Cl) (q : List Tk) (x1 : Option (Int × Int)) (n : Nat) (v : Value), m = .bool mb ∧ Hid (mb = true → x1 = none ∧ q.length ≤ n ∧ acc.length + q.length ≤ l.length ∧ ∀ i l' x', Rl (fun r => colsGo n r acc >>= fun p => inS4 at_ a2 p.1 p.2) q none i l' x' → Rl inputP l x i l' x') ∧ Hid (mb = false → ∀ i l' x', Rl (inS4 at_ a2 acc) q x1 i l' x' → Rl inputP l x i l' x') ∧ Hid (q.length ≤ q4.length) ∧ Hid (RdIs wr b q x1) ∧ Hid (Blk wr xb 62 #[.int .i64 at_, .string (bs a2), v]) ∧ Hid (Blk wr rb 62 #[.int .i64 0, .string ⟨#[]⟩, .slice none 0 0]) ∧ Hid (wr.ownsRow w.heap.size 98 2 v acc.length (csCells acc)) ∧ Hid (Keeps [b] w wr) ∧ Hid (RB wr lo)) (fun m wr => 2 * leftT b wr + (match m with | .bool true => 1 | _ => 0))
    case atStart => exact ⟨mb0, [], q4, x4, q4.length, _, rfl, HG0, HF0, Lib.hid (Nat.le_refl _), HP2, HXB2, HRB2, Lib.hid (World.ownsRow_nil _ _ _ _), HK2, HE2⟩
    case round =>
      clear HP2 HXB2 HRB2 HK2 HE2 HG0 HF0 hqlen
      obtain ⟨mb, acc, q, x1, n, v, rfl, HG, HF, HQQ, HP, HXB, HRB, HO, HK, HE⟩ := hrel
      obtain ⟨A, cv, rfl, -⟩ := own_form HO.out
      have HM := Lib.hid HP.out.left
      cases mb with
      | false =>
        have HIM := Lib.hid (HF.out rfl)
        clear HF HG
        have HLQ0 := HLQ
        clear HLQ
        have HLQ : Hid (q.length ≤ q.length) := Lib.hid (Nat.le_refl _)
        have HC := Lib.hid (rmust_any [59] wr HE.out.fine (HE.out.fne hlo) HP.out)
        go_wp2_with fail
        refine HC.out.mono ?_
        rintro ev y11 ⟨rfl, ⟨q11, x11, hp, hr, hll'⟩, hk⟩
        have HIM' : Hid (∀ i l' x', Rl (fun r => .ok (⟨at_, a2, acc⟩, r)) q11 x11 i l' x' → Rl inputP l x i l' x') := Lib.hid (fun i l' x' hq => HIM.out i l' x' (Rl.must hr hq))
        clear HIM hr
        have HIM := HIM'
        clear HIM'
        have HXB' := Lib.hid (far_rd HP.out hk HXB.out (by decide))
        have HRB' := Lib.hid (far_rd HP.out hk HRB.out (by decide))
        have HO' := Lib.hid (own_rd' HO.out HP.out hk (by decide))
        have HK' := Lib.hid (HK.out.trans hk)
        have HE' := Lib.hid (HE.out.one hlo hk)
        have HP' := Lib.hid hp
        clear HXB HRB HO HK HE HP hk hp HC
        have HXB := HXB'
        have HRB := HRB'
        have HO := HO'
        have HK := HK'
        have HE := HE'
        have HP := HP'
        clear HXB' HRB' HO' HK' HE' HP'
        have HLR := Lib.hid (Nat.le_trans hll' HLQ.out)
        clear hll' HLQ
        have HLQ := HLR
        clear HLR
        have HFIN : Hid (Rl inputP l x ⟨at_, a2, acc⟩ q11 x11) := Lib.hid (HIM.out _ _ _ (Rl.stay (fun _ => rfl)))
        have x0 : y11.cell? ⟨xb, 0, none⟩ = some (.int .i64 at_) := HXB.out.cell 0
        have x1' : y11.cell? ⟨xb, 1, none⟩ = some (.string (bs a2)) := HXB.out.cell 1
        have x2' : y11.cell? ⟨xb, 2, none⟩ = some (.slice A acc.length cv) := HXB.out.cell 2
        have lx := HXB.out.lt
        have z0 : y11.cell? ⟨rb, 0, none⟩ = some (.int .i64 0) := HRB.out.cell 0
        have z1 : y11.cell? ⟨rb, 1, none⟩ = some (.string ⟨#[]⟩) := HRB.out.cell 1
        have z2 : y11.cell? ⟨rb, 2, none⟩ = some (.slice none 0 0) := HRB.out.cell 2
        have f0 := HRB.out.frozen 0
        have f1 := HRB.out.frozen 1
        have f2 := HRB.out.frozen 2
        have lr := HRB.out.lt
        go_wp2
        have hb7 := ((HRB.out.set 0 (.int .i64 at_)).set 1 (.string (bs a2))).set 2 (.slice A acc.length cv)
        have t0 := hb7.cell 0
        have t1 := hb7.cell 1
        have t2 := hb7.cell 2
        refine bodyPost_ret (v := .agg #[.int .i64 at_, .string (bs a2), .slice A acc.length cv]) (by simp [results, Tryz.results17, go_sem, t0, t1, t2]) rfl ?_
        have hkk : Keeps [rb] y11 (((y11.setCell ⟨rb, 0, none⟩ (.int .i64 at_)).setCell ⟨rb, 1, none⟩ (.string (bs a2))).setCell ⟨rb, 2, none⟩ (.slice A acc.length cv)) := (((Keeps.refl [rb] y11).setCell (.inl (by simp)) _).setCell (.inl (by simp)) _).setCell (.inl (by simp)) _
        exact ⟨⟨at_, a2, acc⟩, _, q11, x11, rfl, own_keep HO.out hkk (fun g hg hm => by rw [List.mem_singleton.1 hm] at hg; exact (own_ty HO.out rb hg).ne HRB.out.ty (by decide) rfl), HP.out.far hkk (fun x hx => ⟨62, by rw [List.mem_singleton.1 hx]; exact HRB.out.ty, by decide, by decide⟩), HFIN.out, Nat.le_trans (Nat.le_trans HLQ.out HQQ.out) (Nat.le_trans HLQ0.out HLQ1.out), fun e1 e2 => Nat.lt_of_le_of_lt (Nat.le_trans (Nat.le_trans HLQ.out HQQ.out) HLQ0.out) (HST.out e1 e2), ((HK.out.setCell (.inr HRX.out.2) _).setCell (.inr HRX.out.2) _).setCell (.inr HRX.out.2) _⟩
      | true =>
        obtain ⟨rfl, hqn, hac, him⟩ := HG.out rfl
        have HAC := Lib.hid hac
        have hq1 := HP.out.endT.pos
        obtain ⟨n, rfl⟩ : ∃ m, n = m + 1 := ⟨n - 1, by omega⟩
        have HIM : Hid (∀ i l' x', Rl (fun r => nameP r >>= fun p => inT1 at_ a2 n acc p.1 p.2) q none i l' x' → Rl inputP l x i l' x') := Lib.hid (fun i l' x' hq => him i l' x' (Rl.congr (cols_stage n q acc _) hq))
        have HQN : Hid (q.length ≤ n + 1) := Lib.hid hqn
        clear HF HG him hqn hq1 hac HLQ
        have HLQ : Hid (q.length ≤ q.length) := Lib.hid (Nat.le_refl _)
        have HC := Lib.hid (rname_any wr HE.out.fine (HE.out.fne hlo) HP.out)
        go_wp2_with fail
        refine HC.out.mono ?_
        rintro ev y11 ⟨a11, q11, x11, rfl, hp, hr, hs, hll', hk⟩
        clear hs
        have HIM' : Hid (∀ i l' x', Rl (inT1 at_ a2 n acc a11) q11 x11 i l' x' → Rl inputP l x i l' x') := Lib.hid (fun i l' x' hq => HIM.out i l' x' (Rl.bind (Q := fun a => inT1 at_ a2 n acc a) hr hq))
        clear HIM hr
        have HIM := HIM'
        clear HIM'
        have HXB' := Lib.hid (far_rd HP.out hk HXB.out (by decide))
        have HRB' := Lib.hid (far_rd HP.out hk HRB.out (by decide))
        have HO' := Lib.hid (own_rd' HO.out HP.out hk (by decide))
        have HK' := Lib.hid (HK.out.trans hk)
        have HE' := Lib.hid (HE.out.one hlo hk)
        have HP' := Lib.hid hp
        clear HXB HRB HO HK HE HP hk hp HC
        have HXB := HXB'
        have HRB := HRB'
        have HO := HO'
        have HK := HK'
        have HE := HE'
        have HP := HP'
        clear HXB' HRB' HO' HK' HE' HP'
        have HLR := Lib.hid (Nat.le_trans hll' HLQ.out)
        clear hll' HLQ
        have HLQ := HLR
        clear HLR
        have hcb := Blk.new y11 98 #[.string (bs a11), .int .i64 0]
        have hal : Keeps [] y11 (y11.alloc (.cells #[.string (bs a11), .int .i64 0] 98)) := (Keeps.refl _ _).alloc _
        have HP' := Lib.hid (HP.out.keep hal)
        have HXB' := Lib.hid (HXB.out.alloc (.cells #[.string (bs a11), .int .i64 0] 98))
        have HRB' := Lib.hid (HRB.out.alloc (.cells #[.string (bs a11), .int .i64 0] 98))
        have HO' := Lib.hid (HO.out.alloc (.cells #[.string (bs a11), .int .i64 0] 98))
        have HK' := Lib.hid (HK.out.alloc (.cells #[.string (bs a11), .int .i64 0] 98))
        have HE' := Lib.hid (HE.out.quiet hal)
        have HCX : Hid (xb ≠ y11.heap.size ∧ rb ≠ y11.heap.size ∧ w.heap.size ≤ y11.heap.size ∧ lo ≤ y11.heap.size) := Lib.hid ⟨by have := HXB.out.lt; omega, by have := HRB.out.lt; omega, HK.out.size, by have := HP.out.lt; omega⟩
        have HOC : Hid (∀ g, (Value.slice A acc.length cv).ownBlock = some g → g < y11.heap.size) := Lib.hid (fun g hg => (HO.out.lt g hg).2)
        clear hal HP HXB HRB HO HK HE
        go_upto_region 9 with (fail)
        obtain ⟨cb, hcbe⟩ : ∃ cb, y11.heap.size = cb := ⟨_, rfl⟩
        rw [hcbe] at hcb HCX HOC ⊢
        obtain ⟨y13, hy⟩ : ∃ z, y11.alloc (.cells #[.string (bs a11), .int .i64 0] 98) = z := ⟨_, rfl⟩
        rw [hy] at hcb HP' HXB' HRB' HO' HK' HE' ⊢
        have HCB := Lib.hid hcb
        clear hy hcbe hcb
        have HP := HP'
        have HXB := HXB'
        have HRB := HRB'
        have HO := HO'
        have HK := HK'
        have HE := HE'
        clear HP' HXB' HRB' HO' HK' HE'
        have HC := Lib.hid (rmark_any [105, 110, 116, 32, 116, 101, 120, 116] [[105, 110, 116], [116, 101, 120, 116]] (by decide) (by decide) (by decide) (by decide) y13 HE.out.renv (HE.out.fne hlo) (HE.out.mne hlo) HP.out)
        go_wp2_with fail
        refine HC.out.mono ?_
        rintro ev y14 ⟨a14, q14, x14, rfl, hp, hr, hs, hll', hk⟩
        clear hs
        have HKM : Hid (x14 = none → (if a14 = [116, 101, 120, 116] then 2 else 1 : Int) = kdI a14) := Lib.hid (fun e => by
          subst e
          have hm := one_mem hr
          simp only [List.mem_cons, List.not_mem_nil, or_false] at hm
          rcases hm with rfl | rfl <;> rfl)
        have HQS : Hid (x14 = none → q14.length + 1 ≤ q11.length) := Lib.hid (fun e => by
          subst e
          have := oneP_len hr.2
          have := HP.out.endT.pos
          omega)
        have HIM' : Hid (∀ i l' x', Rl (inT2 at_ a2 n acc a11 a14) q14 x14 i l' x' → Rl inputP l x i l' x') := Lib.hid (fun i l' x' hq => HIM.out i l' x' (Rl.bind (Q := fun a => inT2 at_ a2 n acc a11 a) hr hq))
        clear HIM hr
        have HIM := HIM'
        clear HIM'
        have HXB' := Lib.hid (far_rd HP.out hk HXB.out (by decide))
        have HRB' := Lib.hid (far_rd HP.out hk HRB.out (by decide))
        have HO' := Lib.hid (own_rd' HO.out HP.out hk (by decide))
        have HCB' := Lib.hid (far_rd HP.out hk HCB.out (by decide))
        have HK' := Lib.hid (HK.out.trans hk)
        have HE' := Lib.hid (HE.out.one hlo hk)
        have HP' := Lib.hid hp
        clear HXB HRB HO HCB HK HE HP hk hp HC
        have HXB := HXB'
        have HRB := HRB'
        have HO := HO'
        have HCB := HCB'
        have HK := HK'
        have HE := HE'
        have HP := HP'
        clear HXB' HRB' HO' HCB' HK' HE' HP'
        have HLR := Lib.hid (Nat.le_trans hll' HLQ.out)
        clear hll' HLQ
        have HLQ := HLR
        clear HLR
        have HFA : Hid (∀ i l' x', Rl (inS4 at_ a2 (acc ++ [(⟨a11, kdI a14⟩ : Cl)])) q14 x14 i l' x' → (x14 = none → seeP [44] q14 = false) → Rl inputP l x i l' x') := Lib.hid (fun i l' x' hq hs => HIM.out i l' x' (by
          cases x14 with
          | some y => have := Rl.dead hq; subst this; exact rfl
          | none => exact Rl.congr (by unfold inT2; rw [hs rfl, HKM.out rfl]; rfl) hq))
        have HFB : Hid (x14 = none → seeP [44] q14 = true → ∀ i l' x', Rl (fun r => colsGo n r (acc ++ [(⟨a11, kdI a14⟩ : Cl)]) >>= fun p => inS4 at_ a2 p.1 p.2) q14.tail none i l' x' → Rl inputP l x i l' x') := Lib.hid (fun e hs i l' x' hq => HIM.out i l' x' (by
          subst e
          have he : inT2 at_ a2 n acc a11 a14 q14 = (fun r => colsGo n r (acc ++ [(⟨a11, kdI a14⟩ : Cl)]) >>= fun p => inS4 at_ a2 p.1 p.2) q14.tail := by unfold inT2; rw [hs, HKM.out rfl, if_pos rfl]
          cases x' with
          | none => exact ⟨rfl, he.trans hq.2⟩
          | some z => exact he.trans hq))
        clear HIM HKM
        have c1 : y14.cell? ⟨cb, 1, none⟩ = some (.int .i64 0) := HCB.out.cell 1
        have cf := HCB.out.frozen 1
        have cl := HCB.out.lt
        go_upto_if 31 with (fail)
        go_cut [] (fun wx => Hid (RdIs wx b q14 x14) ∧ Hid (Blk wx xb 62 #[.int .i64 at_, .string (bs a2), .slice A acc.length cv]) ∧ Hid (Blk wx rb 62 #[.int .i64 0, .string ⟨#[]⟩, .slice none 0 0]) ∧ Hid (Blk wx cb 98 #[.string (bs a11), .int .i64 (kdI a14)]) ∧ Hid (wx.ownsRow w.heap.size 98 2 (.slice A acc.length cv) acc.length (csCells acc)) ∧ Hid (Keeps [b] w wx) ∧ Hid (RB wx lo))
        case first =>
          have HSET : Hid (∀ i, i = kdI a14 → RdIs (y14.setCell ⟨cb, 1, none⟩ (.int .i64 i)) b q14 x14 ∧ Blk (y14.setCell ⟨cb, 1, none⟩ (.int .i64 i)) xb 62 #[.int .i64 at_, .string (bs a2), .slice A acc.length cv] ∧ Blk (y14.setCell ⟨cb, 1, none⟩ (.int .i64 i)) rb 62 #[.int .i64 0, .string ⟨#[]⟩, .slice none 0 0] ∧ Blk (y14.setCell ⟨cb, 1, none⟩ (.int .i64 i)) cb 98 #[.string (bs a11), .int .i64 (kdI a14)] ∧ (y14.setCell ⟨cb, 1, none⟩ (.int .i64 i)).ownsRow w.heap.size 98 2 (.slice A acc.length cv) acc.length (csCells acc) ∧ Keeps [b] w (y14.setCell ⟨cb, 1, none⟩ (.int .i64 i)) ∧ RB (y14.setCell ⟨cb, 1, none⟩ (.int .i64 i)) lo) := Lib.hid (fun i e => by
            subst e
            have hk1 : Keeps [cb] y14 (y14.setCell ⟨cb, 1, none⟩ (.int .i64 (kdI a14))) := (Keeps.refl _ _).setCell (.inl (by simp)) _
            exact ⟨HP.out.set HCB.out (by decide) (by decide) _, HXB.out.far (p := ⟨cb, 1, none⟩) HCX.out.1 _, HRB.out.far (p := ⟨cb, 1, none⟩) HCX.out.2.1 _, (HCB.out.set 1 (.int .i64 (kdI a14))).congr rfl, own_keep HO.out hk1 (fun g hg hm => by have := HOC.out g hg; simp at hm; omega), HK.out.setCell (.inr HCX.out.2.2.1) _, HE.out.go hk1 (fun y hy => by rw [List.mem_singleton.1 hy]; exact HCX.out.2.2.2)⟩)
          by_cases hki : a14 = [105, 110, 116]
          · have HZ := Lib.hid (HSET.out 1 (by rw [hki]; rfl))
            have hkt : (bs a14 == ⟨#[105, 110, 116]⟩) = true := by rw [hki]; rfl
            subst hki
            clear HSET hkt
            go_wp2
            go_meet
            exact ⟨Lib.hid HZ.out.1, Lib.hid HZ.out.2.1, Lib.hid HZ.out.2.2.1, Lib.hid HZ.out.2.2.2.1, Lib.hid HZ.out.2.2.2.2.1, Lib.hid HZ.out.2.2.2.2.2.1, Lib.hid HZ.out.2.2.2.2.2.2⟩
          · have HZ := Lib.hid (HSET.out 2 (by unfold kdI; rw [if_neg hki]))
            have hkt : (a14 == [105, 110, 116]) = false := by rw [beq_eq_false_iff_ne]; exact hki
            clear HSET
            rw [hkt]
            go_wp2
            go_meet
            exact ⟨Lib.hid HZ.out.1, Lib.hid HZ.out.2.1, Lib.hid HZ.out.2.2.1, Lib.hid HZ.out.2.2.2.1, Lib.hid HZ.out.2.2.2.2.1, Lib.hid HZ.out.2.2.2.2.2.1, Lib.hid HZ.out.2.2.2.2.2.2⟩
        case rest =>
          obtain ⟨HP', HXB', HRB', HCB', HO', HK', HE'⟩ := hcut
          obtain ⟨y15, rfl⟩ : ∃ y : World, y = wc := ⟨_, rfl⟩
          clear HP HXB HRB HCB HO HK HE c1 cf cl
          have HP := HP'
          have HXB := HXB'
          have HRB := HRB'
          have HCB := HCB'
          have HO := HO'
          have HK := HK'
          have HE := HE'
          clear HP' HXB' HRB' HCB' HO' HK' HE'
          obtain ⟨kd, hkd⟩ : ∃ kd, kdI a14 = kd := ⟨_, rfl⟩
          rw [hkd] at HCB HFA HFB
          clear hkd
          have hbd := Lib.hid (show acc.length + 1 ≤ maxLen ∧ (acc.length + 1) * 24 ≤ 140737488355328 by have := HLL.out; have := HAC.out; simp only [maxLen]; omega)
          have xf2 := HXB.out.frozen 2
          have x2 : y15.cell? ⟨xb, 2, none⟩ = some (.slice A acc.length cv) := HXB.out.cell 2
          have lx := HXB.out.lt
          have q0 : y15.cell? ⟨cb, 0, none⟩ = some (.string (bs a11)) := HCB.out.cell 0
          have q1 : y15.cell? ⟨cb, 1, none⟩ = some (.int .i64 kd) := HCB.out.cell 1
          have lc := HCB.out.lt
          have HWZ := Lib.hid (show w.heap.size ≤ y15.heap.size + 1 from Nat.le_succ_of_le HK.out.size)
          go_wp2_with (at_builtin; refine wpList_append_lies _ rfl _ _ 60 rfl _ 98 i0 _ 2 24 Tryz.underlying60 hi hz0 hz1 hz2 rfl (by decide) _ acc.length (csCells acc) rfl (HO.out.alloc _) ⟨y15.heap.size, 0, none⟩ 1 1 [.string (bs a11), .int .i64 kd] rfl rfl (World.news_of_block (heap_alloc_new _ _)) (by simp [Value.oneCell']) (by decide) hbd.out.1 hbd.out.2 (by simp; exact HWZ.out) _ rfl ?_)
          intro gw cap2 w8 hown8 hgrow8 hat8 hlt8
          have HP8 := (HP.out.keep ((Keeps.refl _ _).alloc (.cells #[.string (bs a11), .int .i64 kd] 98))).grown hgrow8 (fun x hx => (own_ty HO.out x hx).keep ((Keeps.refl [] _).alloc _) (by simp)) (by decide) (by decide)
          have HXB8 : Blk w8 xb 62 #[.int .i64 at_, .string (bs a2), .slice A acc.length cv] := (hgrow8.block xb ((HXB.out.alloc _).lt) (fun e => (own_ty HO.out xb e.symm).ne HXB.out.ty (by decide) rfl)).trans (HXB.out.alloc _)
          have hRB8 : Blk w8 rb 62 #[.int .i64 0, .string ⟨#[]⟩, .slice none 0 0] := (hgrow8.block rb ((HRB.out.alloc _).lt) (fun e => (own_ty HO.out rb e.symm).ne HRB.out.ty (by decide) rfl)).trans (HRB.out.alloc _)
          have HK8 := (HK.out.alloc (.cells #[.string (bs a11), .int .i64 kd] 98)).grown hgrow8 (fun g hg => .inr (HO.out.lt g hg).1)
          rw [← csCells_one] at hown8
          have xf8 := HXB8.frozen 2
          have x8 : w8.cell? ⟨xb, 2, none⟩ = some (.slice A acc.length cv) := HXB8.cell 2
          have lx8 := HXB8.lt
          obtain ⟨u, hu⟩ : ∃ u, Value.slice (some ⟨gw, 0, none⟩) (acc.length + 1) cap2 = u := ⟨_, rfl⟩
          have HP9 := Lib.hid (HP8.set (i := 2) HXB8 (by decide) (by decide) u)
          have HXB9 := Lib.hid ((HXB8.set 2 u).congr (cs' := #[.int .i64 at_, .string (bs a2), u]) rfl)
          have HO9 : Hid ((w8.setCell ⟨xb, 2, none⟩ u).ownsRow w.heap.size 98 2 u (acc ++ [(⟨a11, kd⟩ : Cl)]).length (csCells (acc ++ [(⟨a11, kd⟩ : Cl)]))) := Lib.hid (by
            rw [List.length_append]
            rw [hu] at hown8
            exact own_keep hown8 (L := [xb]) (Keeps.setCell (Keeps.refl _ _) (.inl (by simp)) _) (fun g hg hm => by
              rw [List.mem_singleton.1 hm] at hg
              exact (own_ty hown8 xb hg).ne HXB8.ty (by decide) rfl))
          have HK9 := Lib.hid (HK8.setCell (p := ⟨xb, 2, none⟩) (.inr HXG.out) u)
          have HRB9 := Lib.hid (hRB8.far (p := ⟨xb, 2, none⟩) HRX.out.1 u)
          have HE9 := Lib.hid (HE0.out.one hlo HK9.out)
          obtain ⟨w9, hw9⟩ : ∃ x, w8.setCell ⟨xb, 2, none⟩ u = x := ⟨_, rfl⟩
          rw [hw9] at HP9 HXB9 HO9 HK9 HRB9 HE9
          have HW9 := Lib.hid hw9
          have HU := Lib.hid hu
          clear hown8 hgrow8 hat8 hlt8 HP8 HK8 q0 q1 lc x2 xf2 lx hu hw9 hRB8
          clear HP HO HCB HXB HRB HK HE
          go_upto_region 7 with (fail)
          rw [HU.out, HW9.out]
          have HT := rtake_any [44] w9 HE9.out.fine HP9.out
          cases hs : (x14.isNone && seeP [44] q14) with
          | false =>
            rw [hs, if_neg (by decide)] at HT
            have HT1 := Lib.hid HT
            have HFC : Hid (∀ i l' x', Rl (inS4 at_ a2 (acc ++ [(⟨a11, kd⟩ : Cl)])) q14 x14 i l' x' → Rl inputP l x i l' x') := Lib.hid (fun i l' x' hq => HFA.out i l' x' hq (fun e => by subst e; exact hs))
            have HQL : Hid (q14.length ≤ q14.length) := Lib.hid (Nat.le_refl _)
            clear HT hs HFA HFB
            go_wp2_with fail
            refine HT1.out.mono ?_
            rintro ev w10 ⟨rfl, hp, hk⟩
            have HPa := Lib.hid hp
            have HXa := Lib.hid (far_rd HP9.out hk HXB9.out (by decide))
            have HRa := Lib.hid (far_rd HP9.out hk HRB9.out (by decide))
            have HOa := Lib.hid (own_rd' HO9.out HP9.out hk (by decide))
            have HKa := Lib.hid (HK9.out.trans hk)
            have HEa := Lib.hid (HE9.out.one hlo hk)
            clear hp hk HT1
            go_wp2
            go_roundw
            case rel => exact ⟨false, acc ++ [⟨a11, kd⟩], q14, x14, 0, u, rfl, Lib.hid (fun h => by cases h), Lib.hid (fun _ => HFC.out), Lib.hid (by have := HLQ.out; have := HQQ.out; have := HQL.out; omega), HPa, HXa, HRa, HOa, HKa, HEa⟩
            case measure => have := HLQ.out; rw [HPa.out.left, HM.out]; simp; omega
          | true =>
            rw [hs, if_pos rfl] at HT
            have HT1 := Lib.hid HT
            have hxn : x14 = none ∧ seeP [44] q14 = true := by
              cases x14 with
              | some y => cases hs
              | none => exact ⟨rfl, hs⟩
            have HFC := Lib.hid (HFB.out hxn.1 hxn.2)
            have hqs := HQS.out hxn.1
            have hq1 : 1 ≤ q14.tail.length := by have := (HP9.out.endT.tail (seeP_kind hxn.2)).pos; exact this
            have HQL : Hid (q14.tail.length + 1 ≤ q14.length) := Lib.hid (by rw [List.length_tail] at *; omega)
            have HXN := Lib.hid hxn.1
            clear HT hs HFA HFB hxn hqs hq1
            go_wp2_with fail
            refine HT1.out.mono ?_
            rintro ev w10 ⟨rfl, hp, hk⟩
            have HPa := Lib.hid hp
            have HXa := Lib.hid (far_rd HP9.out hk HXB9.out (by decide))
            have HRa := Lib.hid (far_rd HP9.out hk HRB9.out (by decide))
            have HOa := Lib.hid (own_rd' HO9.out HP9.out hk (by decide))
            have HKa := Lib.hid (HK9.out.trans hk)
            have HEa := Lib.hid (HE9.out.one hlo hk)
            clear hp hk HT1
            go_wp2
            go_roundw
            case rel => exact ⟨true, acc ++ [⟨a11, kd⟩], q14.tail, x14, n, u, rfl, Lib.hid (fun _ => ⟨HXN.out, by have := HQN.out; have := HLQ.out; have := HQL.out; omega, by have := HAC.out; have := HLQ.out; have := HQL.out; simp; omega, HFC.out⟩), Lib.hid (fun h => by cases h), Lib.hid (by have := HLQ.out; have := HQQ.out; have := HQL.out; omega), HPa, HXa, HRa, HOa, HKa, HEa⟩
            case measure => have := HLQ.out; have := HQL.out; rw [HPa.out.left, HM.out]; simp; omega
end Go.Proofs.YtbhejdljekmohaaGreatDoor
namespace Go.Proofs.YtbhejdljekmohaaGreatDoor
open Go.RowKit Go.BigFrame
attribute [local go_sem] bs_size bs_extract bs_append bs_toList
section
variable {W W' W7 w0 : World} {base jb b g H cap m : Nat} {j : Jb} {v2 v3 v4 u : Value} {l : List Tk} {x : Option (Int × Int)} {a : Bs} {o : Obj}
theorem JbIs.rd (h : JbIs W base jb j v2 v3 v4) (hp : RdIs W b l x) (hk : Keeps [b] W W') : JbIs W' base jb j v2 v3 v4 :=
  h.far hk (fun x hx => by rw [List.mem_singleton.1 hx]; exact hp.ty) (by decide) (by decide)
theorem RdIs.box (hp : RdIs W b l x) (h : JbIs W base jb j v2 v3 v4) (hk : Keeps [jb] W W') : RdIs W' b l x :=
  hp.far hk (fun x hx => ⟨50, by rw [List.mem_singleton.1 hx]; exact h.blk.ty, by decide, by decide⟩)
theorem rd_grown (hp : RdIs W b l x) {v : Value} (hg : (W.alloc o).grownBy W7 v.ownBlock) (hv : ∀ x, v.ownBlock = some x → OfTy W x 9) : RdIs W7 b l x :=
  (hp.keep ((Keeps.refl _ _).alloc o)).grown hg (fun x hx => (hv x hx).keep ((Keeps.refl [] _).alloc o) (by simp)) (by decide) (by decide)
/-- One more text stands in the second row of texts. -/
theorem JbIs.app3r (h : JbIs W base jb j v2 v3 v4) (hp : RdIs W b l x) (hk0 : Keeps [b] w0 W) (hb : base = w0.heap.size) (hjb : base ≤ jb) (hg : (W.alloc o).grownBy W7 v3.ownBlock) (hu : u = .slice (some ⟨g, 0, none⟩) m cap) (hown : W7.ownsRow base 9 1 u (j.ins.length + 1) (strs j.ins ++ [.string (bs a)])) (hat : v3.ownBlock = some g ∨ g = H) (hH : W.heap.size ≤ H) :
    JbIs (W7.setCell ⟨jb, 3, none⟩ u) base jb { j with ins := j.ins ++ [a] } v2 u v4 ∧ RdIs (W7.setCell ⟨jb, 3, none⟩ u) b l x ∧ Keeps [b] w0 (W7.setCell ⟨jb, 3, none⟩ u) := by
  have hbk := jb_grown h hg (own_ty h.o3)
  have hk : Keeps [jb] W7 (W7.setCell ⟨jb, 3, none⟩ u) := (Keeps.refl _ _).setCell (.inl (by simp)) _
  have hL : ∀ x ∈ [jb], OfTy W7 x 50 := fun x hx => by rw [List.mem_singleton.1 hx]; exact hbk.ty
  rw [← strs_snoc] at hown
  have hown' : W7.ownsRow base 9 1 u (j.ins ++ [a]).length (strs (j.ins ++ [a])) := by rw [List.length_append]; exact hown
  refine ⟨⟨(hbk.set 3 u).congr rfl, own_far (own_grow h.o2 hg h.n23) hk hL (by decide), own_far hown' hk hL (by decide), own_far (own_grow h.o4 hg h.n34.symm) hk hL (by decide), ?_, h.n24, ?_⟩, ?_, ?_⟩
  · exact apart_app h.o2 h.n23 hu hat hH
  · exact (apart_app h.o4 h.n34.symm hu hat hH).symm
  · exact (rd_grown hp hg (own_ty h.o3)).far hk (fun x hx => ⟨50, hL x hx, by decide, by decide⟩)
  · exact ((hk0.alloc o).grown hg (fun x hx => .inr (by rw [← hb]; exact (h.o3.lt x hx).1))).setCell (.inr (by rw [← hb]; exact hjb)) _
theorem JbIs.app4r (h : JbIs W base jb j v2 v3 v4) (hp : RdIs W b l x) (hk0 : Keeps [b] w0 W) (hb : base = w0.heap.size) (hjb : base ≤ jb) (hg : (W.alloc o).grownBy W7 v4.ownBlock) (hu : u = .slice (some ⟨g, 0, none⟩) m cap) (hown : W7.ownsRow base 9 1 u (j.cols.length + 1) (strs j.cols ++ [.string (bs a)])) (hat : v4.ownBlock = some g ∨ g = H) (hH : W.heap.size ≤ H) :
    JbIs (W7.setCell ⟨jb, 4, none⟩ u) base jb { j with cols := j.cols ++ [a] } v2 v3 u ∧ RdIs (W7.setCell ⟨jb, 4, none⟩ u) b l x ∧ Keeps [b] w0 (W7.setCell ⟨jb, 4, none⟩ u) := by
  have hbk := jb_grown h hg (own_ty h.o4)
  have hk : Keeps [jb] W7 (W7.setCell ⟨jb, 4, none⟩ u) := (Keeps.refl _ _).setCell (.inl (by simp)) _
  have hL : ∀ x ∈ [jb], OfTy W7 x 50 := fun x hx => by rw [List.mem_singleton.1 hx]; exact hbk.ty
  rw [← strs_snoc] at hown
  have hown' : W7.ownsRow base 9 1 u (j.cols ++ [a]).length (strs (j.cols ++ [a])) := by rw [List.length_append]; exact hown
  refine ⟨⟨(hbk.set 4 u).congr rfl, own_far (own_grow h.o2 hg h.n24) hk hL (by decide), own_far (own_grow h.o3 hg h.n34) hk hL (by decide), own_far hown' hk hL (by decide), h.n23, ?_, ?_⟩, ?_, ?_⟩
  · exact apart_app h.o2 h.n24 hu hat hH
  · exact apart_app h.o3 h.n34 hu hat hH
  · exact (rd_grown hp hg (own_ty h.o4)).far hk (fun x hx => ⟨50, hL x hx, by decide, by decide⟩)
  · exact ((hk0.alloc o).grown hg (fun x hx => .inr (by rw [← hb]; exact (h.o4.lt x hx).1))).setCell (.inr (by rw [← hb]; exact hjb)) _
end
theorem Rl.shift {α : Type} {P S : List Tk → Except (Int × Int) (α × List Tk)} {l l2 l' : List Tk} {x' : Option (Int × Int)} {a : α} (h : P l = S l2) (k : Rl S l2 none a l' x') : Rl P l none a l' x' := by
  cases x' with
  | none => exact ⟨rfl, h.trans k.2⟩
  | some y =>
    have : S l2 = .error y := k
    exact h.trans this
theorem oneP_same {ws us : List Bs} (h : ∀ t, t ∈ ws ↔ t ∈ us) (l : List Tk) : oneP ws l = oneP us l := by
  by_cases hm : (hdT l).text ∈ ws
  · rw [oneP_must hm, oneP_must ((h _).1 hm)]
  · rw [oneP_not hm, oneP_not (fun e => hm ((h _).2 e))]
theorem Rl.same {ws us : List Bs} (h : ∀ t, t ∈ ws ↔ t ∈ us) {l l' : List Tk} {x x' : Option (Int × Int)} {a : Bs} (k : Rl (oneP ws) l x a l' x') : Rl (oneP us) l x a l' x' := Rl.congr (oneP_same h l).symm k
theorem cmp_same : ∀ t : Bs, t ∈ [[61], [60, 62], [60], [60, 61], [62], [62, 61]] ↔ t ∈ cmpL := by
  intro t
  unfold cmpL
  simp only [List.mem_cons, List.not_mem_nil, or_false]
  constructor
  · rintro (h | h | h | h | h | h) <;> simp [h]
  · rintro (h | h | h | h | h | h) <;> simp [h]
/-- How body leaves a job and the reader. -/
def RbOut (P : List Tk → Except (Int × Int) (Jb × List Tk)) (l : List Tk) (b jb : Nat) (w0 w' : World) : Prop := ∃ j v2 v3 v4 l' x', JbIs w' w0.heap.size jb j v2 v3 v4 ∧ RdIs w' b l' x' ∧ Rl P l none j l' x' ∧ l'.length ≤ l.length ∧ Keeps [b] w0 w'
theorem RbOut.mk {P : List Tk → Except (Int × Int) (Jb × List Tk)} {l : List Tk} {b jb : Nat} {w0 w' : World} (j : Jb) (v2 v3 v4 : Value) (l' : List Tk) (x' : Option (Int × Int)) (h1 : JbIs w' w0.heap.size jb j v2 v3 v4) (h2 : RdIs w' b l' x') (h3 : Rl P l none j l' x') (h4 : l'.length ≤ l.length) (h5 : Keeps [b] w0 w') : RbOut P l b jb w0 w' := ⟨j, v2, v3, v4, l', x', h1, h2, h3, h4, h5⟩
theorem join_stage (j : Jb) (l : List Tk) : joinP j l = (nameP l >>= fun p0 => mustP [46] p0.2 >>= fun r1 => nameP r1 >>= fun p2 => mustP [44] p2.2 >>= fun r3 => nameP r3 >>= fun p4 => mustP [46] p4.2 >>= fun r5 => nameP r5 >>= fun p6 => .ok ({ j with ins := j.ins ++ [p0.1] ++ [p4.1], cols := j.cols ++ [p2.1] ++ [p6.1] }, p6.2)) := by
  unfold joinP
  conv => lhs; arg 1; unfold ofP
  rcases nameP l with x | ⟨a, r0⟩
  · rfl
  simp only [ok_bind]
  rcases mustP [46] r0 with x | r1
  · rfl
  simp only [ok_bind]
  rcases nameP r1 with x | ⟨c, r2⟩
  · rfl
  simp only [ok_bind]
  rcases mustP [44] r2 with x | r3
  · rfl
  simp only [ok_bind]
  rfl
/-! ### Which word -/
def refWords : List Bs := [[102, 105, 108, 116, 101, 114], [115, 101, 116], [112, 114, 111, 106, 101, 99, 116], [115, 111, 114, 116], [117, 110, 105, 111, 110], [100, 105, 115, 116, 105, 110, 99, 116], [106, 111, 105, 110], [103, 114, 111, 117, 112], [115, 112, 108, 105, 116]]
/-- The code behind so many words. -/
def codeR (c r : Nat) : Nat := if c ≤ r then c else 0
theorem codeR_yes {c r : Nat} (h : c = r + 1) : codeR c (r + 1) = r + 1 := by unfold codeR; rw [if_pos (by omega)]; exact h
theorem codeR_no {c r : Nat} (h : c ≠ r + 1) : codeR c (r + 1) = codeR c r := by
  unfold codeR
  by_cases h1 : c ≤ r
  · rw [if_pos h1, if_pos (by omega)]
  · rw [if_neg h1, if_neg (by omega)]
theorem wordIx_ref (r : Nat) (hr : r < refWords.length) : wordIx refWords[r] = r + 1 := by
  have h : ∀ r : Fin 9, wordIx (refWords[r.val]'r.isLt) = r.val + 1 := by decide
  exact h ⟨r, hr⟩
theorem ref_letter (r : Nat) (hr : r < refWords.length) : letC (refWords[r].headD 0) = true := by
  have h : ∀ r : Fin 9, letC ((refWords[r.val]'r.isLt).headD 0) = true := by decide
  exact h ⟨r, hr⟩
theorem ref_word (c : Nat) (hc : c ≠ 0) (h9 : c < 10) : ∃ r, ∃ hr : r < refWords.length, c = r + 1 ∧ wordsL.getD c [] = refWords[r] := by
  have h : ∀ r : Fin 9, wordsL.getD (r.val + 1) [] = refWords[r.val]'r.isLt := by decide
  obtain ⟨r, rfl⟩ : ∃ r, c = r + 1 := ⟨c - 1, by omega⟩
  exact ⟨r, by show r < 9; omega, rfl, h ⟨r, by omega⟩⟩
theorem see_word {l : List Tk} (ht : TkR (hdT l)) (r : Nat) (hr : r < refWords.length) : seeP refWords[r] l = decide (wordIx (hdT l).text = r + 1) := by
  by_cases h : wordIx (hdT l).text = r + 1
  · obtain ⟨r', hr', e, hw⟩ := ref_word (wordIx (hdT l).text) (by omega) (wordIx_lt _)
    have er : r' = r := by omega
    subst er
    have htx := (wordIx_text rfl (show wordIx (hdT l).text ≠ 0 by omega)).trans hw
    have hk : (hdT l).kind = 1 := by
      by_cases hk : (hdT l).kind = 1
      · exact hk
      · have := ht.2.2 hk
        rw [htx, ref_letter r' hr] at this
        cases this
    rw [decide_eq_true h]
    unfold seeP
    rw [hk, htx]
    simp
  · rw [decide_eq_false h]
    unfold seeP
    have : ((hdT l).text == refWords[r]) = false := by
      rw [beq_eq_false_iff_ne]
      intro e
      exact h (by rw [e]; exact wordIx_ref r hr)
    rw [this, Bool.and_false]
theorem word_kind {l : List Tk} (ht : TkR (hdT l)) (hc : wordIx (hdT l).text ≠ 0) : (hdT l).kind = 1 := by
  obtain ⟨r, hr, e, _⟩ := ref_word _ hc (wordIx_lt _)
  have h := see_word ht r hr
  rw [decide_eq_true e] at h
  by_cases hk : (hdT l).kind = 1
  · exact hk
  · have h2 := ht.2.2 hk
    unfold seeP at h
    simp only [Bool.and_eq_true, beq_iff_eq] at h
    rw [h.2, ref_letter r hr] at h2
    cases h2
theorem split_words (m : Int) (w : World) (hm : w.cell? ⟨3, 0, none⟩ = some (.int .i64 m)) : Calls Tryz.prog 31 #[.string (bs [102, 105, 108, 116, 101, 114, 32, 115, 101, 116, 32, 112, 114, 111, 106, 101, 99, 116, 32, 115, 111, 114, 116, 32, 117, 110, 105, 111, 110, 32, 100, 105, 115, 116, 105, 110, 99, 116, 32, 106, 111, 105, 110, 32, 103, 114, 111, 117, 112, 32, 115, 112, 108, 105, 116]), .string (bs [32])] w fun e w' => e = .returned (.slice (some ⟨w.heap.size, 0, none⟩) 9 9) ∧ w' = w.alloc (.cells (strs refWords).toArray 9) := by
  have h := Tryz.strings_Split (bs [102, 105, 108, 116, 101, 114, 32, 115, 101, 116, 32, 112, 114, 111, 106, 101, 99, 116, 32, 115, 111, 114, 116, 32, 117, 110, 105, 111, 110, 32, 100, 105, 115, 116, 105, 110, 99, 116, 32, 106, 111, 105, 110, 32, 103, 114, 111, 117, 112, 32, 115, 112, 108, 105, 116]) (bs [32]) m w (by decide) hm (by decide)
  have e1 : Lib.countB (bs [102, 105, 108, 116, 101, 114, 32, 115, 101, 116, 32, 112, 114, 111, 106, 101, 99, 116, 32, 115, 111, 114, 116, 32, 117, 110, 105, 111, 110, 32, 100, 105, 115, 116, 105, 110, 99, 116, 32, 106, 111, 105, 110, 32, 103, 114, 111, 117, 112, 32, 115, 112, 108, 105, 116]) (bs [32]) = 8 := by kernel_rfl
  have e2 : (Lib.splitB (bs [32]) 0 8 (bs [102, 105, 108, 116, 101, 114, 32, 115, 101, 116, 32, 112, 114, 111, 106, 101, 99, 116, 32, 115, 111, 114, 116, 32, 117, 110, 105, 111, 110, 32, 100, 105, 115, 116, 105, 110, 99, 116, 32, 106, 111, 105, 110, 32, 103, 114, 111, 117, 112, 32, 115, 112, 108, 105, 116])).map Value.string = strs refWords := by kernel_rfl
  rw [e1, e2] at h
  exact h
end Go.Proofs.YtbhejdljekmohaaGreatDoor
namespace Go.Proofs.YtbhejdljekmohaaGreatDoor
open Go.RowKit Go.BigFrame
attribute [local go_sem] bs_size bs_extract bs_append bs_toList
set_option maxRecDepth 100000 in
set_option maxHeartbeats 8000000 in
theorem rbody_0 {l : List Tk} {b jb lo : Nat} {v2 : Value} (at_ : Int) (outs : List Bs) (retry : Int) (w0 w : World) (hE : RB w0 lo) (hlo : lo ≤ b) (h : RdIs w b l none) (hk : Keeps [b] w0 w) (hjb : w0.heap.size ≤ jb) (hj : JbIs w w0.heap.size jb (job0 at_ outs retry) v2 (.slice none 0 0) (.slice none 0 0)) (hll : l.length ≤ 1000000) (hcc : wordIx (hdT l).text = 0) :
    Calls Tryz.prog 44 #[.pointer (some ⟨b, 0, none⟩), .pointer (some ⟨jb, 0, none⟩)] w fun e w' => e = .returned (.tuple #[]) ∧ RbOut (bodyP (job0 at_ outs retry)) l b jb w0 w' := by
  obtain ⟨i0, hi, hz0, hz1, hz2⟩ := info_parts sinf
  have HE0 := Lib.hid hE
  have HP := Lib.hid h
  have HK := Lib.hid hk
  have HJ : Hid (JbIs w w0.heap.size jb (⟨at_, 0, outs, [], [], [], ⟨[], zV⟩, ⟨[], zV⟩, retry⟩ : Jb) v2 (.slice none 0 0) (.slice none 0 0)) := Lib.hid hj
  have HE := Lib.hid (hE.one hlo hk)
  have HJB := Lib.hid hjb
  have HLL := Lib.hid hll
  have HLQ := Lib.hid (Nat.le_refl l.length)
  have htk : TkR (hdT l) := by obtain ⟨_, _, _, _, _, _, _, _, _, _, _, _, _, _, _, _, hh⟩ := h.open'; exact hh
  have HSW := Lib.hid (fun r hr => see_word htk r hr)
  have HCC := Lib.hid hcc
  have hlI : Hid (([] : List Bs).length ≤ 100) := Lib.hid (by simp)
  have HD : Hid (∀ i l', Rl (bodyP (job0 at_ outs retry)) l none i l' (some (3, (hdT l).at_))) := Lib.hid (fun i l' => by
    show bodyP (job0 at_ outs retry) l = _
    unfold bodyP
    rw [if_pos (.inl hcc)]
    rfl)
  clear hE h hk hj hll hjb hcc htk
  obtain ⟨mx, hmx⟩ := HE.out.renv.mlen
  have HSP := Lib.hid (split_words mx w hmx)
  clear hmx
  go_enter Tryz.func44, Tryz.ntmps44
  go_wp2_with fail
  refine HSP.out.mono ?_
  rintro ev w1 ⟨rfl, rfl⟩
  have hbk := Blk.new w 9 (strs refWords).toArray
  have hal : Keeps [] w (w.alloc (.cells (strs refWords).toArray 9)) := (Keeps.refl _ _).alloc _
  have HP' := Lib.hid (HP.out.keep hal)
  have HJ' := Lib.hid (HJ.out.keep hal)
  have HK' := Lib.hid (HK.out.trans hal.of_nil)
  obtain ⟨B, hB⟩ : ∃ B, w.heap.size = B := ⟨_, rfl⟩
  have HBB : Hid (B ≠ b ∧ jb ≠ B) := Lib.hid (by have := HP.out.lt; have := HJ.out.blk.lt; omega)
  rw [hB] at hbk ⊢
  obtain ⟨w1, hw1⟩ : ∃ z, w.alloc (.cells (strs refWords).toArray 9) = z := ⟨_, rfl⟩
  rw [hw1] at hbk HP' HJ' HK' ⊢
  have HBK := Lib.hid hbk
  clear hbk hal hB hw1 HP HJ HK HE HSP
  go_wp2_with fail
  go_loopw [8] (fun i wr => ∃ r : Nat, r ≤ 9 ∧ i = .int .i64 r ∧ Hid (RdIs wr b l none) ∧ Hid (JbIs wr w0.heap.size jb (⟨at_, (codeR 0 r : Nat), outs, [], [], [], ⟨[], zV⟩, ⟨[], zV⟩, retry⟩ : Jb) v2 (.slice none 0 0) (.slice none 0 0)) ∧ Hid (Blk wr B 9 (strs refWords).toArray) ∧ Hid (Keeps [b] w0 wr)) (fun i _ => 9 - (intOf i).toNat)
  case atStart => exact ⟨0, Nat.zero_le _, rfl, HP', HJ', HBK, HK'⟩
  case round =>
    clear HP' HJ' HK' HBK
    obtain ⟨r, hr, rfl, HP, HJ, HBK, HK⟩ := hrel
    have HE := Lib.hid (HE0.out.one hlo HK.out)
    by_cases hrl : r < 9
    · have hri : (r : Int) < 9 := by omega
      have hr9 : r < refWords.length := hrl
      have hcl : wr.cell? ⟨B, r, none⟩ = some (.string (bs refWords[r])) := by
        rw [HBK.out.cell r]
        simp [strs, List.getElem?_eq_getElem hr9]
      have lb := HBK.out.lt
      have hS := rsee_any refWords[r] wr HE.out.fine HP.out
      rw [HSW.out r hr9, HCC.out] at hS
      obtain ⟨wd, hwd⟩ : ∃ wd, refWords[r] = wd := ⟨_, rfl⟩
      rw [hwd] at hS hcl
      clear hwd hr9
      by_cases hc : (0 : Nat) = r + 1
      · rw [decide_eq_true hc] at hS
        have HS := Lib.hid hS
        have HCY : Hid (((r : Int) + 1) = (codeR 0 (r + 1) : Nat)) := Lib.hid (by rw [codeR_yes hc]; omega)
        clear hS hc
        go_wp2_with fail
        refine HS.out.mono ?_
        rintro ev w2 ⟨hev, hk⟩
        have hev' : ev = .returned (.bool true) := hev
        subst hev'
        have HP2 := Lib.hid (HP.out.keep hk)
        have HJ2 := Lib.hid (HJ.out.keep hk)
        have HB2 := Lib.hid (HBK.out.keep hk (by simp))
        have HK2 := Lib.hid (HK.out.trans hk.of_nil)
        have jf1 := HJ2.out.blk.frozen 1
        have jc1 : w2.cell? ⟨jb, 1, none⟩ = some (.int .i64 (codeR 0 r : Nat)) := HJ2.out.blk.cell 1
        have lj := HJ2.out.blk.lt
        clear hev hk HP HJ HBK HK HS hcl lb
        have hkb : Keeps [jb] w2 (w2.setCell ⟨jb, 1, none⟩ (.int .i64 ((r : Int) + 1))) := (Keeps.refl _ _).setCell (.inl (by simp)) _
        have HJ3 : Hid (JbIs (w2.setCell ⟨jb, 1, none⟩ (.int .i64 ((r : Int) + 1))) w0.heap.size jb (⟨at_, (codeR 0 (r + 1) : Nat), outs, [], [], [], ⟨[], zV⟩, ⟨[], zV⟩, retry⟩ : Jb) v2 (.slice none 0 0) (.slice none 0 0)) := Lib.hid (HJ2.out.box hkb ((HJ2.out.blk.set 1 (.int .i64 ((r : Int) + 1))).congr (by rw [HCY.out]; rfl)) rfl rfl rfl)
        have HP3 := Lib.hid (HP2.out.box HJ2.out hkb)
        have HK3 := Lib.hid (HK2.out.box HJB.out hkb)
        have HB3 := Lib.hid (HB2.out.far (p := ⟨jb, 1, none⟩) (fun e => HBB.out.2 e.symm) (.int .i64 ((r : Int) + 1)))
        clear hkb
        go_wp2
        go_roundw
        case rel => exact ⟨r + 1, by omega, by go_num, HP3, HJ3, HB3, HK3⟩
        case measure => simp [intOf]; omega
      · rw [decide_eq_false hc] at hS
        have HS := Lib.hid hS
        have HCN : Hid (codeR 0 (r + 1) = codeR 0 r) := Lib.hid (codeR_no hc)
        clear hS hc
        go_wp2_with fail
        refine HS.out.mono ?_
        rintro ev w2 ⟨hev, hk⟩
        have hev' : ev = .returned (.bool false) := hev
        subst hev'
        have HP2 := Lib.hid (HP.out.keep hk)
        have HJ2 := Lib.hid (HJ.out.keep hk)
        have HB2 := Lib.hid (HBK.out.keep hk (by simp))
        have HK2 := Lib.hid (HK.out.trans hk.of_nil)
        clear hev hk HP HJ HBK HK HS hcl lb
        go_wp2
        go_roundw
        case rel => exact ⟨r + 1, by omega, by go_num, HP2, by rw [HCN.out]; exact HJ2, HB2, HK2⟩
        case measure => simp [intOf]; omega
    · obtain rfl : r = 9 := by omega
      have HJ' : Hid (JbIs wr w0.heap.size jb (⟨at_, 0, outs, [], [], [], ⟨[], zV⟩, ⟨[], zV⟩, retry⟩ : Jb) v2 (.slice none 0 0) (.slice none 0 0)) := Lib.hid HJ.out
      clear HJ HBK hr hrl
      have HJ := HJ'
      clear HJ'
      have jc1 : wr.cell? ⟨jb, 1, none⟩ = some (.int .i64 0) := HJ.out.blk.cell 1
      have lj := HJ.out.blk.lt
      go_wp2_with fail
      refine (rfails_any 3 (by decide) wr HE.out.fine HP.out).mono ?_
      rintro ev y1 ⟨rfl, hp, hk⟩
      have HJ2 := Lib.hid (HJ.out.rd HP.out hk)
      have HK2 := Lib.hid (HK.out.trans hk)
      have HP2 := Lib.hid hp
      clear hp hk jc1 lj
      go_wp2
      first | go_end0 | refine bodyPost_ret (results_none rfl _ _ _) rfl ?_
      exact ⟨rfl, RbOut.mk _ _ _ _ l _ HJ2.out HP2.out (HD.out _ _) HLQ.out HK2.out⟩
end Go.Proofs.YtbhejdljekmohaaGreatDoor
