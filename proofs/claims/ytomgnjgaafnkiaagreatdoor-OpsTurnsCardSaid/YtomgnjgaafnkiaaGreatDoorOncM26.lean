/- OpsTurns: the walk, way T1. -/
import Derived.Test.YtomgnjgaafnkiaaGreatDoorOncM23
namespace Go.Proofs.YtomgnjgaafnkiaaGreatDoor
open Go.RowKit
attribute [local go_sem] bs_size bs_extract bs_append bs_toList
set_option maxHeartbeats 8000000 in
set_option maxRecDepth 40000 in
theorem oturns_T1 (j : Jb) (Ao : Option Addr) (co : Nat) (Ai : Option Addr) (ni ci : Nat) (Ac : Option Addr) (cc : Nat) (t : Tb) (A B : Option Addr) (c d : Nat) (u : Tb) (A' B' : Option Addr) (c' d' : Nat) (cols : List Bs) (Ax : Option Addr) (cx : Nat) (w : World) (hJ : JobAny w j Ao co Ac cc) (hT : TabAny w t A B c d) (hU : TabAny w u A' B' c' d') (hX : Rd w [] 1 Ax cols.length (strs cols)) (hxc : cols.length ≤ cx) (hE : OEnv w) (hsh : shortB j = true) (hs1 : smallB t = true) (hs2 : smallB u = true) (h8 : cols.length ≤ 8) (hlg : (cols.any fun s => decide (40 < s.length)) = false) (hbf : (oneJ (jTf j) [t]).isSome = true) (hbp : (oneJ (jP cols) [t]).isSome = true) (hinL0 : j.left.col ∈ cols) (hrc : j.right.col = []) :
    Calls Tryz.prog 7 #[jAgg j Ao co Ai ni ci Ac cc, tAgg A t.cols.length c B t.rows.length d, tAgg A' u.cols.length c' B' u.rows.length d', .slice Ax cols.length cx] w fun e w' => e = .returned (.bool true) ∧ Keeps [] w w' := by
  have hinL := hinL0
  have hinR : j.right.col = [] ∨ j.right.col ∈ cols := .inl hrc
  have HSH0 := Lib.hid (fun W (q : Keeps [] w W) => short_any j Ao co Ai ni ci Ac cc W (hJ.cols.keep q))
  have HS1 : Hid (∀ W, Keeps [] w W → Calls Tryz.prog 9 #[.agg #[.slice A t.cols.length c, .slice B t.rows.length d]] W fun e W' => e = .returned (.bool (smallB t)) ∧ Keeps [] W W') := Lib.hid fun W q => small_any t A B c d W (hT.cols.keep q) (hT.rows.keep q)
  have HS2 : Hid (∀ W, Keeps [] w W → Calls Tryz.prog 9 #[.agg #[.slice A' u.cols.length c', .slice B' u.rows.length d']] W fun e W' => e = .returned (.bool (smallB u)) ∧ Keeps [] W W') := Lib.hid fun W q => small_any u A' B' c' d' W (hU.cols.keep q) (hU.rows.keep q)
  have HLG : Hid (∀ W, Keeps [] w W → cols.length ≤ 8 → Calls Tryz.prog 20 #[.slice Ax cols.length cx, .func (.func 26) #[] #[]] W fun e W' => e = .returned (.bool (cols.any fun s => decide (40 < s.length))) ∧ Keeps [] W W') := Lib.hid fun W q h8 => containsFuncS_any 26 #[] (enters_of Tryz.func26 (by kernel_rfl) rfl) (fun s => decide (40 < s.length)) cols Ax cx W (hX.keep q) (by omega) (fun v _ W _ => longT_any v W)
  rw [hsh] at HSH0
  rw [hs1] at HS1
  rw [hs2] at HS2
  rw [hlg] at HLG
  have HLG1 := Lib.hid (fun W q => HLG.out W q h8)
  have HDN := Lib.hid (fun W (q : Keeps [] w W) => done_any W (hE.quiet q))
  have HTN := Lib.hid (hT.inn hs1).1
  have HUN := Lib.hid (hU.inn hs2).1
  have HE := Lib.hid hE
  have HXR := Lib.hid hX
  obtain ⟨f, hf⟩ : ∃ f, (oneJ (jTf j) [t]).getD eT = f := ⟨_, rfl⟩
  obtain ⟨p, hp⟩ : ∃ f, (oneJ (jP cols) [t]).getD eT = f := ⟨_, rfl⟩
  obtain ⟨bo, hbo⟩ : ∃ f, (oneJ jU [t, u]).getD eT = f := ⟨_, rfl⟩
  obtain ⟨g, hg⟩ : ∃ f, (oneJ (jTf j) [u]).getD eT = f := ⟨_, rfl⟩
  obtain ⟨bb, hbb⟩ : ∃ f, (oneJ jU [t, u]).isSome = f := ⟨_, rfl⟩
  obtain ⟨bg, hbg⟩ : ∃ f, (oneJ (jTf j) [u]).isSome = f := ⟨_, rfl⟩
  obtain ⟨xt, hx1, hx2⟩ := turns_pick (some_of hf hbf) (some_of hp hbp) hinL hinR
  have HF1 : Hid (∀ W n, W.heap.size = n → Keeps [] w W → Calls Tryz.prog 11 #[jAgg (jTf j) Ao co Ai ni ci none 0, .slice (some ⟨n, 0, none⟩) 1 1] (W.alloc (.cells #[.slice A t.cols.length c, .slice B t.rows.length d] 25)) fun e w' => (∃ A1 c1 A2 c2, e = .returned (.tuple #[.agg #[.slice A1 f.cols.length c1, .slice A2 f.rows.length c2], .bool true]) ∧ TabIn w' f A1 A2 c1 c2) ∧ Keeps [] W w') := Lib.hid fun W n hn q => oneU (.inl rfl) hf hbf Ao co Ai ni ci none 0 A B c d W n hn (HE.out.quiet q) Rd.nil (Nat.le_refl _) (by show 0 ≤ _; omega) (HTN.out.quiet q)
  have HG1 : Hid (∀ W n, W.heap.size = n → Keeps [] w W → Calls Tryz.prog 11 #[jAgg (jTf j) Ao co Ai ni ci none 0, .slice (some ⟨n, 0, none⟩) 1 1] (W.alloc (.cells #[.slice A' u.cols.length c', .slice B' u.rows.length d'] 25)) fun e w' => (∃ A1 c1 A2 c2, e = .returned (.tuple #[.agg #[.slice A1 g.cols.length c1, .slice A2 g.rows.length c2], .bool bg]) ∧ TabIn w' g A1 A2 c1 c2) ∧ Keeps [] W w') := Lib.hid fun W n hn q => oneU (.inl rfl) hg hbg Ao co Ai ni ci none 0 A' B' c' d' W n hn (HE.out.quiet q) Rd.nil (Nat.le_refl _) (by show 0 ≤ _; omega) (HUN.out.quiet q)
  have HP1 : Hid (∀ W n, W.heap.size = n → Keeps [] w W → Calls Tryz.prog 11 #[jAgg (jP cols) none 0 none 0 0 Ax cx, .slice (some ⟨n, 0, none⟩) 1 1] (W.alloc (.cells #[.slice A t.cols.length c, .slice B t.rows.length d] 25)) fun e w' => (∃ A1 c1 A2 c2, e = .returned (.tuple #[.agg #[.slice A1 p.cols.length c1, .slice A2 p.rows.length c2], .bool true]) ∧ TabIn w' p A1 A2 c1 c2) ∧ Keeps [] W w') := Lib.hid fun W n hn q => oneU (.inr (.inr (.inl rfl))) hp hbp none 0 none 0 0 Ax cx A B c d W n hn (HE.out.quiet q) (HXR.out.keep q) hxc (by show cols.length ≤ _; omega) (HTN.out.quiet q)
  have HBC1 : Hid (∀ W n, W.heap.size = n → Keeps [] w W → Calls Tryz.prog 11 #[.agg #[.int .i64 0, .int .i64 5, .slice none 0 0, .slice none 0 0, .slice none 0 0, .string ⟨#[]⟩, .string ⟨#[]⟩, .int .i64 0, .int .i64 0, .string ⟨#[]⟩, .string ⟨#[]⟩, .int .i64 0, .int .i64 0, .string ⟨#[]⟩, .int .i64 0], .slice (some ⟨n, 0, none⟩) 2 2] (W.alloc (.cells #[.slice A t.cols.length c, .slice B t.rows.length d, .slice A' u.cols.length c', .slice B' u.rows.length d'] 25)) fun e w' => (∃ A1 c1 A2 c2, e = .returned (.tuple #[.agg #[.slice A1 bo.cols.length c1, .slice A2 bo.rows.length c2], .bool bb]) ∧ TabIn w' bo A1 A2 c1 c2) ∧ Keeps [] W w') := Lib.hid fun W n hn q => oneU2 (j := jU) (.inr (.inr (.inr (.inl rfl)))) hbo hbb none 0 A B c d A' B' c' d' W n hn (HE.out.quiet q) Rd.nil (Nat.le_refl _) (by decide) (HTN.out.quiet q) (HUN.out.quiet q)
  have HA1 : Hid (∀ W n A1 B1 c1 d1, W.heap.size = n → Keeps [] w W → TabIn W f A1 B1 c1 d1 → Calls Tryz.prog 11 #[jAgg (jP cols) none 0 none 0 0 Ax cx, .slice (some ⟨n, 0, none⟩) 1 1] (W.alloc (.cells #[.slice A1 f.cols.length c1, .slice B1 f.rows.length d1] 25)) fun e w' => (∃ A1 c1 A2 c2, e = .returned (.tuple #[.agg #[.slice A1 xt.cols.length c1, .slice A2 xt.rows.length c2], .bool true]) ∧ TabIn w' xt A1 A2 c1 c2) ∧ Keeps [] W w') := Lib.hid fun W n A1 B1 c1 d1 hn q hi => oneU (.inr (.inr (.inl rfl))) (by rw [hx1]; rfl) (by rw [hx1]; rfl) none 0 none 0 0 Ax cx A1 B1 c1 d1 W n hn (HE.out.quiet q) (HXR.out.keep q) hxc (by show cols.length ≤ _; omega) hi
  have HA2 : Hid (∀ W n A1 B1 c1 d1, W.heap.size = n → Keeps [] w W → TabIn W p A1 B1 c1 d1 → Calls Tryz.prog 11 #[jAgg (jTf j) Ao co Ai ni ci none 0, .slice (some ⟨n, 0, none⟩) 1 1] (W.alloc (.cells #[.slice A1 p.cols.length c1, .slice B1 p.rows.length d1] 25)) fun e w' => (∃ A1 c1 A2 c2, e = .returned (.tuple #[.agg #[.slice A1 xt.cols.length c1, .slice A2 xt.rows.length c2], .bool true]) ∧ TabIn w' xt A1 A2 c1 c2) ∧ Keeps [] W w') := Lib.hid fun W n A1 B1 c1 d1 hn q hi => oneU (.inl rfl) (by rw [hx2]; rfl) (by rw [hx2]; rfl) Ao co Ai ni ci none 0 A1 B1 c1 d1 W n hn (HE.out.quiet q) Rd.nil (Nat.le_refl _) (by show 0 ≤ _; omega) hi
  have HUX : Hid (bb = true → bg = true → ∃ y, oneJ (jTf j) [bo] = some y ∧ oneJ jU [f, g] = some y) := Lib.hid fun h1 h2 => turns_union (some_of hf hbf) (some_of hbo (hbb.trans h1)) (some_of hg (hbg.trans h2))
  have HBC2 : Hid (∀ y, oneJ (jTf j) [bo] = some y → ∀ W n A1 B1 c1 d1, W.heap.size = n → Keeps [] w W → TabIn W bo A1 B1 c1 d1 → Calls Tryz.prog 11 #[jAgg (jTf j) Ao co Ai ni ci none 0, .slice (some ⟨n, 0, none⟩) 1 1] (W.alloc (.cells #[.slice A1 bo.cols.length c1, .slice B1 bo.rows.length d1] 25)) fun e w' => (∃ A1 c1 A2 c2, e = .returned (.tuple #[.agg #[.slice A1 y.cols.length c1, .slice A2 y.rows.length c2], .bool true]) ∧ TabIn w' y A1 A2 c1 c2) ∧ Keeps [] W w') := Lib.hid fun y hy W n A1 B1 c1 d1 hn q hi => oneU (.inl rfl) (by rw [hy]; rfl) (by rw [hy]; rfl) Ao co Ai ni ci none 0 A1 B1 c1 d1 W n hn (HE.out.quiet q) Rd.nil (Nat.le_refl _) (by show 0 ≤ _; omega) hi
  have HU2' : Hid (∀ y, oneJ jU [f, g] = some y → ∀ W n A1 B1 c1 d1 A3 B3 c3 d3, W.heap.size = n → Keeps [] w W → TabIn W f A1 B1 c1 d1 → TabIn W g A3 B3 c3 d3 → Calls Tryz.prog 11 #[.agg #[.int .i64 0, .int .i64 5, .slice none 0 0, .slice none 0 0, .slice none 0 0, .string ⟨#[]⟩, .string ⟨#[]⟩, .int .i64 0, .int .i64 0, .string ⟨#[]⟩, .string ⟨#[]⟩, .int .i64 0, .int .i64 0, .string ⟨#[]⟩, .int .i64 0], .slice (some ⟨n, 0, none⟩) 2 2] (W.alloc (.cells #[.slice A1 f.cols.length c1, .slice B1 f.rows.length d1, .slice A3 g.cols.length c3, .slice B3 g.rows.length d3] 25)) fun e w' => (∃ A1 c1 A2 c2, e = .returned (.tuple #[.agg #[.slice A1 y.cols.length c1, .slice A2 y.rows.length c2], .bool true]) ∧ TabIn w' y A1 A2 c1 c2) ∧ Keeps [] W w') := Lib.hid fun y hy W n A1 B1 c1 d1 A3 B3 c3 d3 hn q hi hi2 => oneU2 (j := jU) (.inr (.inr (.inr (.inl rfl)))) (by rw [hy]; rfl) (by rw [hy]; rfl) none 0 A1 B1 c1 d1 A3 B3 c3 d3 W n hn (HE.out.quiet q) Rd.nil (Nat.le_refl _) (by decide) hi hi2
  have HC1 := Lib.hid (fun W (q : Keeps [] w W) => contains_any cols j.left.col Ax cx W (HXR.out.keep q) (by omega))
  have HC2 := Lib.hid (fun W (q : Keeps [] w W) => contains_any cols j.right.col Ax cx W (HXR.out.keep q) (by omega))
  clear hJ hT hU hX hE hf hp hbo hg hbf hbp hbb hbg HLG
  clear hinL hinR hx1 hx2
  obtain ⟨at_, code, outs, js, jcols, op, ⟨lc, lk, ln, lw⟩, ⟨rc, rk, rn, rw'⟩, retry⟩ := j
  obtain ⟨no, hno⟩ : ∃ n, outs.length = n := ⟨_, rfl⟩
  obtain ⟨nc, hnc⟩ : ∃ n, jcols.length = n := ⟨_, rfl⟩
  obtain ⟨nx, hnx⟩ : ∃ n, cols.length = n := ⟨_, rfl⟩
  have HSH : Hid (∀ W, Keeps [] w W → Calls Tryz.prog 17 #[.agg #[.int .i64 at_, .int .i64 code, .slice Ao no co, .slice Ai ni ci, .slice Ac nc cc, .string (bs op), .string (bs lc), .int .i64 lk, .int .i64 ln, .string (bs lw), .string (bs rc), .int .i64 rk, .int .i64 rn, .string (bs rw'), .int .i64 retry]] W fun e W' => e = .returned (.bool true) ∧ Keeps [] W W') := by rw [← hno, ← hnc]; exact HSH0
  have HLG : Hid (∀ W, Keeps [] w W → Calls Tryz.prog 20 #[.slice Ax nx cx, .func (.func 26) #[] #[]] W fun e W' => e = .returned (.bool false) ∧ Keeps [] W W') := by rw [← hnx]; exact HLG1
  have t8 : ¬ (8 : Int) < (nx : Int) := by omega
  have HF1' : Hid (∀ W n, W.heap.size = n → Keeps [] w W → Calls Tryz.prog 11 #[.agg #[.int .i64 at_, .int .i64 1, .slice Ao no co, .slice Ai ni ci, .slice none 0 0, .string (bs op), .string (bs lc), .int .i64 lk, .int .i64 ln, .string (bs lw), .string (bs rc), .int .i64 rk, .int .i64 rn, .string (bs rw'), .int .i64 retry], .slice (some ⟨n, 0, none⟩) 1 1] (W.alloc (.cells #[.slice A t.cols.length c, .slice B t.rows.length d] 25)) fun e w' => (∃ A1 c1 A2 c2, e = .returned (.tuple #[.agg #[.slice A1 f.cols.length c1, .slice A2 f.rows.length c2], .bool true]) ∧ TabIn w' f A1 A2 c1 c2) ∧ Keeps [] W w') := by rw [← hno]; exact HF1
  have HG1' : Hid (∀ W n, W.heap.size = n → Keeps [] w W → Calls Tryz.prog 11 #[.agg #[.int .i64 at_, .int .i64 1, .slice Ao no co, .slice Ai ni ci, .slice none 0 0, .string (bs op), .string (bs lc), .int .i64 lk, .int .i64 ln, .string (bs lw), .string (bs rc), .int .i64 rk, .int .i64 rn, .string (bs rw'), .int .i64 retry], .slice (some ⟨n, 0, none⟩) 1 1] (W.alloc (.cells #[.slice A' u.cols.length c', .slice B' u.rows.length d'] 25)) fun e w' => (∃ A1 c1 A2 c2, e = .returned (.tuple #[.agg #[.slice A1 g.cols.length c1, .slice A2 g.rows.length c2], .bool bg]) ∧ TabIn w' g A1 A2 c1 c2) ∧ Keeps [] W w') := by rw [← hno]; exact HG1
  have HP1' : Hid (∀ W n, W.heap.size = n → Keeps [] w W → Calls Tryz.prog 11 #[.agg #[.int .i64 0, .int .i64 3, .slice none 0 0, .slice none 0 0, .slice Ax nx cx, .string ⟨#[]⟩, .string ⟨#[]⟩, .int .i64 0, .int .i64 0, .string ⟨#[]⟩, .string ⟨#[]⟩, .int .i64 0, .int .i64 0, .string ⟨#[]⟩, .int .i64 0], .slice (some ⟨n, 0, none⟩) 1 1] (W.alloc (.cells #[.slice A t.cols.length c, .slice B t.rows.length d] 25)) fun e w' => (∃ A1 c1 A2 c2, e = .returned (.tuple #[.agg #[.slice A1 p.cols.length c1, .slice A2 p.rows.length c2], .bool true]) ∧ TabIn w' p A1 A2 c1 c2) ∧ Keeps [] W w') := by rw [← hnx]; exact HP1
  have HC1' : Hid (∀ W, Keeps [] w W → Calls Tryz.prog 27 #[.slice Ax nx cx, .string (bs lc)] W fun e w' => e = .returned (.bool true) ∧ W = w') := by rw [← hnx]; have h := HC1; simp only [decide_eq_true hinL0] at h; exact h
  have HC2' : Hid (∀ W, Keeps [] w W → Calls Tryz.prog 27 #[.slice Ax nx cx, .string (bs rc)] W fun e w' => e = .returned (.bool (decide (rc ∈ cols))) ∧ W = w') := by rw [← hnx]; exact HC2
  have HA1' : Hid (∀ W n A1 B1 c1 d1, W.heap.size = n → Keeps [] w W → TabIn W f A1 B1 c1 d1 → Calls Tryz.prog 11 #[.agg #[.int .i64 0, .int .i64 3, .slice none 0 0, .slice none 0 0, .slice Ax nx cx, .string ⟨#[]⟩, .string ⟨#[]⟩, .int .i64 0, .int .i64 0, .string ⟨#[]⟩, .string ⟨#[]⟩, .int .i64 0, .int .i64 0, .string ⟨#[]⟩, .int .i64 0], .slice (some ⟨n, 0, none⟩) 1 1] (W.alloc (.cells #[.slice A1 f.cols.length c1, .slice B1 f.rows.length d1] 25)) fun e w' => (∃ A1 c1 A2 c2, e = .returned (.tuple #[.agg #[.slice A1 xt.cols.length c1, .slice A2 xt.rows.length c2], .bool true]) ∧ TabIn w' xt A1 A2 c1 c2) ∧ Keeps [] W w') := by rw [← hnx]; exact HA1
  have HA2' : Hid (∀ W n A1 B1 c1 d1, W.heap.size = n → Keeps [] w W → TabIn W p A1 B1 c1 d1 → Calls Tryz.prog 11 #[.agg #[.int .i64 at_, .int .i64 1, .slice Ao no co, .slice Ai ni ci, .slice none 0 0, .string (bs op), .string (bs lc), .int .i64 lk, .int .i64 ln, .string (bs lw), .string (bs rc), .int .i64 rk, .int .i64 rn, .string (bs rw'), .int .i64 retry], .slice (some ⟨n, 0, none⟩) 1 1] (W.alloc (.cells #[.slice A1 p.cols.length c1, .slice B1 p.rows.length d1] 25)) fun e w' => (∃ A1 c1 A2 c2, e = .returned (.tuple #[.agg #[.slice A1 xt.cols.length c1, .slice A2 xt.rows.length c2], .bool true]) ∧ TabIn w' xt A1 A2 c1 c2) ∧ Keeps [] W w') := by rw [← hno]; exact HA2
  clear HA1 HA2
  have HBC2' : Hid (∀ y, oneJ (jTf ⟨at_, code, outs, js, jcols, op, ⟨lc, lk, ln, lw⟩, ⟨rc, rk, rn, rw'⟩, retry⟩) [bo] = some y → ∀ W n A1 B1 c1 d1, W.heap.size = n → Keeps [] w W → TabIn W bo A1 B1 c1 d1 → Calls Tryz.prog 11 #[.agg #[.int .i64 at_, .int .i64 1, .slice Ao no co, .slice Ai ni ci, .slice none 0 0, .string (bs op), .string (bs lc), .int .i64 lk, .int .i64 ln, .string (bs lw), .string (bs rc), .int .i64 rk, .int .i64 rn, .string (bs rw'), .int .i64 retry], .slice (some ⟨n, 0, none⟩) 1 1] (W.alloc (.cells #[.slice A1 bo.cols.length c1, .slice B1 bo.rows.length d1] 25)) fun e w' => (∃ A1 c1 A2 c2, e = .returned (.tuple #[.agg #[.slice A1 y.cols.length c1, .slice A2 y.rows.length c2], .bool true]) ∧ TabIn w' y A1 A2 c1 c2) ∧ Keeps [] W w') := by rw [← hno]; exact HBC2
  clear HBC2
  clear HSH0 HF1 HG1 HP1 HC1 HC2 HLG1 hinL0
  show Calls _ _ #[.agg #[.int .i64 at_, .int .i64 code, .slice Ao outs.length co, .slice Ai ni ci, .slice Ac jcols.length cc, .string (bs op), .string (bs lc), .int .i64 lk, .int .i64 ln, .string (bs lw), .string (bs rc), .int .i64 rk, .int .i64 rn, .string (bs rw'), .int .i64 retry], .agg #[.slice A t.cols.length c, .slice B t.rows.length d], .agg #[.slice A' u.cols.length c', .slice B' u.rows.length d'], .slice Ax cols.length cx] w _
  rw [hno, hnc, hnx]
  clear hno hnc hnx hxc h8 hsh hs1 hs2 hlg
  obtain rfl : rc = [] := hrc
  skip
  have HBJ := Lib.hid (((Blk.new w 36 #[.int .i64 at_, .int .i64 code, .slice Ao no co, .slice Ai ni ci, .slice Ac nc cc, .string (bs op), .string (bs lc), .int .i64 lk, .int .i64 ln, .string (bs lw), .string (bs []), .int .i64 rk, .int .i64 rn, .string (bs rw'), .int .i64 retry]).alloc (.cells #[.slice A t.cols.length c, .slice B t.rows.length d] 25)).alloc (.cells #[.slice A' u.cols.length c', .slice B' u.rows.length d'] 25))
  have HBT := Lib.hid ((Blk.new (w.alloc (.cells #[.int .i64 at_, .int .i64 code, .slice Ao no co, .slice Ai ni ci, .slice Ac nc cc, .string (bs op), .string (bs lc), .int .i64 lk, .int .i64 ln, .string (bs lw), .string (bs []), .int .i64 rk, .int .i64 rn, .string (bs rw'), .int .i64 retry] 36)) 25 #[.slice A t.cols.length c, .slice B t.rows.length d]).alloc (.cells #[.slice A' u.cols.length c', .slice B' u.rows.length d'] 25))
  have HBU := Lib.hid (Blk.new ((w.alloc (.cells #[.int .i64 at_, .int .i64 code, .slice Ao no co, .slice Ai ni ci, .slice Ac nc cc, .string (bs op), .string (bs lc), .int .i64 lk, .int .i64 ln, .string (bs lw), .string (bs []), .int .i64 rk, .int .i64 rn, .string (bs rw'), .int .i64 retry] 36)).alloc (.cells #[.slice A t.cols.length c, .slice B t.rows.length d] 25)) 25 #[.slice A' u.cols.length c', .slice B' u.rows.length d'])
  simp only [size_alloc] at HBT HBU
  have HK0 : Hid (Keeps [] w (((w.alloc (.cells #[.int .i64 at_, .int .i64 code, .slice Ao no co, .slice Ai ni ci, .slice Ac nc cc, .string (bs op), .string (bs lc), .int .i64 lk, .int .i64 ln, .string (bs lw), .string (bs []), .int .i64 rk, .int .i64 rn, .string (bs rw'), .int .i64 retry] 36)).alloc (.cells #[.slice A t.cols.length c, .slice B t.rows.length d] 25)).alloc (.cells #[.slice A' u.cols.length c', .slice B' u.rows.length d'] 25))) := Lib.hid ((((Keeps.refl _ _).alloc _).alloc _).alloc _)
  go_enter Tryz.func7, Tryz.ntmps7
  go_wp2_with fail
  refine (HSH.out _ HK0.out).mono ?_
  rintro e w2 ⟨rfl, hk2⟩
  have HK2 := Lib.hid (HK0.out.trans hk2)
  have HJ2 := Lib.hid (HBJ.out.keep hk2 (by simp))
  have HT2 := Lib.hid (HBT.out.keep hk2 (by simp))
  have HU2 := Lib.hid (HBU.out.keep hk2 (by simp))
  obtain ⟨bj, hbj⟩ : ∃ b, w.heap.size = b := ⟨_, rfl⟩
  have HLB : Hid (w.heap.size ≤ bj) := Lib.hid (by omega)
  rw [hbj] at HJ2 HT2 HU2 ⊢
  clear hk2 HBJ HBT HBU HK0 hbj
  have q1 : w2.cell? ⟨bj + 1, 0, none⟩ = some (.slice A t.cols.length c) := HT2.out.cell 0
  have r1 : w2.cell? ⟨bj + 1, 1, none⟩ = some (.slice B t.rows.length d) := HT2.out.cell 1
  have l1 : bj + 1 < w2.heap.size := HT2.out.lt
  go_wp2_with fail
  clear q1 r1 l1
  refine (HS1.out _ HK2.out).mono ?_
  rintro e w3 ⟨rfl, hk3⟩
  have HK3 := Lib.hid (HK2.out.trans hk3)
  have HJ3 := Lib.hid (HJ2.out.keep hk3 (by simp))
  have HT3 := Lib.hid (HT2.out.keep hk3 (by simp))
  have HU3 := Lib.hid (HU2.out.keep hk3 (by simp))
  clear hk3 HJ2 HT2 HU2
  have q1 : w3.cell? ⟨bj + 1 + 1, 0, none⟩ = some (.slice A' u.cols.length c') := HU3.out.cell 0
  have r1 : w3.cell? ⟨bj + 1 + 1, 1, none⟩ = some (.slice B' u.rows.length d') := HU3.out.cell 1
  have l1 : bj + 1 + 1 < w3.heap.size := HU3.out.lt
  go_wp2_with fail
  clear q1 r1 l1
  refine (HS2.out _ HK3.out).mono ?_
  rintro e w4 ⟨rfl, hk4⟩
  have HK4 := Lib.hid (HK3.out.trans hk4)
  have HJ4 := Lib.hid (HJ3.out.keep hk4 (by simp))
  have HT4 := Lib.hid (HT3.out.keep hk4 (by simp))
  have HU4 := Lib.hid (HU3.out.keep hk4 (by simp))
  clear hk4 HJ3 HT3 HU3
  go_wp2_with fail
  refine (HLG.out _ HK4.out).mono ?_
  rintro e w5 ⟨rfl, hk5⟩
  have HK5 := Lib.hid (HK4.out.trans hk5)
  have HJ5 := Lib.hid (HJ4.out.keep hk5 (by simp))
  have HT5 := Lib.hid (HT4.out.keep hk5 (by simp))
  have HU5 := Lib.hid (HU4.out.keep hk5 (by simp))
  clear hk5 HJ4 HT4 HU4
  go_wp2_with fail
  refine (HDN.out _ HK5.out).mono ?_
  rintro e w6 ⟨rfl, hk6⟩
  have HK6 := Lib.hid (HK5.out.trans hk6)
  have HJ6 := Lib.hid (HJ5.out.keep hk6 (by simp))
  have HT6 := Lib.hid (HT5.out.keep hk6 (by simp))
  have HU6 := Lib.hid (HU5.out.keep hk6 (by simp))
  clear hk6 HJ5 HT5 HU5 HDN HSH HS1 HS2 HLG
  obtain ⟨y0, y1, y2, y3, y4, y5, y6, y7, y8, y9, y10, y11, y12, y13, y14⟩ := box15 HJ6.out
  have f1 := HJ6.out.frozen 1
  have f4 := HJ6.out.frozen 4
  have c0 : w6.cell? ⟨bj + 1, 0, none⟩ = some (.slice A t.cols.length c) := HT6.out.cell 0
  have c1 : w6.cell? ⟨bj + 1, 1, none⟩ = some (.slice B t.rows.length d) := HT6.out.cell 1
  have hl4 : bj < w6.heap.size := HJ6.out.lt
  have hl5 : bj + 1 < w6.heap.size := HT6.out.lt
  go_wp2_with fail
  have HKx := Lib.hid ((((HK6.out.setCell (p := ⟨bj, 1, none⟩) (.inr HLB.out) (.int .i64 1)).setCell (p := ⟨bj, 4, none⟩) (.inr HLB.out) (.slice none 0 0)).alloc (.cells #[.int .i64 0, .int .i64 3, .slice none 0 0, .slice none 0 0, .slice Ax nx cx, .string ⟨#[]⟩, .string ⟨#[]⟩, .int .i64 0, .int .i64 0, .string ⟨#[]⟩, .string ⟨#[]⟩, .int .i64 0, .int .i64 0, .string ⟨#[]⟩, .int .i64 0] 36)))
  have HJx := Lib.hid (((((HJ6.out.set 1 (.int .i64 1)).set 4 (.slice none 0 0)).alloc (.cells #[.int .i64 0, .int .i64 3, .slice none 0 0, .slice none 0 0, .slice Ax nx cx, .string ⟨#[]⟩, .string ⟨#[]⟩, .int .i64 0, .int .i64 0, .string ⟨#[]⟩, .string ⟨#[]⟩, .int .i64 0, .int .i64 0, .string ⟨#[]⟩, .int .i64 0] 36))).congr (cs' := #[.int .i64 at_, .int .i64 1, .slice Ao no co, .slice Ai ni ci, .slice none 0 0, .string (bs op), .string (bs lc), .int .i64 lk, .int .i64 ln, .string (bs lw), .string (bs []), .int .i64 rk, .int .i64 rn, .string (bs rw'), .int .i64 retry]) rfl)
  have HTx := Lib.hid ((((HT6.out.far (p := ⟨bj, 1, none⟩) (by simp) (.int .i64 1)).far (p := ⟨bj, 4, none⟩) (by simp) (.slice none 0 0)).alloc (.cells #[.int .i64 0, .int .i64 3, .slice none 0 0, .slice none 0 0, .slice Ax nx cx, .string ⟨#[]⟩, .string ⟨#[]⟩, .int .i64 0, .int .i64 0, .string ⟨#[]⟩, .string ⟨#[]⟩, .int .i64 0, .int .i64 0, .string ⟨#[]⟩, .int .i64 0] 36)))
  have HUx := Lib.hid ((((HU6.out.far (p := ⟨bj, 1, none⟩) (by simp; omega) (.int .i64 1)).far (p := ⟨bj, 4, none⟩) (by simp; omega) (.slice none 0 0)).alloc (.cells #[.int .i64 0, .int .i64 3, .slice none 0 0, .slice none 0 0, .slice Ax nx cx, .string ⟨#[]⟩, .string ⟨#[]⟩, .int .i64 0, .int .i64 0, .string ⟨#[]⟩, .string ⟨#[]⟩, .int .i64 0, .int .i64 0, .string ⟨#[]⟩, .int .i64 0] 36)))
  have HYx := Lib.hid (Blk.new ((w6.setCell ⟨bj, 1, none⟩ (.int .i64 1)).setCell ⟨bj, 4, none⟩ (.slice none 0 0)) 36 #[.int .i64 0, .int .i64 3, .slice none 0 0, .slice none 0 0, .slice Ax nx cx, .string ⟨#[]⟩, .string ⟨#[]⟩, .int .i64 0, .int .i64 0, .string ⟨#[]⟩, .string ⟨#[]⟩, .int .i64 0, .int .i64 0, .string ⟨#[]⟩, .int .i64 0])
  rw [size_set1, size_set1] at HYx
  obtain ⟨x0, hx0⟩ : ∃ x, ((w6.setCell ⟨bj, 1, none⟩ (.int .i64 1)).setCell ⟨bj, 4, none⟩ (.slice none 0 0)).alloc (.cells #[.int .i64 0, .int .i64 3, .slice none 0 0, .slice none 0 0, .slice Ax nx cx, .string ⟨#[]⟩, .string ⟨#[]⟩, .int .i64 0, .int .i64 0, .string ⟨#[]⟩, .string ⟨#[]⟩, .int .i64 0, .int .i64 0, .string ⟨#[]⟩, .int .i64 0] 36) = x := ⟨_, rfl⟩
  have hs0 : x0.heap.size = w6.heap.size + 1 := by rw [← hx0, size_alloc, size_set1, size_set1]
  rw [hx0] at HKx HJx HTx HUx HYx ⊢
  obtain ⟨gy, hgy⟩ : ∃ g, w6.heap.size = g := ⟨_, rfl⟩
  rw [hgy] at HYx hs0 ⊢
  clear hx0 hgy y0 y1 y2 y3 y4 y5 y6 y7 y8 y9 y10 y11 y12 y13 y14 f1 f4 c0 c1 hl4 hl5 HJ6 HT6 HU6 HK6 HK5 HK4 HK3 HK2
  have KA0 := Lib.hid (Keeps.refl [] x0)
  with_reducible refine (HF1'.out x0 (gy + 1)  hs0 (HKx.out.trans KA0.out)).mono ?_
  rintro e v1 ⟨⟨A1, c1, B1, d1, rfl, ht1⟩, hk1⟩
  have KA0k := Lib.hid (KA0.out.trans hk1)
  clear hk1
  obtain ⟨y0y, y1y, y2y, y3y, y4y, y5y, y6y, y7y, y8y, y9y, y10y, y11y, y12y, y13y, y14y⟩ := box15 (HYx.out.keep KA0k.out (by simp))
  have lyy := (HYx.out.keep KA0k.out (by simp)).lt
  have qa1 : v1.cell? ⟨bj + 1, 0, none⟩ = some (.slice A t.cols.length c) := (HTx.out.keep KA0k.out (by simp)).cell 0
  have qb1 : v1.cell? ⟨bj + 1, 1, none⟩ = some (.slice B t.rows.length d) := (HTx.out.keep KA0k.out (by simp)).cell 1
  have qc1 : bj + 1 < v1.heap.size := (HTx.out.keep KA0k.out (by simp)).lt
  go_wp2_with fail
  clear y0y y1y y2y y3y y4y y5y y6y y7y y8y y9y y10y y11y y12y y13y y14y lyy qa1 qb1 qc1 
  have KA0kn := Lib.hid (KA0k.out.alloc (.cells #[.slice A1 f.cols.length c1, .slice B1 f.rows.length d1] 25))
  have HB1 := Lib.hid (Blk.new v1 25 #[.slice A1 f.cols.length c1, .slice B1 f.rows.length d1])
  have HI1 := Lib.hid (ht1.quiet ((Keeps.refl [] v1).alloc (.cells #[.slice A1 f.cols.length c1, .slice B1 f.rows.length d1] 25)))
  obtain ⟨x1, hx1⟩ : ∃ x, v1.alloc (.cells #[.slice A1 f.cols.length c1, .slice B1 f.rows.length d1] 25) = x := ⟨_, rfl⟩
  have hs1 : x1.heap.size = v1.heap.size + 1 := by rw [← hx1, size_alloc]
  rw [hx1] at KA0kn HB1 HI1 ⊢
  obtain ⟨g1, hg1⟩ : ∃ g, v1.heap.size = g := ⟨_, rfl⟩
  rw [hg1] at HB1 hs1 ⊢
  clear hx1 hg1 ht1
  have KA1 := Lib.hid (Keeps.refl [] x1)
  with_reducible refine (HP1'.out x1 (g1 + 1)  hs1 (HKx.out.trans KA0kn.out)).mono ?_
  rintro e v2 ⟨⟨A2, c2, B2, d2, rfl, ht2⟩, hk2⟩
  have KA0knk := Lib.hid (KA0kn.out.trans hk2)
  have KA1k := Lib.hid (KA1.out.trans hk2)
  clear hk2
  obtain ⟨y0j, y1j, y2j, y3j, y4j, y5j, y6j, y7j, y8j, y9j, y10j, y11j, y12j, y13j, y14j⟩ := box15 (HJx.out.keep KA0knk.out (by simp))
  have lyj := (HJx.out.keep KA0knk.out (by simp)).lt
  go_wp2_with fail
  have KA0knkn := Lib.hid (KA0knk.out.alloc (.cells #[.slice A2 p.cols.length c2, .slice B2 p.rows.length d2] 25))
  have KA1kn := Lib.hid (KA1k.out.alloc (.cells #[.slice A2 p.cols.length c2, .slice B2 p.rows.length d2] 25))
  have HB2 := Lib.hid (Blk.new v2 25 #[.slice A2 p.cols.length c2, .slice B2 p.rows.length d2])
  have HI2 := Lib.hid (ht2.quiet ((Keeps.refl [] v2).alloc (.cells #[.slice A2 p.cols.length c2, .slice B2 p.rows.length d2] 25)))
  obtain ⟨x2, hx2⟩ : ∃ x, v2.alloc (.cells #[.slice A2 p.cols.length c2, .slice B2 p.rows.length d2] 25) = x := ⟨_, rfl⟩
  have hs2 : x2.heap.size = v2.heap.size + 1 := by rw [← hx2, size_alloc]
  rw [hx2] at KA0knkn KA1kn HB2 HI2 ⊢
  obtain ⟨g2, hg2⟩ : ∃ g, v2.heap.size = g := ⟨_, rfl⟩
  rw [hg2] at HB2 hs2 ⊢
  clear hx2 hg2 ht2
  have KA2 := Lib.hid (Keeps.refl [] x2)
  refine (HC1'.out _ (HKx.out.trans KA0knkn.out)).mono ?_
  rintro e vc ⟨rfl, rfl⟩
  clear y0j y1j y2j y3j y4j y5j y6j y7j y8j y9j y10j y11j y12j y13j y14j lyj 
  obtain ⟨y0j, y1j, y2j, y3j, y4j, y5j, y6j, y7j, y8j, y9j, y10j, y11j, y12j, y13j, y14j⟩ := box15 (HJx.out.keep KA0knkn.out (by simp))
  have lyj := (HJx.out.keep KA0knkn.out (by simp)).lt
  obtain ⟨y0y, y1y, y2y, y3y, y4y, y5y, y6y, y7y, y8y, y9y, y10y, y11y, y12y, y13y, y14y⟩ := box15 (HYx.out.keep KA0knkn.out (by simp))
  have lyy := (HYx.out.keep KA0knkn.out (by simp)).lt
  have qa1 : x2.cell? ⟨g1, 0, none⟩ = some (.slice A1 f.cols.length c1) := (HB1.out.keep KA1kn.out (by simp)).cell 0
  have qb1 : x2.cell? ⟨g1, 1, none⟩ = some (.slice B1 f.rows.length d1) := (HB1.out.keep KA1kn.out (by simp)).cell 1
  have qc1 : g1 < x2.heap.size := (HB1.out.keep KA1kn.out (by simp)).lt
  go_wp2_with fail
  clear y0y y1y y2y y3y y4y y5y y6y y7y y8y y9y y10y y11y y12y y13y y14y lyy qa1 qb1 qc1 
  with_reducible refine (HA1'.out x2 (g2 + 1) A1 B1 c1 d1 hs2 (HKx.out.trans KA0knkn.out) (HI1.out.quiet KA1kn.out)).mono ?_
  rintro e v3 ⟨⟨A3, c3, B3, d3, rfl, ht3⟩, hk3⟩
  have KA0knknk := Lib.hid (KA0knkn.out.trans hk3)
  have KA1knk := Lib.hid (KA1kn.out.trans hk3)
  have KA2k := Lib.hid (KA2.out.trans hk3)
  clear hk3
  obtain ⟨y0j, y1j, y2j, y3j, y4j, y5j, y6j, y7j, y8j, y9j, y10j, y11j, y12j, y13j, y14j⟩ := box15 (HJx.out.keep KA0knknk.out (by simp))
  have lyj := (HJx.out.keep KA0knknk.out (by simp)).lt
  have qa1 : v3.cell? ⟨g2, 0, none⟩ = some (.slice A2 p.cols.length c2) := (HB2.out.keep KA2k.out (by simp)).cell 0
  have qb1 : v3.cell? ⟨g2, 1, none⟩ = some (.slice B2 p.rows.length d2) := (HB2.out.keep KA2k.out (by simp)).cell 1
  have qc1 : g2 < v3.heap.size := (HB2.out.keep KA2k.out (by simp)).lt
  go_wp2_with fail
  clear y0j y1j y2j y3j y4j y5j y6j y7j y8j y9j y10j y11j y12j y13j y14j lyj qa1 qb1 qc1 
  have KA0knknkn := Lib.hid (KA0knknk.out.alloc (.cells #[.slice A3 xt.cols.length c3, .slice B3 xt.rows.length d3] 25))
  have KA1knkn := Lib.hid (KA1knk.out.alloc (.cells #[.slice A3 xt.cols.length c3, .slice B3 xt.rows.length d3] 25))
  have KA2kn := Lib.hid (KA2k.out.alloc (.cells #[.slice A3 xt.cols.length c3, .slice B3 xt.rows.length d3] 25))
  have HB3 := Lib.hid (Blk.new v3 25 #[.slice A3 xt.cols.length c3, .slice B3 xt.rows.length d3])
  have HI3 := Lib.hid (ht3.quiet ((Keeps.refl [] v3).alloc (.cells #[.slice A3 xt.cols.length c3, .slice B3 xt.rows.length d3] 25)))
  obtain ⟨x3, hx3⟩ : ∃ x, v3.alloc (.cells #[.slice A3 xt.cols.length c3, .slice B3 xt.rows.length d3] 25) = x := ⟨_, rfl⟩
  have hs3 : x3.heap.size = v3.heap.size + 1 := by rw [← hx3, size_alloc]
  rw [hx3] at KA0knknkn KA1knkn KA2kn HB3 HI3 ⊢
  obtain ⟨g3, hg3⟩ : ∃ g, v3.heap.size = g := ⟨_, rfl⟩
  rw [hg3] at HB3 hs3 ⊢
  clear hx3 hg3 ht3
  have KA3 := Lib.hid (Keeps.refl [] x3)
  with_reducible refine (HA2'.out x3 (g3 + 1) A2 B2 c2 d2 hs3 (HKx.out.trans KA0knknkn.out) (HI2.out.quiet KA2kn.out)).mono ?_
  rintro e v4 ⟨⟨A4, c4, B4, d4, rfl, ht4⟩, hk4⟩
  have KA0knknknk := Lib.hid (KA0knknkn.out.trans hk4)
  have KA1knknk := Lib.hid (KA1knkn.out.trans hk4)
  have KA2knk := Lib.hid (KA2kn.out.trans hk4)
  have KA3k := Lib.hid (KA3.out.trans hk4)
  clear hk4
  have qa0 : v4.cell? ⟨g3, 0, none⟩ = some (.slice A3 xt.cols.length c3) := (HB3.out.keep KA3k.out (by simp)).cell 0
  have qb0 : v4.cell? ⟨g3, 1, none⟩ = some (.slice B3 xt.rows.length d3) := (HB3.out.keep KA3k.out (by simp)).cell 1
  have qc0 : g3 < v4.heap.size := (HB3.out.keep KA3k.out (by simp)).lt
  go_wp2_with fail
  clear qa0 qb0 qc0 
  have KA0knknknkn := Lib.hid (KA0knknknk.out.alloc (.cells #[.slice A4 xt.cols.length c4, .slice B4 xt.rows.length d4] 25))
  have KA1knknkn := Lib.hid (KA1knknk.out.alloc (.cells #[.slice A4 xt.cols.length c4, .slice B4 xt.rows.length d4] 25))
  have KA2knkn := Lib.hid (KA2knk.out.alloc (.cells #[.slice A4 xt.cols.length c4, .slice B4 xt.rows.length d4] 25))
  have KA3kn := Lib.hid (KA3k.out.alloc (.cells #[.slice A4 xt.cols.length c4, .slice B4 xt.rows.length d4] 25))
  have HB4 := Lib.hid (Blk.new v4 25 #[.slice A4 xt.cols.length c4, .slice B4 xt.rows.length d4])
  have HI4 := Lib.hid (ht4.quiet ((Keeps.refl [] v4).alloc (.cells #[.slice A4 xt.cols.length c4, .slice B4 xt.rows.length d4] 25)))
  obtain ⟨x4, hx4⟩ : ∃ x, v4.alloc (.cells #[.slice A4 xt.cols.length c4, .slice B4 xt.rows.length d4] 25) = x := ⟨_, rfl⟩
  have hs4 : x4.heap.size = v4.heap.size + 1 := by rw [← hx4, size_alloc]
  rw [hx4] at KA0knknknkn KA1knknkn KA2knkn KA3kn HB4 HI4 ⊢
  obtain ⟨g4, hg4⟩ : ∃ g, v4.heap.size = g := ⟨_, rfl⟩
  rw [hg4] at HB4 hs4 ⊢
  clear hx4 hg4 ht4
  have KA4 := Lib.hid (Keeps.refl [] x4)
  have hsame := same_any xt xt A3 B3 A4 B4 c3 d3 c4 d4 x4 (HI3.out.quiet KA3kn.out).rd HI4.out.rd
  rw [decide_eq_true rfl] at hsame
  refine Calls.mono hsame ?_
  rintro e vs ⟨rfl, hks⟩
  clear hsame
  have KA0knknknkns := Lib.hid (KA0knknknkn.out.trans hks)
  have KA1knknkns := Lib.hid (KA1knknkn.out.trans hks)
  have KA2knkns := Lib.hid (KA2knkn.out.trans hks)
  have KA3kns := Lib.hid (KA3kn.out.trans hks)
  have KA4s := Lib.hid (KA4.out.trans hks)
  clear hks
  have qa0 : vs.cell? ⟨bj + 1, 0, none⟩ = some (.slice A t.cols.length c) := (HTx.out.keep KA0knknknkns.out (by simp)).cell 0
  have qb0 : vs.cell? ⟨bj + 1, 1, none⟩ = some (.slice B t.rows.length d) := (HTx.out.keep KA0knknknkns.out (by simp)).cell 1
  have qc0 : bj + 1 < vs.heap.size := (HTx.out.keep KA0knknknkns.out (by simp)).lt
  have qa1 : vs.cell? ⟨bj + 1 + 1, 0, none⟩ = some (.slice A' u.cols.length c') := (HUx.out.keep KA0knknknkns.out (by simp)).cell 0
  have qb1 : vs.cell? ⟨bj + 1 + 1, 1, none⟩ = some (.slice B' u.rows.length d') := (HUx.out.keep KA0knknknkns.out (by simp)).cell 1
  have qc1 : bj + 1 + 1 < vs.heap.size := (HUx.out.keep KA0knknknkns.out (by simp)).lt
  go_wp2_with fail
  clear qa0 qb0 qc0 qa1 qb1 qc1 
  with_reducible refine (HBC1.out vs (vs.heap.size)  rfl (HKx.out.trans KA0knknknkns.out)).mono ?_
  rintro e v5 ⟨⟨A5, c5, B5, d5, rfl, ht5⟩, hk5⟩
  have KA0knknknknsk := Lib.hid (KA0knknknkns.out.trans hk5)
  have KA1knknknsk := Lib.hid (KA1knknkns.out.trans hk5)
  have KA2knknsk := Lib.hid (KA2knkns.out.trans hk5)
  have KA3knsk := Lib.hid (KA3kns.out.trans hk5)
  have KA4sk := Lib.hid (KA4s.out.trans hk5)
  clear hk5
  obtain ⟨y0j, y1j, y2j, y3j, y4j, y5j, y6j, y7j, y8j, y9j, y10j, y11j, y12j, y13j, y14j⟩ := box15 (HJx.out.keep KA0knknknknsk.out (by simp))
  have lyj := (HJx.out.keep KA0knknknknsk.out (by simp)).lt
  have qa1 : v5.cell? ⟨bj + 1 + 1, 0, none⟩ = some (.slice A' u.cols.length c') := (HUx.out.keep KA0knknknknsk.out (by simp)).cell 0
  have qb1 : v5.cell? ⟨bj + 1 + 1, 1, none⟩ = some (.slice B' u.rows.length d') := (HUx.out.keep KA0knknknknsk.out (by simp)).cell 1
  have qc1 : bj + 1 + 1 < v5.heap.size := (HUx.out.keep KA0knknknknsk.out (by simp)).lt
  go_wp2_with fail
  clear y0j y1j y2j y3j y4j y5j y6j y7j y8j y9j y10j y11j y12j y13j y14j lyj qa1 qb1 qc1 
  have KA0knknknknskn := Lib.hid (KA0knknknknsk.out.alloc (.cells #[.slice A5 bo.cols.length c5, .slice B5 bo.rows.length d5] 25))
  have KA1knknknskn := Lib.hid (KA1knknknsk.out.alloc (.cells #[.slice A5 bo.cols.length c5, .slice B5 bo.rows.length d5] 25))
  have KA2knknskn := Lib.hid (KA2knknsk.out.alloc (.cells #[.slice A5 bo.cols.length c5, .slice B5 bo.rows.length d5] 25))
  have KA3knskn := Lib.hid (KA3knsk.out.alloc (.cells #[.slice A5 bo.cols.length c5, .slice B5 bo.rows.length d5] 25))
  have KA4skn := Lib.hid (KA4sk.out.alloc (.cells #[.slice A5 bo.cols.length c5, .slice B5 bo.rows.length d5] 25))
  have HB5 := Lib.hid (Blk.new v5 25 #[.slice A5 bo.cols.length c5, .slice B5 bo.rows.length d5])
  have HI5 := Lib.hid (ht5.quiet ((Keeps.refl [] v5).alloc (.cells #[.slice A5 bo.cols.length c5, .slice B5 bo.rows.length d5] 25)))
  obtain ⟨x5, hx5⟩ : ∃ x, v5.alloc (.cells #[.slice A5 bo.cols.length c5, .slice B5 bo.rows.length d5] 25) = x := ⟨_, rfl⟩
  have hs5 : x5.heap.size = v5.heap.size + 1 := by rw [← hx5, size_alloc]
  rw [hx5] at KA0knknknknskn KA1knknknskn KA2knknskn KA3knskn KA4skn HB5 HI5 ⊢
  obtain ⟨g5, hg5⟩ : ∃ g, v5.heap.size = g := ⟨_, rfl⟩
  rw [hg5] at HB5 hs5 ⊢
  clear hx5 hg5 ht5
  have KA5 := Lib.hid (Keeps.refl [] x5)
  with_reducible refine (HG1'.out x5 (g5 + 1)  hs5 (HKx.out.trans KA0knknknknskn.out)).mono ?_
  rintro e v6 ⟨⟨A6, c6, B6, d6, rfl, ht6⟩, hk6⟩
  have KA0knknknknsknk := Lib.hid (KA0knknknknskn.out.trans hk6)
  have KA1knknknsknk := Lib.hid (KA1knknknskn.out.trans hk6)
  have KA2knknsknk := Lib.hid (KA2knknskn.out.trans hk6)
  have KA3knsknk := Lib.hid (KA3knskn.out.trans hk6)
  have KA4sknk := Lib.hid (KA4skn.out.trans hk6)
  have KA5k := Lib.hid (KA5.out.trans hk6)
  clear hk6
  cases bb with
  | false =>
    go_wp2
    go_ret
    exact ⟨rfl, (HKx.out.trans KA0knknknknsknk.out).alloc _⟩
  | true =>
    cases bg with
    | false =>
      go_wp2
      go_ret
      exact ⟨rfl, (HKx.out.trans KA0knknknknsknk.out).alloc _⟩
    | true =>
      obtain ⟨y, hy1, hy2⟩ := HUX.out rfl rfl
      have HY1 := Lib.hid (HBC2'.out y hy1)
      have HY2 := Lib.hid (HU2'.out y hy2)
      clear hy1 hy2 HUX HBC2' HU2'
      obtain ⟨y0j, y1j, y2j, y3j, y4j, y5j, y6j, y7j, y8j, y9j, y10j, y11j, y12j, y13j, y14j⟩ := box15 (HJx.out.keep KA0knknknknsknk.out (by simp))
      have lyj := (HJx.out.keep KA0knknknknsknk.out (by simp)).lt
      have qa1 : v6.cell? ⟨g5, 0, none⟩ = some (.slice A5 bo.cols.length c5) := (HB5.out.keep KA5k.out (by simp)).cell 0
      have qb1 : v6.cell? ⟨g5, 1, none⟩ = some (.slice B5 bo.rows.length d5) := (HB5.out.keep KA5k.out (by simp)).cell 1
      have qc1 : g5 < v6.heap.size := (HB5.out.keep KA5k.out (by simp)).lt
      go_wp2_with fail
      clear y0j y1j y2j y3j y4j y5j y6j y7j y8j y9j y10j y11j y12j y13j y14j lyj qa1 qb1 qc1 
      have KA0knknknknsknkn := Lib.hid (KA0knknknknsknk.out.alloc (.cells #[.slice A6 g.cols.length c6, .slice B6 g.rows.length d6] 25))
      have KA1knknknsknkn := Lib.hid (KA1knknknsknk.out.alloc (.cells #[.slice A6 g.cols.length c6, .slice B6 g.rows.length d6] 25))
      have KA2knknsknkn := Lib.hid (KA2knknsknk.out.alloc (.cells #[.slice A6 g.cols.length c6, .slice B6 g.rows.length d6] 25))
      have KA3knsknkn := Lib.hid (KA3knsknk.out.alloc (.cells #[.slice A6 g.cols.length c6, .slice B6 g.rows.length d6] 25))
      have KA4sknkn := Lib.hid (KA4sknk.out.alloc (.cells #[.slice A6 g.cols.length c6, .slice B6 g.rows.length d6] 25))
      have KA5kn := Lib.hid (KA5k.out.alloc (.cells #[.slice A6 g.cols.length c6, .slice B6 g.rows.length d6] 25))
      have HB6 := Lib.hid (Blk.new v6 25 #[.slice A6 g.cols.length c6, .slice B6 g.rows.length d6])
      have HI6 := Lib.hid (ht6.quiet ((Keeps.refl [] v6).alloc (.cells #[.slice A6 g.cols.length c6, .slice B6 g.rows.length d6] 25)))
      obtain ⟨x6, hx6⟩ : ∃ x, v6.alloc (.cells #[.slice A6 g.cols.length c6, .slice B6 g.rows.length d6] 25) = x := ⟨_, rfl⟩
      have hs6 : x6.heap.size = v6.heap.size + 1 := by rw [← hx6, size_alloc]
      rw [hx6] at KA0knknknknsknkn KA1knknknsknkn KA2knknsknkn KA3knsknkn KA4sknkn KA5kn HB6 HI6 ⊢
      obtain ⟨g6, hg6⟩ : ∃ g, v6.heap.size = g := ⟨_, rfl⟩
      rw [hg6] at HB6 hs6 ⊢
      clear hx6 hg6 ht6
      have KA6 := Lib.hid (Keeps.refl [] x6)
      with_reducible refine (HY1.out x6 (g6 + 1) A5 B5 c5 d5 hs6 (HKx.out.trans KA0knknknknsknkn.out) (HI5.out.quiet KA5kn.out)).mono ?_
      rintro e v7 ⟨⟨A7, c7, B7, d7, rfl, ht7⟩, hk7⟩
      have KA0knknknknsknknk := Lib.hid (KA0knknknknsknkn.out.trans hk7)
      have KA1knknknsknknk := Lib.hid (KA1knknknsknkn.out.trans hk7)
      have KA2knknsknknk := Lib.hid (KA2knknsknkn.out.trans hk7)
      have KA3knsknknk := Lib.hid (KA3knsknkn.out.trans hk7)
      have KA4sknknk := Lib.hid (KA4sknkn.out.trans hk7)
      have KA5knk := Lib.hid (KA5kn.out.trans hk7)
      have KA6k := Lib.hid (KA6.out.trans hk7)
      clear hk7
      have qa0 : v7.cell? ⟨g1, 0, none⟩ = some (.slice A1 f.cols.length c1) := (HB1.out.keep KA1knknknsknknk.out (by simp)).cell 0
      have qb0 : v7.cell? ⟨g1, 1, none⟩ = some (.slice B1 f.rows.length d1) := (HB1.out.keep KA1knknknsknknk.out (by simp)).cell 1
      have qc0 : g1 < v7.heap.size := (HB1.out.keep KA1knknknsknknk.out (by simp)).lt
      have qa1 : v7.cell? ⟨g6, 0, none⟩ = some (.slice A6 g.cols.length c6) := (HB6.out.keep KA6k.out (by simp)).cell 0
      have qb1 : v7.cell? ⟨g6, 1, none⟩ = some (.slice B6 g.rows.length d6) := (HB6.out.keep KA6k.out (by simp)).cell 1
      have qc1 : g6 < v7.heap.size := (HB6.out.keep KA6k.out (by simp)).lt
      go_wp2_with fail
      clear qa0 qb0 qc0 qa1 qb1 qc1 
      have KA0knknknknsknknkn := Lib.hid (KA0knknknknsknknk.out.alloc (.cells #[.slice A7 y.cols.length c7, .slice B7 y.rows.length d7] 25))
      have KA1knknknsknknkn := Lib.hid (KA1knknknsknknk.out.alloc (.cells #[.slice A7 y.cols.length c7, .slice B7 y.rows.length d7] 25))
      have KA2knknsknknkn := Lib.hid (KA2knknsknknk.out.alloc (.cells #[.slice A7 y.cols.length c7, .slice B7 y.rows.length d7] 25))
      have KA3knsknknkn := Lib.hid (KA3knsknknk.out.alloc (.cells #[.slice A7 y.cols.length c7, .slice B7 y.rows.length d7] 25))
      have KA4sknknkn := Lib.hid (KA4sknknk.out.alloc (.cells #[.slice A7 y.cols.length c7, .slice B7 y.rows.length d7] 25))
      have KA5knkn := Lib.hid (KA5knk.out.alloc (.cells #[.slice A7 y.cols.length c7, .slice B7 y.rows.length d7] 25))
      have KA6kn := Lib.hid (KA6k.out.alloc (.cells #[.slice A7 y.cols.length c7, .slice B7 y.rows.length d7] 25))
      have HB7 := Lib.hid (Blk.new v7 25 #[.slice A7 y.cols.length c7, .slice B7 y.rows.length d7])
      have HI7 := Lib.hid (ht7.quiet ((Keeps.refl [] v7).alloc (.cells #[.slice A7 y.cols.length c7, .slice B7 y.rows.length d7] 25)))
      obtain ⟨x7, hx7⟩ : ∃ x, v7.alloc (.cells #[.slice A7 y.cols.length c7, .slice B7 y.rows.length d7] 25) = x := ⟨_, rfl⟩
      have hs7 : x7.heap.size = v7.heap.size + 1 := by rw [← hx7, size_alloc]
      rw [hx7] at KA0knknknknsknknkn KA1knknknsknknkn KA2knknsknknkn KA3knsknknkn KA4sknknkn KA5knkn KA6kn HB7 HI7 ⊢
      obtain ⟨g7, hg7⟩ : ∃ g, v7.heap.size = g := ⟨_, rfl⟩
      rw [hg7] at HB7 hs7 ⊢
      clear hx7 hg7 ht7
      have KA7 := Lib.hid (Keeps.refl [] x7)
      with_reducible refine (HY2.out x7 (g7 + 1) A1 B1 c1 d1 A6 B6 c6 d6 hs7 (HKx.out.trans KA0knknknknsknknkn.out) (HI1.out.quiet KA1knknknsknknkn.out) (HI6.out.quiet KA6kn.out)).mono ?_
      rintro e v8 ⟨⟨A8, c8, B8, d8, rfl, ht8⟩, hk8⟩
      have KA0knknknknsknknknk := Lib.hid (KA0knknknknsknknkn.out.trans hk8)
      have KA1knknknsknknknk := Lib.hid (KA1knknknsknknkn.out.trans hk8)
      have KA2knknsknknknk := Lib.hid (KA2knknsknknkn.out.trans hk8)
      have KA3knsknknknk := Lib.hid (KA3knsknknkn.out.trans hk8)
      have KA4sknknknk := Lib.hid (KA4sknknkn.out.trans hk8)
      have KA5knknk := Lib.hid (KA5knkn.out.trans hk8)
      have KA6knk := Lib.hid (KA6kn.out.trans hk8)
      have KA7k := Lib.hid (KA7.out.trans hk8)
      clear hk8
      have qa0 : v8.cell? ⟨g7, 0, none⟩ = some (.slice A7 y.cols.length c7) := (HB7.out.keep KA7k.out (by simp)).cell 0
      have qb0 : v8.cell? ⟨g7, 1, none⟩ = some (.slice B7 y.rows.length d7) := (HB7.out.keep KA7k.out (by simp)).cell 1
      have qc0 : g7 < v8.heap.size := (HB7.out.keep KA7k.out (by simp)).lt
      go_wp2_with fail
      clear qa0 qb0 qc0
      have KA0knknknknsknknknkn := Lib.hid (KA0knknknknsknknknk.out.alloc (.cells #[.slice A8 y.cols.length c8, .slice B8 y.rows.length d8] 25))
      have KA1knknknsknknknkn := Lib.hid (KA1knknknsknknknk.out.alloc (.cells #[.slice A8 y.cols.length c8, .slice B8 y.rows.length d8] 25))
      have KA2knknsknknknkn := Lib.hid (KA2knknsknknknk.out.alloc (.cells #[.slice A8 y.cols.length c8, .slice B8 y.rows.length d8] 25))
      have KA3knsknknknkn := Lib.hid (KA3knsknknknk.out.alloc (.cells #[.slice A8 y.cols.length c8, .slice B8 y.rows.length d8] 25))
      have KA4sknknknkn := Lib.hid (KA4sknknknk.out.alloc (.cells #[.slice A8 y.cols.length c8, .slice B8 y.rows.length d8] 25))
      have KA5knknkn := Lib.hid (KA5knknk.out.alloc (.cells #[.slice A8 y.cols.length c8, .slice B8 y.rows.length d8] 25))
      have KA6knkn := Lib.hid (KA6knk.out.alloc (.cells #[.slice A8 y.cols.length c8, .slice B8 y.rows.length d8] 25))
      have KA7kn := Lib.hid (KA7k.out.alloc (.cells #[.slice A8 y.cols.length c8, .slice B8 y.rows.length d8] 25))
      have HB8 := Lib.hid (Blk.new v8 25 #[.slice A8 y.cols.length c8, .slice B8 y.rows.length d8])
      have HI8 := Lib.hid (ht8.quiet ((Keeps.refl [] v8).alloc (.cells #[.slice A8 y.cols.length c8, .slice B8 y.rows.length d8] 25)))
      obtain ⟨x8, hx8⟩ : ∃ x, v8.alloc (.cells #[.slice A8 y.cols.length c8, .slice B8 y.rows.length d8] 25) = x := ⟨_, rfl⟩
      have hs8 : x8.heap.size = v8.heap.size + 1 := by rw [← hx8, size_alloc]
      rw [hx8] at KA0knknknknsknknknkn KA1knknknsknknknkn KA2knknsknknknkn KA3knsknknknkn KA4sknknknkn KA5knknkn KA6knkn KA7kn HB8 HI8 ⊢
      obtain ⟨g8, hg8⟩ : ∃ g, v8.heap.size = g := ⟨_, rfl⟩
      rw [hg8] at HB8 hs8 ⊢
      clear hx8 hg8 ht8
      have KA8 := Lib.hid (Keeps.refl [] x8)
      have hsame := same_any y y A7 B7 A8 B8 c7 d7 c8 d8 x8 (HI7.out.quiet KA7kn.out).rd HI8.out.rd
      rw [decide_eq_true rfl] at hsame
      refine Calls.mono hsame ?_
      rintro e vz ⟨rfl, hkz⟩
      go_wp2
      go_ret
      exact ⟨rfl, (HKx.out.trans KA0knknknknsknknknkn.out).trans hkz⟩
end Go.Proofs.YtomgnjgaafnkiaaGreatDoor
