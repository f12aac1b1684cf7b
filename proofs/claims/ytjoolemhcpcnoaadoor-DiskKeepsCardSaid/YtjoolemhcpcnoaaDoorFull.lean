/- The disk and the document's disk side by side: plain laws, and the two in one world. -/
import Derived.Test.YtjoolemhcpcnoaaDoorRests
import Derived.Test.YtjoolemhcpcnoaaDoorRefR
namespace Go.Proofs.YtjoolemhcpcnoaaDoor
open Go.RowKit

/-- The document's disk has each sector's 64 bytes. -/
def Dk.full (D : Dk) : Dk := { D with sure := D.sure.map content }
theorem full_length (D : Dk) : D.full.sure.length = D.sure.length := by simp [Dk.full]
theorem full_burnt (D : Dk) : D.full.burnt = D.burnt.full := by
  unfold Dk.burnt
  show (if 0 < D.fuse then _ else _) = _
  split <;> rfl
theorem full_write (D : Dk) (a : Int) (s : Bs) : D.full.write a s = ((D.write a s).1, (D.write a s).2.full) := by
  unfold Dk.write
  rw [full_length, full_burnt]
  show (if _ then _ else if _ then _ else if D.fuse = 0 then _ else _) = _
  split
  · rfl
  · split
    · rfl
    · split <;> rfl
theorem content_set (l : List Bs) (i : Nat) (s : Bs) (h : content s = s) : (l.map content).set i s = (l.set i s).map content := by
  rw [List.map_set, h]
theorem full_puts (ws : List (Nat × Bs)) (h : ∀ p ∈ ws, p.2.length = 64) (l : List Bs) : puts (l.map content) ws = (puts l ws).map content := by
  induction ws generalizing l with
  | nil => rfl
  | cons p ws ih =>
    show puts (put1 (l.map content) p) ws = (puts (put1 l p) ws).map content
    have e : put1 (l.map content) p = (put1 l p).map content := content_set l p.1 p.2 (content_of (h p (by simp)))
    rw [e, ih (fun q hq => h q (by simp [hq]))]
theorem full_sync (D : Dk) (h : D.Ok) : D.full.sync = (D.sync.1, D.sync.2.full) := by
  unfold Dk.sync
  rw [full_burnt]
  show (if D.fuse = 0 then _ else (0, { D.burnt.full with sure := puts (D.sure.map content) D.wait, wait := [] })) = _
  rw [full_puts D.wait h.2]
  split <;> rfl
theorem full_fused (D : Dk) (n : Int) : D.full.fused n = (D.fused n).full := rfl
theorem kept_mem (ws : List (Nat × Bs)) (ks : List Bool) : ∀ p ∈ kept ws ks, p ∈ ws := by
  induction ws generalizing ks with
  | nil => cases ks <;> simp [kept]
  | cons w ws ih =>
    cases ks with
    | nil => simp [kept]
    | cons b ks =>
      intro p hp
      cases b with
      | true => simp [kept] at hp; rcases hp with rfl | hp; simp; simp [ih ks p hp]
      | false => simp [kept] at hp; simp [ih ks p hp]
theorem full_crash (D : Dk) (ks : List Bool) (h : D.Ok) : D.full.crash ks = (D.crash ks).full := by
  unfold Dk.crash
  show ({ sure := puts (D.sure.map content) (kept D.wait ks), wait := [], fuse := -1 } : Dk) = _
  rw [full_puts _ (fun p hp => h.2 p (kept_mem _ _ p hp))]
  rfl
theorem full_rread (D : Dk) (a : Int) : D.full.rread a = D.read a := by
  unfold Dk.rread Dk.read
  rw [full_length]
  split
  · rfl
  · rename_i hc
    have ha : a.toNat < D.sure.length := by omega
    congr 1
    unfold readUp Dk.at
    show (match lastWrite (D.wait.take D.wait.length) a.toNat with | some s => s | none => (D.sure.map content).getD a.toNat []) = _
    rw [List.take_length]
    cases lastWrite D.wait a.toNat with
    | some s => rfl
    | none => simp [ha]
theorem full_new (n : Nat) : (Dk.new n).full = Dk.newFull n := by
  unfold Dk.full Dk.new Dk.newFull
  simp [content]

/-! Each stays well made. -/
theorem ok_new (n : Nat) : (Dk.new n).Ok := ⟨fun s hs => .inl (List.eq_of_mem_replicate hs), by simp [Dk.new]⟩
theorem ok_puts' (l : List Bs) (ws : List (Nat × Bs)) (h : ∀ s ∈ l, s = [] ∨ s.length = 64) (h2 : ∀ p ∈ ws, p.2.length = 64) : ∀ s ∈ puts l ws, s = [] ∨ s.length = 64 := by
  induction ws generalizing l with
  | nil => exact h
  | cons p ws ih =>
    refine ih (put1 l p) (fun s hs => ?_) (fun q hq => h2 q (by simp [hq]))
    rcases List.mem_or_eq_of_mem_set hs with h1 | rfl
    · exact h s h1
    · exact .inr (h2 p (by simp))
theorem ok_burnt (D : Dk) (h : D.Ok) : D.burnt.Ok := by unfold Dk.burnt; split; exact h; exact h
theorem ok_write (D : Dk) (a : Int) (s : Bs) (h : D.Ok) : (D.write a s).2.Ok := by
  unfold Dk.write
  split
  · exact h
  · split
    · exact h
    · split
      · exact h
      · rename_i h2 _
        refine ⟨(ok_burnt D h).1, fun p hp => ?_⟩
        rcases List.mem_append.1 hp with h' | h'
        · exact h.2 p h'
        · rw [List.mem_singleton.1 h']; exact padded_length _ (by omega)
theorem ok_sync (D : Dk) (h : D.Ok) : D.sync.2.Ok := by
  unfold Dk.sync
  split
  · exact h
  · exact ⟨ok_puts' _ _ h.1 h.2, by simp⟩
theorem ok_crash (D : Dk) (ks : List Bool) (h : D.Ok) : (D.crash ks).Ok := ⟨ok_puts' _ _ h.1 fun p hp => h.2 p (kept_mem _ _ p hp), by simp [Dk.crash]⟩
theorem write_wait (D : Dk) (a : Int) (s : Bs) : (D.write a s).2.wait.length ≤ D.wait.length + 1 := by
  unfold Dk.write
  split
  · simp
  · split
    · simp
    · split <;> simp
theorem sync_wait (D : Dk) : D.sync.2.wait.length ≤ D.wait.length := by
  unfold Dk.sync
  split <;> simp
theorem write_sure (D : Dk) (a : Int) (s : Bs) : (D.write a s).2.sure.length = D.sure.length := by
  unfold Dk.write
  split
  · rfl
  · split
    · rfl
    · split
      · rfl
      · show D.burnt.sure.length = _; rw [burnt_sure]
theorem sync_sure (D : Dk) : D.sync.2.sure.length = D.sure.length := by
  unfold Dk.sync
  split
  · rfl
  · show (puts D.sure D.wait).length = _; rw [puts_length]

/-! ### The two in one world -/
def Two (w0 W : World) (L L' : List Nat) (g g' : Nat) (D R : Dk) : Prop :=
  DA w0 W L g D ∧ RDsk W L' g' R ∧ (∀ x ∈ L', w0.heap.size ≤ x) ∧ (∀ x ∈ L, x ∉ L')
/-- What work turns: its blocks M, and new ones. -/
def Turn (M : List Nat) (W : World) (M1 : List Nat) (W1 : World) : Prop := Keeps M W W1 ∧ ∀ x ∈ M1, x ∈ M ∨ W.heap.size ≤ x
theorem Turn.refl (M : List Nat) (W : World) : Turn M W M W := ⟨Keeps.refl _ _, fun _ h => .inl h⟩
theorem Turn.trans {M M1 M2 : List Nat} {W W1 W2 : World} (h : Turn M W M1 W1) (k : Turn M1 W1 M2 W2) : Turn M W M2 W2 :=
  ⟨h.1.trans' k.1 fun x hx hl => by rcases h.2 x hx with a | a; exact a; omega, fun x hx => by
    rcases k.2 x hx with a | a
    · exact h.2 x a
    · have := h.1.size; right; omega⟩
theorem Turn.quiet {M M1 : List Nat} {W W1 W2 : World} (h : Turn M W M1 W1) (k : Keeps [] W1 W2) : Turn M W M1 W2 := ⟨h.1.trans k.of_nil, h.2⟩
theorem Turn.cell {M M1 : List Nat} {W W1 : World} {p : Addr} {v : Value} (h : Turn M W M1 W1) (hp : W.cell? p = some v) (hn : p.block ∉ M) : W1.cell? p = some v := h.1.cell_of hp hn
theorem Turn.out {M M1 : List Nat} {W W1 : World} {b : Nat} (h : Turn M W M1 W1) (hn : b ∉ M) (hl : b < W.heap.size) : b ∉ M1 := fun hm => by
  rcases h.2 b hm with a | a
  · exact hn a
  · omega

section
variable {w0 W W' : World} {L L' : List Nat} {g g' : Nat} {D R : Dk}
theorem Two.quiet (h : Two w0 W L L' g g' D R) (hk : Keeps [] W W') : Two w0 W' L L' g g' D R := ⟨h.1.quiet hk, h.2.1.keep hk (by simp), h.2.2⟩
theorem Two.left {L1 : List Nat} {D1 : Dk} (h : Two w0 W L L' g g' D R) (h1 : Dsk W' L1 g D1) (hk : Keeps L W W') (hs : ∀ x ∈ L1, x ∈ L ∨ W.heap.size ≤ x) :
    Two w0 W' L1 L' g g' D1 R ∧ Turn (L ++ L') W (L1 ++ L') W' := by
  have hlt := h.2.1.lt
  refine ⟨⟨h.1.turn h1 hk hs, h.2.1.keep hk fun x hx hm => h.2.2.2 x hm hx, h.2.2.1, fun x hx hm => ?_⟩, hk.weaken (fun x hx _ => by simp [hx]), fun x hx => ?_⟩
  · rcases hs x hx with a | a
    · exact h.2.2.2 x a hm
    · have := hlt x hm; omega
  · rcases List.mem_append.1 hx with a | a
    · rcases hs x a with b | b
      · left; simp [b]
      · exact .inr b
    · left; simp [a]
theorem Two.right {L1 : List Nat} {R1 : Dk} (h : Two w0 W L L' g g' D R) (h1 : RDsk W' L1 g' R1) (hk : Keeps L' W W') (hs : ∀ x ∈ L1, x ∈ L' ∨ W.heap.size ≤ x) :
    Two w0 W' L L1 g g' D R1 ∧ Turn (L ++ L') W (L ++ L1) W' := by
  have hlt := h.1.1.lt
  have hsz := h.1.2.1.size
  refine ⟨⟨⟨h.1.1.keep hk fun x hx _ hm => h.2.2.2 x hm hx, h.1.2.1.trans' hk (fun x hx hl => by have := h.2.2.1 x hx; omega), h.1.2.2⟩, h1, fun x hx => ?_, fun x hx hm => ?_⟩, hk.weaken (fun x hx _ => by simp [hx]), fun x hx => ?_⟩
  · rcases hs x hx with a | a
    · exact h.2.2.1 x a
    · omega
  · rcases hs x hm with a | a
    · exact h.2.2.2 x hx a
    · have := hlt x hx; omega
  · rcases List.mem_append.1 hx with a | a
    · left; simp [a]
    · rcases hs x a with b | b
      · left; simp [b]
      · exact .inr b

theorem two_write_d (h : Two w0 W L L' g g' D R) (a : Int) (s : Bs) (hwl : D.wait.length ≤ 4294967296) :
    Calls Tryd.prog 13 #[.pointer (some ⟨g, 0, none⟩), .int .i64 a, .string (bs s)] W fun ev W' => ev = .returned (errV (D.write a s).1) ∧ ∃ L1, Two w0 W' L1 L' g g' (D.write a s).2 R ∧ Turn (L ++ L') W (L1 ++ L') W' := by
  refine (write_any D h.1.1 a s hwl).mono ?_
  rintro ev W' ⟨rfl, L1, h1, h2, h3⟩
  exact ⟨rfl, L1, h.left h1 h2 h3⟩
theorem two_write_r {D1 : Dk} (h : Two w0 W L L' g g' D1 D.full) (a : Int) (s : Bs) (hwl : D.wait.length ≤ 4294967296) :
    Calls Tryd.prog 35 #[.pointer (some ⟨g', 0, none⟩), .int .i64 a, .string (bs s)] W fun ev W' => ev = .returned (.int .i64 ((D.write a s).1 : Nat)) ∧ ∃ L1, Two w0 W' L L1 g g' D1 (D.write a s).2.full ∧ Turn (L ++ L') W (L ++ L1) W' := by
  have := rwrite_any D.full h.2.1 a s hwl
  rw [full_write] at this
  refine this.mono ?_
  rintro ev W' ⟨rfl, L1, h1, h2, h3⟩
  exact ⟨rfl, L1, h.right h1 h2 h3⟩
theorem two_sync_d (h : Two w0 W L L' g g' D R) (hwl : D.wait.length ≤ 4294967296) :
    Calls Tryd.prog 17 #[.pointer (some ⟨g, 0, none⟩)] W fun ev W' => ev = .returned (errV D.sync.1) ∧ Two w0 W' L L' g g' D.sync.2 R ∧ Turn (L ++ L') W (L ++ L') W' := by
  refine (sync_any D h.1.1 hwl).mono ?_
  rintro ev W' ⟨rfl, h1, h2⟩
  exact ⟨rfl, h.left h1 h2 fun x hx => .inl hx⟩
theorem two_sync_r {D1 : Dk} (h : Two w0 W L L' g g' D1 D.full) (hok : D.Ok) (hwl : D.wait.length ≤ 4294967296) :
    Calls Tryd.prog 36 #[.pointer (some ⟨g', 0, none⟩)] W fun ev W' => ev = .returned (.int .i64 (D.sync.1 : Nat)) ∧ Two w0 W' L L' g g' D1 D.sync.2.full ∧ Turn (L ++ L') W (L ++ L') W' := by
  have := rsync_any D.full h.2.1 hwl
  rw [full_sync D hok] at this
  refine this.mono ?_
  rintro ev W' ⟨rfl, h1, h2⟩
  exact ⟨rfl, h.right h1 h2 fun x hx => .inl hx⟩
theorem two_fuse_d (h : Two w0 W L L' g g' D R) (n : Int) (hn : n ≤ 9223372036854775807) :
    Calls Tryd.prog 20 #[.pointer (some ⟨g, 0, none⟩), .int .i64 n] W fun ev W' => ev = .returned (.tuple #[]) ∧ Two w0 W' L L' g g' (D.fused n) R ∧ Turn (L ++ L') W (L ++ L') W' := by
  refine (fuse_any D h.1.1 n hn).mono ?_
  rintro ev W' ⟨rfl, h1, h2⟩
  exact ⟨rfl, h.left h1 h2 fun x hx => .inl hx⟩
theorem two_fuse_r {D1 : Dk} (h : Two w0 W L L' g g' D1 D.full) (n : Int) (hn : n ≤ 9223372036854775807) :
    Calls Tryd.prog 37 #[.pointer (some ⟨g', 0, none⟩), .int .i64 n] W fun ev W' => ev = .returned (.tuple #[]) ∧ Two w0 W' L L' g g' D1 (D.fused n).full ∧ Turn (L ++ L') W (L ++ L') W' := by
  refine (rfuse_any D.full h.2.1 n hn).mono ?_
  rintro ev W' ⟨rfl, h1, h2⟩
  exact ⟨rfl, h.right h1 h2 fun x hx => .inl hx⟩
theorem two_crash_d (h : Two w0 W L L' g g' D R) (hwl : D.wait.length ≤ 4294967296) (K : Option Addr) (c n : Nat) (ks : List Bool) (hn : ks.length = n) (hks : Rd W (L ++ L') 1 K n (bools ks)) (hkl : n ≤ 9223372036854775807) :
    Calls Tryd.prog 19 #[.pointer (some ⟨g, 0, none⟩), .slice K n c] W fun ev W' => ev = .returned (.tuple #[]) ∧ Two w0 W' L L' g g' (D.crash ks) R ∧ Turn (L ++ L') W (L ++ L') W' := by
  subst hn
  refine (crash_any D h.1.1 hwl K c ks (hks.move fun x hx _ => by simp [hx]) hkl).mono ?_
  rintro ev W' ⟨rfl, h1, h2⟩
  exact ⟨rfl, h.left h1 h2 fun x hx => .inl hx⟩
theorem two_crash_r {D1 : Dk} (h : Two w0 W L L' g g' D1 D.full) (hok : D.Ok) (hwl : D.wait.length ≤ 4294967296) (K : Option Addr) (c n : Nat) (ks : List Bool) (hn : ks.length = n) (hks : Rd W (L ++ L') 1 K n (bools ks)) :
    Calls Tryd.prog 38 #[.pointer (some ⟨g', 0, none⟩), .slice K n c] W fun ev W' => ev = .returned (.tuple #[]) ∧ Two w0 W' L L' g g' D1 (D.crash ks).full ∧ Turn (L ++ L') W (L ++ L') W' := by
  subst hn
  have := rcrash_any D.full h.2.1 hwl K c ks (hks.move fun x hx _ => by simp [hx])
  rw [full_crash D ks hok] at this
  refine this.mono ?_
  rintro ev W' ⟨rfl, h1, h2⟩
  exact ⟨rfl, h.right h1 h2 fun x hx => .inl hx⟩
theorem two_read_d (h : Two w0 W L L' g g' D R) (a : Int) (hwl : D.wait.length ≤ 4294967296) :
    Calls Tryd.prog 16 #[.pointer (some ⟨g, 0, none⟩), .int .i64 a] W fun ev W' => ev = .returned (.tuple #[.string (bs (D.read a).2), errV (D.read a).1]) ∧ Keeps [] W W' := read_any D h.1.1 a hwl
theorem two_read_r {D1 : Dk} (h : Two w0 W L L' g g' D1 D.full) (a : Int) (hwl : D.wait.length ≤ 4294967296) :
    Calls Tryd.prog 39 #[.pointer (some ⟨g', 0, none⟩), .int .i64 a] W fun ev W' => ev = .returned (.tuple #[.string (bs (D.read a).2), .int .i64 ((D.read a).1 : Nat)]) ∧ W = W' := by
  have := rread_any D.full h.2.1 a hwl
  rwa [full_rread] at this
end
theorem bare_same (e : Nat) (w : World) (hE : ErrTy w) :
    Calls Tryd.prog 34 #[errV e, .int .i64 (e : Int)] w fun ev w' => ev = .returned (.bool true) ∧ Keeps [] w w' := by
  have := bare_any e e w hE
  rwa [show decide (e = e) = true from decide_eq_true rfl] at this
end Go.Proofs.YtjoolemhcpcnoaaDoor
