/- What a flow that was read is like: plain. Plans as plain data: which job may come, in which order, which columns there are. No program in sight. Flows in memory, as what only reads them sees them. -/
import Derived.Test.YtnjjajanfedjiaaGreatDoorPtuM14
import Derived.Lib.ItoaLen
import Derived.Test.YtnjjajanfedjiaaGreatDoorPtuM2
import Derived.Test.YtnjjajanfedjiaaGreatDoorPtuM15
import Derived.Test.YtnjjajanfedjiaaGreatDoorPtuM3
set_option linter.unusedSimpArgs false
set_option linter.unusedVariables false
namespace Go.Proofs.YtnjjajanfedjiaaGreatDoor
structure NameW (s : Bs) : Prop where
 ne : s ≠ []
 len : s.length ≤ 10
 head : letC (s.headD 0) = true
 all : ∀ c ∈ s, ldC c = true
def NamesW (l : List Bs) : Prop := l ≠ [] ∧ l.length ≤ 1000 ∧ ∀ s ∈ l, NameW s
def ArgW (a : Ar) : Prop := (NameW a.col ∧ a.val = zV) ∨ (a.col = [] ∧ rvB a.val = true)
def ArgZ (a : Ar) : Prop := a = ⟨[], zV⟩ ∨ ArgW a
def BodyW (j : Jb) : Prop :=
 (j.code = 7 ∧ ∃ a b c d, NameW a ∧ NameW b ∧ NameW c ∧ NameW d ∧ j.ins = [a, b] ∧ j.cols = [c, d])
 ∨ (j.code = 5 ∧ ∃ a b, NameW a ∧ NameW b ∧ j.ins = [a, b] ∧ j.cols = [])
 ∨ (j.code = 6 ∧ ∃ a, NameW a ∧ j.ins = [a] ∧ j.cols = [])
 ∨ ((j.code = 1 ∨ j.code = 9) ∧ ∃ a s, NameW a ∧ NameW s ∧ j.ins = [a] ∧ j.cols = [] ∧ j.left = ⟨s, zV⟩ ∧ j.op ∈ cmpL ∧ ArgW j.right)
 ∨ (j.code = 2 ∧ ∃ a c, NameW a ∧ NameW c ∧ j.ins = [a] ∧ j.cols = [c] ∧ ArgW j.left ∧ j.op ∈ [[43], [45], [42]] ∧ ArgW j.right)
 ∨ ((j.code = 3 ∨ j.code = 4) ∧ ∃ a, NameW a ∧ j.ins = [a] ∧ NamesW j.cols)
 ∨ (j.code = 8 ∧ ∃ a c d, NameW a ∧ NameW c ∧ NameW d ∧ j.ins = [a] ∧ j.cols = [c, d] ∧ j.op ∈ [[115, 117, 109], [109, 97, 120]])
structure JobW (j : Jb) : Prop where
 outs : NamesW j.outs
 lo : 0 ≤ j.retry
 hi : j.retry ≤ 5
 left : ArgZ j.left
 right : ArgZ j.right
 op : j.op.length ≤ 10
 body : BodyW j
structure InW (x : In) : Prop where
 name : NameW x.name
 ne : x.cols ≠ []
 len : x.cols.length ≤ 1000
 cols : ∀ c ∈ x.cols, NameW c.name ∧ (c.kind = 1 ∨ c.kind = 2)
structure OutW (x : Pb) : Prop where
 name : NameW x.name
 src : NameW x.src
structure FlW (f : Fl) : Prop where
 nins : f.ins.length ≤ 16
 njobs : f.jobs.length ≤ 16
 nouts : f.outs.length ≤ 16
 ins : ∀ x ∈ f.ins, InW x
 jobs : ∀ x ∈ f.jobs, JobW x
 outs : ∀ x ∈ f.outs, OutW x
end Go.Proofs.YtnjjajanfedjiaaGreatDoor
namespace Go.Proofs.YtnjjajanfedjiaaGreatDoor
def j0 : Jb := ⟨0, 0, [], [], [], [], ⟨[], zV⟩, ⟨[], zV⟩, 0⟩
def jb (f : Fl) (k : Nat) : Jb := f.jobs.getD k j0
def insB (f : Fl) (n : Bs) : Bool := f.ins.any fun x => x.name == n
def mkIx (f : Fl) (n : Bs) : Option Nat := f.jobs.findIdx? fun j => j.outs.contains n
def thereB (f : Fl) (done : List Nat) (n : Bs) : Bool := insB f n || (match mkIx f n with
 | none => false
 | some k => done.contains k)
def readyB (f : Fl) (done : List Nat) (k : Nat) : Bool := (jb f k).ins.all (thereB f done)
def nextI (f : Fl) (out : List Nat) : Option Nat := (List.range f.jobs.length).find? fun i => !out.contains i && readyB f out i
def leftI (f : Fl) (out : List Nat) : Option Nat := (List.range f.jobs.length).find? fun i => !out.contains i
def orderGo (f : Fl) : Nat → List Nat → Except (Int × Int) (List Nat)
 | 0, out => .ok out
 | n + 1, out => match nextI f out with
  | some k => orderGo f n (out ++ [k])
  | none => .error (11, (jb f ((leftI f out).getD 0)).at_)
def orderP (f : Fl) : Except (Int × Int) (List Nat) := orderGo f f.jobs.length []
def madeGo : List (Bs × Int) → List Bs → Except (Int × Int) (List Bs)
 | [], seen => .ok seen
 | p :: l, seen => if p.1 ∈ seen then .error (9, p.2) else madeGo l (p.1 :: seen)
def outsOf (js : List Jb) : List (Bs × Int) := js.flatMap fun j => j.outs.map fun n => (n, j.at_)
def readsGo (seen : List Bs) : List Jb → Except (Int × Int) Unit
 | [] => .ok ()
 | j :: js => if j.ins.any (fun n => !decide (n ∈ seen)) then .error (7, j.at_) else readsGo seen js
def toldGo (seen : List Bs) : List Pb → List Bs → Except (Int × Int) Unit
 | [], _ => .ok ()
 | x :: l, told => if x.src ∉ seen then .error (7, x.at_) else if x.name ∈ told then .error (9, x.at_) else toldGo seen l (x.name :: told)
def namesC (f : Fl) : Except (Int × Int) Unit := do
 let s ← madeGo (f.ins.map fun x => (x.name, x.at_)) []
 let s ← madeGo (outsOf f.jobs) s
 readsGo s f.jobs
 toldGo s f.outs []
abbrev Cm := List (Bs × List Cl)
def getM (m : Cm) (n : Bs) : List Cl := (m.lookup n).getD []
def insM : List In → Cm → Except (Int × Int) Cm
 | [], m => .ok m
 | x :: l, m => if colsB x.cols then insM l ((x.name, x.cols) :: m) else .error (3, x.at_)
def putM : List Bs → List (List Cl) → Cm → Cm
 | n :: ns, c :: cs, m => putM ns cs ((n, c) :: m)
 | _, _, m => m
def jobsM (f : Fl) : List Nat → Cm → Except (Int × Int) Cm
 | [], m => .ok m
 | k :: ks, m => match colsJ (jb f k) ((jb f k).ins.map (getM m)) with
  | .error e => .error (e, (jb f k).at_)
  | .ok cs => jobsM f ks (putM (jb f k).outs cs m)
def checkP (f : Fl) : Except (Int × Int) Cm := do
 let m ← insM f.ins []
 namesC f
 let l ← orderP f
 jobsM f l m
end Go.Proofs.YtnjjajanfedjiaaGreatDoor
namespace Go.Proofs.YtnjjajanfedjiaaGreatDoor
open Go.RowKit Go.BigFrame
theorem own_rdm {w : World} {base : Nat} {e : TypeId} {size n : Nat} {v : Value} {xs : List Value} (h : w.ownsRow base e size v n xs) : ∃ A c, v = .slice A n c ∧ n ≤ c ∧ Rd w [] size A n xs := by
 rcases h.2 with ⟨rfl, rfl⟩ | ⟨g, cap, cur, rfl, hb, hh, hc, r⟩
 ·refine ⟨none, 0, rfl, Nat.le_refl _, ?_⟩
  have : xs = [] := List.eq_nil_of_length_eq_zero (by rw [h.1]; simp)
  rw [this]
  exact Rd.nil
 ·obtain ⟨A, c, e1, h2⟩ := own_form h
  injection e1 with e1 e2 e3
  subst e1 e3
  refine ⟨_, _, rfl, hc, h.1, fun hn => ?_⟩
  obtain ⟨g', e4, hg, hx⟩ := h2 hn
  injection e4 with e4
  injection e4 with e4
  subst e4
  exact ⟨_, rfl, by simp, hg, fun j u hu => by rw [add_at, Nat.zero_add]; exact hx j u hu⟩
def TxIn (W : World) (v : Value) (l : List Bs) : Prop := l.length ≤ 4294967296 ∧ ∃ A c, v = .slice A l.length c ∧ l.length ≤ c ∧ Rd W [] 1 A l.length (strs l)
def ClIn (W : World) (v : Value) (l : List Cl) : Prop := l.length ≤ 4294967296 ∧ ∃ A c, v = .slice A l.length c ∧ l.length ≤ c ∧ Rd W [] 2 A l.length (csCells l)
def InIn (W : World) (cs : List Value) (x : In) : Prop := ∃ v, cs = [.int .i64 x.at_, .string (bs x.name), v] ∧ ClIn W v x.cols
def JbIn (W : World) (cs : List Value) (x : Jb) : Prop := ∃ v2 v3 v4, cs = (jbCells x v2 v3 v4).toList ∧ TxIn W v2 x.outs ∧ TxIn W v3 x.ins ∧ TxIn W v4 x.cols
def PbIn (_ : World) (cs : List Value) (x : Pb) : Prop := cs = [.int .i64 x.at_, .string (bs x.name), .string (bs x.src)]
def LsIn {α : Type} (El : World → List Value → α → Prop) (size : Nat) (W : World) (v : Value) (l : List α) : Prop :=
 l.length ≤ 4294967296 ∧ ∃ A c, v = .slice A l.length c ∧ l.length ≤ c ∧ ∀ j (h : j < l.length), ∃ g cs, A = some ⟨g, 0, none⟩ ∧ g < W.heap.size ∧ cs.length = size ∧ El W cs l[j] ∧ ∀ k u, cs[k]? = some u → W.cell? ⟨g, j * size + k, none⟩ = some u
structure FlIn (W : World) (v0 v1 v2 : Value) (f : Fl) : Prop where
 i0 : LsIn InIn 3 W v0 f.ins
 i1 : LsIn JbIn 15 W v1 f.jobs
 i2 : LsIn PbIn 3 W v2 f.outs
section
variable {W W' : World} {v : Value}
theorem TxIn.keep {l : List Bs} (h : TxIn W v l) (hk : Keeps [] W W') : TxIn W' v l := by
 obtain ⟨h0, A, c, h1, h2, h3⟩ := h
 exact ⟨h0, A, c, h1, h2, h3.keep hk⟩
theorem ClIn.keep {l : List Cl} (h : ClIn W v l) (hk : Keeps [] W W') : ClIn W' v l := by
 obtain ⟨h0, A, c, h1, h2, h3⟩ := h
 exact ⟨h0, A, c, h1, h2, h3.keep hk⟩
theorem InIn.keep {cs : List Value} {x : In} (h : InIn W cs x) (hk : Keeps [] W W') : InIn W' cs x := by
 obtain ⟨v, h1, h2⟩ := h
 exact ⟨v, h1, h2.keep hk⟩
theorem JbIn.keep {cs : List Value} {x : Jb} (h : JbIn W cs x) (hk : Keeps [] W W') : JbIn W' cs x := by
 obtain ⟨v2, v3, v4, h1, h2, h3, h4⟩ := h
 exact ⟨v2, v3, v4, h1, h2.keep hk, h3.keep hk, h4.keep hk⟩
theorem LsIn.keep {α : Type} {El : World → List Value → α → Prop} {size : Nat} {l : List α} (h : LsIn El size W v l) (hk : Keeps [] W W') (hE : ∀ cs x, El W cs x → El W' cs x) : LsIn El size W' v l := by
 obtain ⟨h0, A, c, h1, hc, h2⟩ := h
 refine ⟨h0, A, c, h1, hc, fun j hj => ?_⟩
 obtain ⟨g, cs, e, hg, hl, hx, hc⟩ := h2 j hj
 exact ⟨g, cs, e, Nat.lt_of_lt_of_le hg hk.size, hl, hE _ _ hx, fun k u hu => hk.cell_of (hc k u hu) (by simp)⟩
theorem FlIn.keep {v0 v1 v2 : Value} {f : Fl} (h : FlIn W v0 v1 v2 f) (hk : Keeps [] W W') : FlIn W' v0 v1 v2 f :=
 ⟨h.i0.keep hk fun _ _ h => h.keep hk, h.i1.keep hk fun _ _ h => h.keep hk, h.i2.keep hk fun _ _ h => h⟩
theorem LsIn.of {α : Type} {El : World → List Value → α → Prop} {El' : World → Nat → List Value → α → Prop} {e : TypeId} {size base : Nat} {l : List α} (h : LstIs El' e size W base v l) (hs : ∀ cs x, El' W base cs x → cs.length = size) (hn : l.length ≤ 4294967296) (hE : ∀ cs x, x ∈ l → El' W base cs x → El W cs x) : LsIn El size W v l := by
 have h' := h
 obtain ⟨us, h1, h2, h3⟩ := h'
 obtain ⟨A, c, rfl, hc, _⟩ := own_rdm h2
 refine ⟨hn, A, c, rfl, hc, fun j hj => ?_⟩
 obtain ⟨g, cs, e, hg, hx, hcc⟩ := lst_at h hs j hj
 exact ⟨g, cs, e, hg, hs _ _ hx, hE _ _ (List.getElem_mem hj) hx, hcc⟩
end
end Go.Proofs.YtnjjajanfedjiaaGreatDoor
