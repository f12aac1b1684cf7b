/- A job's text, whatever its code. Flows in memory. What each part of the parser leaves: plain. -/
import Derived.Test.YtdmboaoeholkpaaDoorFlwM13
import Derived.Test.YtdmboaoeholkpaaDoorFlwM12
namespace Go.Proofs.YtdmboaoeholkpaaDoor
open Go.RowKit
theorem ArgZ.arw {a : Ar} (h : ArgZ a) : ArW a := by
  rcases h with h | ⟨_, h⟩ | ⟨_, h⟩
  · rw [h]; exact ⟨by unfold numOk; decide, by decide⟩
  · unfold ArW
    rw [h]; exact ⟨by unfold numOk; decide, by decide⟩
  · obtain ⟨h1, h2, h3⟩ := rvB_num h
    exact ⟨by unfold numOk; omega, by omega⟩
theorem argZ_col {a : Ar} (h : ArgZ a) : a.col.length ≤ 10 := by
  rcases h with h | ⟨h, _⟩ | ⟨h, _⟩
  · rw [h]; decide
  · exact h.len
  · rw [h]; decide
theorem text_any (j : Jb) (hj : JobW j) (base : Nat) (v2 v3 v4 : Value) (w : World) (hE : FEnv w) (h : JRows w base j v2 v3 v4) :
    Calls Tryd.prog 16 #[.agg (jbCells j v2 v3 v4)] w fun e w' => e = .returned (.string (bs (textJ j))) ∧ Keeps [] w w' := by
  obtain ⟨ho, hlo, hhi, hl, hr, hop, hb⟩ := hj
  obtain ⟨at_, code, outs, ins, cols, op, left, right, retry⟩ := j
  dsimp only at ho hlo hhi hl hr hop
  have t1 := argT_len hl
  have t2 := argT_len hr
  have t3 := argZ_col hl
  rcases hb with ⟨e, a, b, c, d, ha, hb, hc, hd, e1, e2⟩ | ⟨e, a, b, ha, hb, e1, e2⟩ | ⟨e, a, ha, e1, e2⟩ | ⟨e, a, s, ha, hs, e1, e2, e3, e4, e5⟩ | ⟨e, a, c, ha, hc, e1, e2, e3, e4, e5⟩ | ⟨e, a, ha, e1, e2⟩ | ⟨e, a, c, d, ha, hc, hd, e1, e2, e3⟩
  · dsimp only at e e1 e2
    subst e e1 e2
    exact text_7 at_ outs a b c d op left right retry base v2 v3 v4 w hE hl.arw hr.arw ⟨(by have := ha.len; omega), (by have := hb.len; omega), (by have := hc.len; omega), (by have := hd.len; omega), (by omega), (by omega), (by omega), (by omega)⟩ h
  · dsimp only at e e1 e2
    subst e e1 e2
    exact text_5 at_ outs a b op left right retry base v2 v3 v4 w hE hl.arw hr.arw ⟨(by have := ha.len; omega), (by have := hb.len; omega), (by omega), (by omega), (by omega), (by omega)⟩ h
  · dsimp only at e e1 e2
    subst e e1 e2
    exact text_6 at_ outs a op left right retry base v2 v3 v4 w hE hl.arw hr.arw ⟨(by have := ha.len; omega), (by omega), (by omega), (by omega), (by omega)⟩ h
  · rcases e with e | e
    · dsimp only at e e1 e2
      subst e e1 e2
      exact text_1 at_ outs a op left right retry base v2 v3 v4 w hE hl.arw hr.arw ⟨(by have := ha.len; omega), (by omega), (by omega), (by omega), (by omega)⟩ h
    · dsimp only at e e1 e2
      subst e e1 e2
      exact text_9 at_ outs a op left right retry base v2 v3 v4 w hE hl.arw hr.arw ⟨(by have := ha.len; omega), (by omega), (by omega), (by omega), (by omega)⟩ h
  · dsimp only at e e1 e2
    subst e e1 e2
    exact text_2 at_ outs a c op left right retry base v2 v3 v4 w hE hl.arw hr.arw ⟨(by have := ha.len; omega), (by have := hc.len; omega), (by omega), (by omega), (by omega), (by omega)⟩ h
  · have hn := names_len e2
    rcases e with e | e
    · dsimp only at e e1 e2 hn
      subst e e1
      exact text_3 at_ outs a cols op left right retry base v2 v3 v4 w hE (by have := ha.len; omega) h e2.1 (by have := e2.2.1; omega) (by omega)
    · dsimp only at e e1 e2 hn
      subst e e1
      exact text_4 at_ outs a cols op left right retry base v2 v3 v4 w hE (by have := ha.len; omega) h e2.1 (by have := e2.2.1; omega) (by omega)
  · dsimp only at e e1 e2
    subst e e1 e2
    exact text_8 at_ outs a c d op left right retry base v2 v3 v4 w hE hl.arw hr.arw ⟨(by have := ha.len; omega), (by have := hc.len; omega), (by have := hd.len; omega), (by omega), (by omega), (by omega), (by omega)⟩ h
theorem textJ_len (j : Jb) (hj : JobW j) : (textJ j).length ≤ 12100 := by
  obtain ⟨ho, hlo, hhi, hl, hr, hop, hb⟩ := hj
  obtain ⟨at_, code, outs, ins, cols, op, left, right, retry⟩ := j
  dsimp only at ho hlo hhi hl hr hop
  have t1 := argT_len hl
  have t2 := argT_len hr
  have t3 := argZ_col hl
  rcases hb with ⟨e, a, b, c, d, ha, hb, hc, hd, e1, e2⟩ | ⟨e, a, b, ha, hb, e1, e2⟩ | ⟨e, a, ha, e1, e2⟩ | ⟨e, a, s, ha, hs, e1, e2, e3, e4, e5⟩ | ⟨e, a, c, ha, hc, e1, e2, e3, e4, e5⟩ | ⟨e, a, ha, e1, e2⟩ | ⟨e, a, c, d, ha, hc, hd, e1, e2, e3⟩
  case' inr.inr.inr.inl => rcases e with e | e
  case' inr.inr.inr.inr.inr.inl => have hn := names_len e2
  case' inr.inr.inr.inr.inr.inl => rcases e with e | e
  all_goals
    dsimp only at e e1
    subst e e1
    try dsimp only at hn
    try (dsimp only at e2; subst e2)
    have := ha.len
    try have := hb.len
    try have := hc.len
    try have := hd.len
    simp [textJ, wordW, wordsL]
    omega
theorem jobT_len (j : Jb) (hj : JobW j) : (jobT j).length ≤ 25000 := by
  unfold jobT
  have h1 := textJ_len j hj
  have h2 := names_len hj.outs
  have h3 := itoa_len (n := j.retry) (by have := hj.lo; omega) (by have := hj.hi; omega)
  split
  · simp only [List.length_append, List.length_cons, List.length_nil]
    omega
  · simp only [List.length_append, List.length_cons, List.length_nil]
    omega
end Go.Proofs.YtdmboaoeholkpaaDoor
namespace Go.Proofs.YtdmboaoeholkpaaDoor
open Go.RowKit Go.BigFrame
attribute [local go_sem] bs_size bs_extract bs_append bs_toList
theorem own_far' {W W' : World} {base n size : Nat} {e : TypeId} {u : Value} {xs : List Value} {L : List Nat} (h : W.ownsRow base e size u n xs) (hk : Keeps L W W') (hL : ∀ x ∈ L, ∃ t, OfTy W x t ∧ e ≠ t) : W'.ownsRow base e size u n xs :=
  own_keep h hk (fun g hg hm => by
    obtain ⟨t, h1, h2⟩ := hL g hm
    exact (own_ty h g hg).ne h1 h2 rfl)
/-- A list of structures, each with rows of its own. -/
def LstIs {α : Type} (El : World → Nat → List Value → α → Prop) (e : TypeId) (size : Nat) (W : World) (base : Nat) (v : Value) (l : List α) : Prop :=
  ∃ us : List (List Value), us.length = l.length ∧ W.ownsRow base e size v l.length us.flatten ∧ ∀ j (h : j < l.length) (h' : j < us.length), El W base us[j] l[j]
section
variable {α : Type} {El : World → Nat → List Value → α → Prop} {e : TypeId} {size base : Nat} {W W' : World} {v u : Value} {l : List α} {L : List Nat}
theorem LstIs.nil : LstIs El e size W base (.slice none 0 0) ([] : List α) := ⟨[], rfl, World.ownsRow_nil _ _ _ _, fun j h => absurd h (by simp)⟩
theorem LstIs.far (h : LstIs El e size W base v l) (hk : Keeps L W W') (hL : ∀ x ∈ L, ∃ t, OfTy W x t ∧ e ≠ t) (hE : ∀ cs x, El W base cs x → El W' base cs x) : LstIs El e size W' base v l := by
  obtain ⟨us, h1, h2, h3⟩ := h
  exact ⟨us, h1, own_far' h2 hk hL, fun j h h' => hE _ _ (h3 j h h')⟩
theorem LstIs.snoc {us : List (List Value)} {cs : List Value} {x : α} (hul : us.length = l.length) (hel : ∀ j (h : j < l.length) (h' : j < us.length), El W base us[j] l[j]) (hx : El W base cs x) (ho : W.ownsRow base e size u (l.length + 1) (us.flatten ++ cs)) : LstIs El e size W base u (l ++ [x]) := by
  refine ⟨us ++ [cs], by simp [hul], by simpa using ho, fun j h h' => ?_⟩
  by_cases hj : j < l.length
  · rw [List.getElem_append_left (by omega), List.getElem_append_left hj]
    exact hel j hj (by omega)
  · have hj' : j = l.length := by simp at h; omega
    subst hj'
    rw [List.getElem_append_right (by omega), List.getElem_append_right (Nat.le_refl _)]
    simpa [hul] using hx
end
def InEl (W : World) (base : Nat) (cs : List Value) (x : In) : Prop := ∃ v, cs = [.int .i64 x.at_, .string (bs x.name), v] ∧ W.ownsRow base 61 2 v x.cols.length (csCells x.cols)
def JbEl (W : World) (base : Nat) (cs : List Value) (x : Jb) : Prop := ∃ v2 v3 v4, cs = (jbCells x v2 v3 v4).toList ∧ JRows W base x v2 v3 v4
def PbEl (_ : World) (_ : Nat) (cs : List Value) (x : Pb) : Prop := cs = [.int .i64 x.at_, .string (bs x.name), .string (bs x.src)]
abbrev InsIs := LstIs InEl 58 3
abbrev JobsIs := LstIs JbEl 71 15
abbrev OutsIs := LstIs PbEl 75 3
/-- The types of what a flow is made of. -/
def flTys : List TypeId := [9, 61, 58, 71, 75, 27, 44]
/-- What is written is of none of some types. -/
def FarOf (S : List TypeId) (L : List Nat) (W W' : World) : Prop := Keeps L W W' ∧ ∀ x ∈ L, ∃ t, OfTy W x t ∧ t ∉ S
theorem FarOf.ne {S : List TypeId} {L : List Nat} {W W' : World} (h : FarOf S L W W') {e : TypeId} (he : e ∈ S) : ∀ x ∈ L, ∃ t, OfTy W x t ∧ e ≠ t := fun x hx => by
  obtain ⟨t, h1, h2⟩ := h.2 x hx
  exact ⟨t, h1, fun e' => h2 (e' ▸ he)⟩
theorem FarOf.mono {S S' : List TypeId} {L : List Nat} {W W' : World} (h : FarOf S L W W') (hs : ∀ e ∈ S', e ∈ S) : FarOf S' L W W' :=
  ⟨h.1, fun x hx => by obtain ⟨t, h1, h2⟩ := h.2 x hx; exact ⟨t, h1, fun h3 => h2 (hs t h3)⟩⟩
theorem FarOf.blk {S : List TypeId} {L : List Nat} {W W' : World} (h : FarOf S L W W') {e : TypeId} {g : Nat} {cs : Array Value} (hb : Blk W g e cs) (he : e ∈ S) : Blk W' g e cs :=
  hb.keep h.1 (fun hm => by obtain ⟨t, h1, h2⟩ := h.ne he g hm; exact hb.ty.ne h1 h2 rfl)
section
variable {W W' : World} {base : Nat} {L : List Nat} {S : List TypeId} {v : Value}
theorem InEl.far (h : FarOf S L W W') (hs : 61 ∈ S) : ∀ cs x, InEl W base cs x → InEl W' base cs x := fun cs x ⟨v, h1, h2⟩ => ⟨v, h1, own_far' h2 h.1 (h.ne hs)⟩
theorem JbEl.far (h : FarOf S L W W') (hs : 9 ∈ S) : ∀ cs x, JbEl W base cs x → JbEl W' base cs x := fun cs x ⟨v2, v3, v4, h1, h2⟩ => ⟨v2, v3, v4, h1, ⟨own_far' h2.o2 h.1 (h.ne hs), own_far' h2.o3 h.1 (h.ne hs), own_far' h2.o4 h.1 (h.ne hs)⟩⟩
theorem InsIs.far {l : List In} (hl : InsIs W base v l) (h : FarOf S L W W') (hs : 61 ∈ S) (hs2 : 58 ∈ S) : InsIs W' base v l := LstIs.far hl h.1 (h.ne hs2) (InEl.far h hs)
theorem JobsIs.far {l : List Jb} (hl : JobsIs W base v l) (h : FarOf S L W W') (hs : 9 ∈ S) (hs2 : 71 ∈ S) : JobsIs W' base v l := LstIs.far hl h.1 (h.ne hs2) (JbEl.far h hs)
theorem OutsIs.far {l : List Pb} (hl : OutsIs W base v l) (h : FarOf S L W W') (hs2 : 75 ∈ S) : OutsIs W' base v l := LstIs.far hl h.1 (h.ne hs2) (fun _ _ h => h)
end
/-- A flow that is being read. -/
structure FlSt (W : World) (base pb rb fb b : Nat) (v0 v1 v2 : Value) (ins : List In) (jobs : List Jb) (outs : List Pb) : Prop where
  pbk : Blk W pb 44 #[.pointer (some ⟨b, 0, none⟩)]
  rbk : Blk W rb 27 #[.slice none 0 0, .slice none 0 0, .slice none 0 0]
  fbk : Blk W fb 27 #[v0, v1, v2]
  ne : rb ≠ fb
  lo : base ≤ fb
  i0 : InsIs W base v0 ins
  i1 : JobsIs W base v1 jobs
  i2 : OutsIs W base v2 outs
section
variable {W W' W7 : World} {base pb rb fb b k : Nat} {v0 v1 v2 u : Value} {ins : List In} {jobs : List Jb} {outs : List Pb} {L : List Nat} {l : List Tk} {o : Obj} {cs : List Value} {us : List (List Value)}
theorem FlSt.far (h : FlSt W base pb rb fb b v0 v1 v2 ins jobs outs) (hf : FarOf flTys L W W') : FlSt W' base pb rb fb b v0 v1 v2 ins jobs outs :=
  ⟨hf.blk h.pbk (by decide), hf.blk h.rbk (by decide), hf.blk h.fbk (by decide), h.ne, h.lo, h.i0.far hf (by decide) (by decide), h.i1.far hf (by decide) (by decide), h.i2.far hf (by decide)⟩
theorem FlSt.keep (h : FlSt W base pb rb fb b v0 v1 v2 ins jobs outs) (hk : Keeps [] W W') : FlSt W' base pb rb fb b v0 v1 v2 ins jobs outs :=
  h.far ⟨hk, fun x hx => by cases hx⟩
theorem FlSt.ps (h : FlSt W base pb rb fb b v0 v1 v2 ins jobs outs) (hp : Ps W b l) (hk : Keeps [b] W W') : FlSt W' base pb rb fb b v0 v1 v2 ins jobs outs :=
  h.far ⟨hk, fun x hx => ⟨46, by rw [List.mem_singleton.1 hx]; exact hp.ty, by decide⟩⟩
/-- An append, and a store into the flow's box, write these blocks alone. -/
theorem grown_set {e : TypeId} {S : List TypeId} (h : FlSt W base pb rb fb b v0 v1 v2 ins jobs outs) {row : Option Nat} (hg : (W.alloc o).grownBy W7 row) (hr : ∀ x, row = some x → OfTy W x e) (he : e ∉ S) (hf : 27 ∉ S) :
    FarOf S (row.toList ++ [fb]) W (W7.setCell ⟨fb, k, none⟩ u) := by
  refine ⟨(Keeps.grown ((Keeps.refl _ W).alloc o) hg (fun g hg => .inl (by rw [hg]; simp))).setCell (.inl (by simp)) _, fun x hx => ?_⟩
  rcases List.mem_append.1 hx with hx | hx
  · cases row with
    | none => cases hx
    | some y => simp at hx; exact ⟨e, hr x (by rw [hx]), he⟩
  · rw [List.mem_singleton.1 hx]
    exact ⟨_, h.fbk.ty, hf⟩
theorem FlSt.fbk7 {e : TypeId} (h : FlSt W base pb rb fb b v0 v1 v2 ins jobs outs) {row : Option Nat} (hg : (W.alloc o).grownBy W7 row) (hr : ∀ x, row = some x → OfTy W x e) (he : e ≠ 27) : Blk W7 fb 27 #[v0, v1, v2] :=
  (hg.block fb (h.fbk.alloc o).lt (fun e' => (hr fb e'.symm).ne h.fbk.ty he rfl)).trans (h.fbk.alloc o)
theorem FlSt.keeps7 {w : World} (h : FlSt W w.heap.size pb rb fb b v0 v1 v2 ins jobs outs) (hk : Keeps [b] w W) {row : Option Nat} (hg : (W.alloc o).grownBy W7 row) (hr : ∀ x, row = some x → w.heap.size ≤ x) : Keeps [b] w (W7.setCell ⟨fb, k, none⟩ u) :=
  ((hk.alloc o).grown hg (fun x hx => .inr (hr x hx))).setCell (.inr h.lo) _
theorem own_set7 {e : TypeId} {size n : Nat} {xs : List Value} (h : FlSt W base pb rb fb b v0 v1 v2 ins jobs outs) {row : Option Nat} (hg : (W.alloc o).grownBy W7 row) (hr : ∀ x, row = some x → OfTy W x e) (he : e ≠ 27) (hown : W7.ownsRow base e size u n xs) {u' : Value} : (W7.setCell ⟨fb, k, none⟩ u').ownsRow base e size u n xs :=
  own_far' (L := [fb]) hown ((Keeps.refl _ _).setCell (.inl (by simp)) _) (fun x hx => by rw [List.mem_singleton.1 hx]; exact ⟨_, (h.fbk7 hg hr he).ty, he⟩)
theorem ps7 {e : TypeId} (h : FlSt W base pb rb fb b v0 v1 v2 ins jobs outs) (hp : Ps W b l) {row : Option Nat} (hg : (W.alloc o).grownBy W7 row) (hr : ∀ x, row = some x → OfTy W x e) (he1 : e ≠ 46) (he2 : e ≠ 49) : Ps (W7.setCell ⟨fb, k, none⟩ u) b l := by
  have hf := grown_set (S := [46, 49]) (k := k) (u := u) h hg hr (by simp [he1, he2]) (by decide)
  exact hp.far hf.1 (fun x hx => by obtain ⟨t, h1, h2⟩ := hf.2 x hx; exact ⟨t, h1, fun e => h2 (by simp [e]), fun e => h2 (by simp [e])⟩)
theorem set3_0 {W : World} {g : Nat} {e : TypeId} {a b c u : Value} (h : Blk W g e #[a, b, c]) : Blk (W.setCell ⟨g, 0, none⟩ u) g e #[u, b, c] := (h.set 0 u).congr rfl
theorem set3_1 {W : World} {g : Nat} {e : TypeId} {a b c u : Value} (h : Blk W g e #[a, b, c]) : Blk (W.setCell ⟨g, 1, none⟩ u) g e #[a, u, c] := (h.set 1 u).congr rfl
theorem set3_2 {W : World} {g : Nat} {e : TypeId} {a b c u : Value} (h : Blk W g e #[a, b, c]) : Blk (W.setCell ⟨g, 2, none⟩ u) g e #[a, b, u] := (h.set 2 u).congr rfl
theorem FlSt.app0 {x : In} (h : FlSt W base pb rb fb b v0 v1 v2 ins jobs outs) (hul : us.length = ins.length) (ho : W.ownsRow base 58 3 v0 ins.length us.flatten) (hel : ∀ j (h : j < ins.length) (h' : j < us.length), InEl W base us[j] ins[j]) (hx : InEl W base cs x) (hg : (W.alloc o).grownBy W7 v0.ownBlock) (hown : W7.ownsRow base 58 3 u (ins.length + 1) (us.flatten ++ cs)) : FlSt (W7.setCell ⟨fb, 0, none⟩ u) base pb rb fb b u v1 v2 (ins ++ [x]) jobs outs := by
  have hr := own_ty ho
  have hf := grown_set (S := [9, 61, 71, 75, 44]) (k := 0) (u := u) h hg hr (by decide) (by decide)
  have hrb : Blk (W7.setCell ⟨fb, 0, none⟩ u) rb 27 #[.slice none 0 0, .slice none 0 0, .slice none 0 0] := h.rbk.keep hf.1 (fun hm => by
    rcases List.mem_append.1 hm with hm | hm
    · exact (hr rb (by simpa using hm)).ne h.rbk.ty (by decide) rfl
    · exact h.ne (List.mem_singleton.1 hm))
  exact ⟨hf.blk h.pbk (by decide), hrb, set3_0 (h.fbk7 hg hr (by decide)), h.ne, h.lo, LstIs.snoc hul (fun j h1 h2 => InEl.far hf (by decide) _ _ (hel j h1 h2)) (InEl.far hf (by decide) _ _ hx) (own_set7 h hg hr (by decide) hown), h.i1.far hf (by decide) (by decide), h.i2.far hf (by decide)⟩
theorem FlSt.app1 {x : Jb} (h : FlSt W base pb rb fb b v0 v1 v2 ins jobs outs) (hul : us.length = jobs.length) (ho : W.ownsRow base 71 15 v1 jobs.length us.flatten) (hel : ∀ j (h : j < jobs.length) (h' : j < us.length), JbEl W base us[j] jobs[j]) (hx : JbEl W base cs x) (hg : (W.alloc o).grownBy W7 v1.ownBlock) (hown : W7.ownsRow base 71 15 u (jobs.length + 1) (us.flatten ++ cs)) : FlSt (W7.setCell ⟨fb, 1, none⟩ u) base pb rb fb b v0 u v2 ins (jobs ++ [x]) outs := by
  have hr := own_ty ho
  have hf := grown_set (S := [9, 61, 58, 75, 44]) (k := 1) (u := u) h hg hr (by decide) (by decide)
  have hrb : Blk (W7.setCell ⟨fb, 1, none⟩ u) rb 27 #[.slice none 0 0, .slice none 0 0, .slice none 0 0] := h.rbk.keep hf.1 (fun hm => by
    rcases List.mem_append.1 hm with hm | hm
    · exact (hr rb (by simpa using hm)).ne h.rbk.ty (by decide) rfl
    · exact h.ne (List.mem_singleton.1 hm))
  exact ⟨hf.blk h.pbk (by decide), hrb, set3_1 (h.fbk7 hg hr (by decide)), h.ne, h.lo, h.i0.far hf (by decide) (by decide), LstIs.snoc hul (fun j h1 h2 => JbEl.far hf (by decide) _ _ (hel j h1 h2)) (JbEl.far hf (by decide) _ _ hx) (own_set7 h hg hr (by decide) hown), h.i2.far hf (by decide)⟩
theorem FlSt.app2 {x : Pb} (h : FlSt W base pb rb fb b v0 v1 v2 ins jobs outs) (hul : us.length = outs.length) (ho : W.ownsRow base 75 3 v2 outs.length us.flatten) (hel : ∀ j (h : j < outs.length) (h' : j < us.length), PbEl W base us[j] outs[j]) (hx : PbEl W base cs x) (hg : (W.alloc o).grownBy W7 v2.ownBlock) (hown : W7.ownsRow base 75 3 u (outs.length + 1) (us.flatten ++ cs)) : FlSt (W7.setCell ⟨fb, 2, none⟩ u) base pb rb fb b v0 v1 u ins jobs (outs ++ [x]) := by
  have hr := own_ty ho
  have hf := grown_set (S := [9, 61, 58, 71, 44]) (k := 2) (u := u) h hg hr (by decide) (by decide)
  have hrb : Blk (W7.setCell ⟨fb, 2, none⟩ u) rb 27 #[.slice none 0 0, .slice none 0 0, .slice none 0 0] := h.rbk.keep hf.1 (fun hm => by
    rcases List.mem_append.1 hm with hm | hm
    · exact (hr rb (by simpa using hm)).ne h.rbk.ty (by decide) rfl
    · exact h.ne (List.mem_singleton.1 hm))
  exact ⟨hf.blk h.pbk (by decide), hrb, set3_2 (h.fbk7 hg hr (by decide)), h.ne, h.lo, h.i0.far hf (by decide) (by decide), h.i1.far hf (by decide) (by decide), LstIs.snoc hul (fun j h1 h2 => hel j h1 h2) hx (own_set7 h hg hr (by decide) hown)⟩
end
/-! ### The plain reading, part by part -/
def flow3 (a : List In) (b : List Jb) (p : List Pb × List Tk) : Except (Int × Int) (Fl × List Tk) := .ok (⟨a, b, p.1⟩, p.2)
def flow2 (a : List In) (p : List Jb × List Tk) : Except (Int × Int) (Fl × List Tk) := manyP [111, 117, 116] outP p.2.length p.2 [] >>= flow3 a p.1
def flow1 (p : List In × List Tk) : Except (Int × Int) (Fl × List Tk) := manyP [106, 111, 98] jobP p.2.length p.2 [] >>= flow2 p.1
theorem flowP_eq (l : List Tk) : flowP l = manyP [105, 110] inputP l.length l [] >>= flow1 := by
  unfold flowP
  rcases manyP [105, 110] inputP l.length l [] with x | ⟨a, r⟩
  · rfl
  · rw [ok_bind, ok_bind]
    show _ = manyP [106, 111, 98] jobP r.length r [] >>= flow2 a
    dsimp only
    rcases manyP [106, 111, 98] jobP r.length r [] with x | ⟨b, r2⟩
    · rfl
    · rw [ok_bind, ok_bind]
      show _ = manyP [111, 117, 116] outP r2.length r2 [] >>= flow3 a b
      dsimp only
      rcases manyP [111, 117, 116] outP r2.length r2 [] with x | ⟨c, r3⟩ <;> rfl
theorem many_no {α : Type} {w : Bs} {one : List Tk → Except (Int × Int) (α × List Tk)} {n : Nat} {q : List Tk} {acc : List α} (h : seeP w q = false) : manyP w one n q acc = .ok (acc, q) := by
  cases n with
  | zero => rfl
  | succ n => unfold manyP; rw [h]; rfl
theorem many_full {α : Type} {w : Bs} {one : List Tk → Except (Int × Int) (α × List Tk)} {n : Nat} {q : List Tk} {acc : List α} (h : seeP w q = true) (hn : 0 < n) (hl : acc.length = 16) : manyP w one n q acc = .error (4, (hdT q).at_) := by
  obtain ⟨n, rfl⟩ : ∃ m, n = m + 1 := ⟨n - 1, by omega⟩
  unfold manyP
  rw [h, if_pos rfl, if_pos hl]
  rfl
theorem many_err {α : Type} {w : Bs} {one : List Tk → Except (Int × Int) (α × List Tk)} {n : Nat} {q : List Tk} {acc : List α} {x : Int × Int} (h : seeP w q = true) (hn : 0 < n) (hl : acc.length ≠ 16) (ho : one q = .error x) : manyP w one n q acc = .error x := by
  obtain ⟨n, rfl⟩ : ∃ m, n = m + 1 := ⟨n - 1, by omega⟩
  unfold manyP
  rw [h, if_pos rfl, if_neg hl, ho]
  rfl
theorem many_ok {α : Type} {w : Bs} {one : List Tk → Except (Int × Int) (α × List Tk)} {n : Nat} {q r : List Tk} {acc : List α} {x : α} (h : seeP w q = true) (hn : 0 < n) (hl : acc.length ≠ 16) (ho : one q = .ok (x, r)) : manyP w one n q acc = manyP w one (n - 1) r (acc ++ [x]) := by
  obtain ⟨n, rfl⟩ : ∃ m, n = m + 1 := ⟨n - 1, by omega⟩
  conv => lhs; unfold manyP
  rw [h, if_pos rfl, if_neg hl, ho]
  rfl
/-- What flow hands back. -/
def FlowOut (R : Except (Int × Int) (Fl × List Tk)) (b base : Nat) (e : Ending) (w' : World) : Prop := match R with
  | .ok (f, r) => ∃ v0 v1 v2, e = .returned (.agg #[v0, v1, v2]) ∧ InsIs w' base v0 f.ins ∧ JobsIs w' base v1 f.jobs ∧ OutsIs w' base v2 f.outs ∧ Ps w' b r
  | .error x => Thrown x e w'
theorem full_yes {W : World} {pb b : Nat} {l : List Tk} (n : Nat) (hq : Blk W pb 44 #[.pointer (some ⟨b, 0, none⟩)]) (h : Ps W b l) (hn : n = 16) :
    Calls Tryd.prog 19 #[.int .i64 n, .pointer (some ⟨pb, 0, none⟩)] W fun e W' => Thrown (4, (hdT l).at_) e W' ∧ Keeps [] W W' := by
  have p0 : W.cell? ⟨pb, 0, none⟩ = some (.pointer (some ⟨b, 0, none⟩)) := hq.cell 0
  have HF := Lib.hid (fail_any' 4 W h)
  have lp := hq.lt
  have t1 : ((n : Int) == 16) = true := by rw [beq_iff_eq]; omega
  clear hq h hn
  go_enter Tryd.func19, Tryd.ntmps19
  go_wp2_with fail
  refine HF.out.mono ?_
  rintro ev w9 ⟨⟨gi, rfl, hb⟩, hk9⟩
  exact ⟨rfl, ⟨gi, rfl, hb⟩, hk9⟩
theorem full_no {W : World} {pb b : Nat} {l : List Tk} (n : Nat) (hq : Blk W pb 44 #[.pointer (some ⟨b, 0, none⟩)]) (h : Ps W b l) (hn : n ≠ 16) :
    Calls Tryd.prog 19 #[.int .i64 n, .pointer (some ⟨pb, 0, none⟩)] W fun e W' => e = .returned (.tuple #[]) ∧ W = W' := by
  have p0 : W.cell? ⟨pb, 0, none⟩ = some (.pointer (some ⟨b, 0, none⟩)) := hq.cell 0
  have lp := hq.lt
  have t1 : ((n : Int) == 16) = false := by rw [beq_eq_false_iff_ne]; omega
  clear hq h hn
  go_enter Tryd.func19, Tryd.ntmps19
  go_wp2
  first | go_end0 | refine bodyPost_ret (results_none rfl _ _ _) rfl ?_
  exact ⟨rfl, rfl⟩
end Go.Proofs.YtdmboaoeholkpaaDoor
namespace Go.Proofs.YtdmboaoeholkpaaDoor
theorem bind_ok {E α β : Type} {x : Except E α} {f : α → Except E β} {c : β} (h : (x >>= f) = .ok c) : ∃ a, x = .ok a ∧ f a = .ok c := by
  rcases x with e | a
  · cases h
  · exact ⟨a, rfl, h⟩
theorem colsGo_le : ∀ (n : Nat) {l r : List Tk} {acc cs : List Cl}, colsGo n l acc = .ok (cs, r) → r.length ≤ l.length
  | 0, l, r, acc, cs, h => by
    injection h with h
    injection h with _ h
    rw [h]
    exact Nat.le_refl _
  | n + 1, l, r, acc, cs, h => by
    rw [colsGo_succ] at h
    obtain ⟨⟨s, r1⟩, h1, h⟩ := bind_ok h
    obtain ⟨⟨k, r2⟩, h2, h⟩ := bind_ok h
    dsimp only at h h2
    have e1 := nameP_len h1
    have e2 := oneP_len h2
    split at h
    · have := colsGo_le n h
      rw [List.length_tail] at this
      omega
    · injection h with h
      injection h with _ h
      subst h
      omega
theorem ofP_le {j j2 : Jb} {l r : List Tk} (h : ofP j l = .ok (j2, r)) : r.length ≤ l.length := by
  unfold ofP at h
  obtain ⟨⟨s0, q0⟩, h0, h⟩ := bind_ok h
  try dsimp only at h
  have e0 := nameP_len h0
  obtain ⟨q1, h1, h⟩ := bind_ok h
  try dsimp only at h
  have e1 := mustP_len h1
  obtain ⟨⟨s2, q2⟩, h2, h⟩ := bind_ok h
  try dsimp only at h
  have e2 := nameP_len h2
  injection h with h
  injection h with _ h
  subst h
  first | omega | (simp only [List.length_tail] at *; omega)
theorem whereP_le {j j2 : Jb} {l r : List Tk} (h : whereP j l = .ok (j2, r)) : r.length ≤ l.length := by
  unfold whereP at h
  obtain ⟨q0, h0, h⟩ := bind_ok h
  try dsimp only at h
  have e0 := mustP_len h0
  obtain ⟨⟨s1, q1⟩, h1, h⟩ := bind_ok h
  try dsimp only at h
  have e1 := nameP_len h1
  obtain ⟨⟨s2, q2⟩, h2, h⟩ := bind_ok h
  try dsimp only at h
  have e2 := oneP_len h2
  obtain ⟨⟨s3, q3⟩, h3, h⟩ := bind_ok h
  try dsimp only at h
  have e3 := argP_le h3
  injection h with h
  injection h with _ h
  subst h
  first | omega | (simp only [List.length_tail] at *; omega)
theorem setP_le {j j2 : Jb} {l r : List Tk} (h : setP j l = .ok (j2, r)) : r.length ≤ l.length := by
  unfold setP at h
  obtain ⟨q0, h0, h⟩ := bind_ok h
  try dsimp only at h
  have e0 := mustP_len h0
  obtain ⟨⟨s1, q1⟩, h1, h⟩ := bind_ok h
  try dsimp only at h
  have e1 := nameP_len h1
  obtain ⟨q2, h2, h⟩ := bind_ok h
  try dsimp only at h
  have e2 := mustP_len h2
  obtain ⟨⟨s3, q3⟩, h3, h⟩ := bind_ok h
  try dsimp only at h
  have e3 := argP_le h3
  obtain ⟨⟨s4, q4⟩, h4, h⟩ := bind_ok h
  try dsimp only at h
  have e4 := oneP_len h4
  obtain ⟨⟨s5, q5⟩, h5, h⟩ := bind_ok h
  try dsimp only at h
  have e5 := argP_le h5
  injection h with h
  injection h with _ h
  subst h
  first | omega | (simp only [List.length_tail] at *; omega)
theorem byP_le {j j2 : Jb} {l r : List Tk} (h : byP j l = .ok (j2, r)) : r.length ≤ l.length := by
  unfold byP at h
  obtain ⟨q0, h0, h⟩ := bind_ok h
  try dsimp only at h
  have e0 := mustP_len h0
  obtain ⟨⟨s1, q1⟩, h1, h⟩ := bind_ok h
  try dsimp only at h
  have e1 := namesP_le h1
  injection h with h
  injection h with _ h
  subst h
  first | omega | (simp only [List.length_tail] at *; omega)
theorem groupP_le {j j2 : Jb} {l r : List Tk} (h : groupP j l = .ok (j2, r)) : r.length ≤ l.length := by
  unfold groupP at h
  obtain ⟨q0, h0, h⟩ := bind_ok h
  try dsimp only at h
  have e0 := mustP_len h0
  obtain ⟨⟨s1, q1⟩, h1, h⟩ := bind_ok h
  try dsimp only at h
  have e1 := nameP_len h1
  obtain ⟨⟨s2, q2⟩, h2, h⟩ := bind_ok h
  try dsimp only at h
  have e2 := oneP_len h2
  obtain ⟨⟨s3, q3⟩, h3, h⟩ := bind_ok h
  try dsimp only at h
  have e3 := nameP_len h3
  injection h with h
  injection h with _ h
  subst h
  first | omega | (simp only [List.length_tail] at *; omega)
theorem joinP_le {j j2 : Jb} {l r : List Tk} (h : joinP j l = .ok (j2, r)) : r.length ≤ l.length := by
  unfold joinP at h
  obtain ⟨⟨s, r1⟩, h1, h⟩ := bind_ok h
  obtain ⟨r2, h2, h⟩ := bind_ok h
  have e1 := ofP_le h1
  have e2 := mustP_len h2
  have e3 := ofP_le h
  omega
theorem unionP_le {j j2 : Jb} {l r : List Tk} (h : unionP j l = .ok (j2, r)) : r.length ≤ l.length := by
  unfold unionP at h
  obtain ⟨⟨s0, q0⟩, h0, h⟩ := bind_ok h
  try dsimp only at h
  have e0 := nameP_len h0
  obtain ⟨q1, h1, h⟩ := bind_ok h
  try dsimp only at h
  have e1 := mustP_len h1
  obtain ⟨⟨s2, q2⟩, h2, h⟩ := bind_ok h
  try dsimp only at h
  have e2 := nameP_len h2
  injection h with h
  injection h with _ h
  subst h
  first | omega | (simp only [List.length_tail] at *; omega)
theorem restP_le {j j2 : Jb} {l r : List Tk} (h : restP j l = .ok (j2, r)) : r.length ≤ l.length := by
  unfold restP at h
  split at h
  · exact whereP_le h
  split at h
  · exact setP_le h
  split at h
  · exact byP_le h
  split at h
  · exact groupP_le h
  injection h with h
  injection h with _ h
  rw [h]
  exact Nat.le_refl _
theorem bodyP_le {j j2 : Jb} {l r : List Tk} (h : bodyP j l = .ok (j2, r)) : r.length ≤ l.length := by
  unfold bodyP at h
  have ht : l.tail.length ≤ l.length := by rw [List.length_tail]; omega
  split at h
  · cases h
  split at h
  · exact Nat.le_trans (joinP_le h) ht
  split at h
  · exact Nat.le_trans (unionP_le h) ht
  obtain ⟨⟨s, r1⟩, h1, h⟩ := bind_ok h
  have e1 := nameP_len h1
  have e2 := restP_le h
  omega
theorem retryP_le {l r : List Tk} {n : Int} (h : retryP l = .ok (n, r)) : r.length ≤ l.length := by
  unfold retryP at h
  split at h
  · split at h
    · cases h
    · split at h
      · split at h
        · cases h
        · injection h with h
          injection h with _ h
          rw [← h, List.length_tail, List.length_tail]
          omega
      · cases h
  · injection h with h
    injection h with _ h
    rw [h]
    exact Nat.le_refl _
theorem inputP_le {x : In} {l r : List Tk} (hl : 0 < l.length) (h : inputP l = .ok (x, r)) : r.length < l.length := by
  unfold inputP at h
  obtain ⟨q0, h0, h⟩ := bind_ok h
  try dsimp only at h
  have e0 := mustP_len h0
  obtain ⟨⟨s1, q1⟩, h1, h⟩ := bind_ok h
  try dsimp only at h
  have e1 := nameP_len h1
  obtain ⟨q2, h2, h⟩ := bind_ok h
  try dsimp only at h
  have e2 := mustP_len h2
  obtain ⟨⟨s3, q3⟩, h3, h⟩ := bind_ok h
  try dsimp only at h
  have e3 := colsGo_le _ h3
  obtain ⟨q4, h4, h⟩ := bind_ok h
  try dsimp only at h
  have e4 := mustP_len h4
  injection h with h
  injection h with _ h
  subst h
  first | omega | (simp only [List.length_tail] at *; omega)
theorem jobP_le {x : Jb} {l r : List Tk} (hl : 0 < l.length) (h : jobP l = .ok (x, r)) : r.length < l.length := by
  unfold jobP at h
  obtain ⟨q0, h0, h⟩ := bind_ok h
  try dsimp only at h
  have e0 := mustP_len h0
  obtain ⟨⟨s1, q1⟩, h1, h⟩ := bind_ok h
  try dsimp only at h
  have e1 := namesP_le h1
  obtain ⟨⟨s2, q2⟩, h2, h⟩ := bind_ok h
  try dsimp only at h
  have e2 := retryP_le h2
  obtain ⟨q3, h3, h⟩ := bind_ok h
  try dsimp only at h
  have e3 := mustP_len h3
  obtain ⟨⟨s4, q4⟩, h4, h⟩ := bind_ok h
  try dsimp only at h
  have e4 := bodyP_le h4
  obtain ⟨q5, h5, h⟩ := bind_ok h
  try dsimp only at h
  have e5 := mustP_len h5
  injection h with h
  injection h with _ h
  subst h
  first | omega | (simp only [List.length_tail] at *; omega)
theorem outP_le {x : Pb} {l r : List Tk} (hl : 0 < l.length) (h : outP l = .ok (x, r)) : r.length < l.length := by
  unfold outP at h
  obtain ⟨q0, h0, h⟩ := bind_ok h
  try dsimp only at h
  have e0 := mustP_len h0
  obtain ⟨⟨s1, q1⟩, h1, h⟩ := bind_ok h
  try dsimp only at h
  have e1 := nameP_len h1
  obtain ⟨q2, h2, h⟩ := bind_ok h
  try dsimp only at h
  have e2 := mustP_len h2
  obtain ⟨⟨s3, q3⟩, h3, h⟩ := bind_ok h
  try dsimp only at h
  have e3 := nameP_len h3
  obtain ⟨q4, h4, h⟩ := bind_ok h
  try dsimp only at h
  have e4 := mustP_len h4
  injection h with h
  injection h with _ h
  subst h
  first | omega | (simp only [List.length_tail] at *; omega)
end Go.Proofs.YtdmboaoeholkpaaDoor
