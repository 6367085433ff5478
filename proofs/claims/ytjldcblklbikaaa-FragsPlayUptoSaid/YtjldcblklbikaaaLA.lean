/- FragsPlay: the pool, the document's, and the book, side by side in memory: what each step leaves of them. No program in sight. No condition beyond those named. -/
import Derived.Test.YtjldcblklbikaaaBooks
import Derived.Test.YtjldcblklbikaaaRO
import Derived.Test.YtjldcblklbikaaaRK
import Derived.Test.YtjldcblklbikaaaFS
import Derived.Test.YtjldcblklbikaaaFY
import Derived.Test.YtjldcblklbikaaaPlainT
namespace Go.Proofs.Ytjldcblklbikaaa
open Go.RowKit
set_option linter.unusedVariables false
set_option linter.unusedSimpArgs false
theorem foot_cells {W : World} {pb : Nat} {rv : Value} {D : List Dg} (h : PoolAt W pb rv D) {k : Nat} (hk : foot pb rv D k) : ∃ c T, (T ≠ 5 ∧ T ≠ 33 ∧ T ≠ 97) ∧ W.heap[k]? = some (.cells c T (0, 0)) := by
  rcases hk with rfl | hk | ⟨d, hd, rfl | hk⟩
  · exact ⟨_, 58, by decide, h.blk⟩
  · obtain ⟨c, hc⟩ := own_type h.row hk
    exact ⟨c, 71, by decide, hc⟩
  · exact ⟨_, 75, by decide, (h.each d hd).blk⟩
  · obtain ⟨c, hc⟩ := own_type (h.each d hd).own hk
    exact ⟨c, 43, by decide, hc⟩
theorem rfoot_cells {W : World} {mb : Nat} {rm : Value} {R : List Dg} (h : RefAt W mb rm R) {k : Nat} (hk : rfoot mb rm R k) : ∃ c T, (T ≠ 5 ∧ T ≠ 33 ∧ T ≠ 97) ∧ W.heap[k]? = some (.cells c T (0, 0)) := by
  rcases hk with rfl | hk | ⟨d, hd, hk⟩
  · exact ⟨_, 30, by decide, h.blk⟩
  · obtain ⟨c, hc⟩ := own_type h.row hk
    exact ⟨c, 81, by decide, hc⟩
  · obtain ⟨c, hc⟩ := own_type (h.each d hd).own hk
    exact ⟨c, 43, by decide, hc⟩
theorem bods_cells {W : World} {pb : Nat} {rv : Value} {D : List Dg} (h : PoolAt W pb rv D) {k : Nat} (hk : bods D k) : ∃ c, W.heap[k]? = some (.cells c 5 (0, 0)) := by
  obtain ⟨d, hd, e, he, hk⟩ := hk
  exact body_type ((h.each d hd).each e he).2.1 hk
theorem rbods_cells {W : World} {mb : Nat} {rm : Value} {R : List Dg} (h : RefAt W mb rm R) {k : Nat} (hk : bods R k) : ∃ c, W.heap[k]? = some (.cells c 5 (0, 0)) := by
  obtain ⟨d, hd, e, he, hk⟩ := hk
  exact body_type ((h.each d hd).each e he).2.1 hk
theorem foot_not {W : World} {pb : Nat} {rv : Value} {D : List Dg} (h : PoolAt W pb rv D) {k T : Nat} {c : Array Value} (hc : W.heap[k]? = some (.cells c T (0, 0))) (hT : T = 5 ∨ T = 33 ∨ T = 97) (hk : foot pb rv D k) : False := by
  obtain ⟨c2, T2, h2, hc2⟩ := foot_cells h hk
  rw [hc] at hc2; cases hc2
  rcases hT with e | e | e
  · exact h2.1 e
  · exact h2.2.1 e
  · exact h2.2.2 e
theorem rfoot_not {W : World} {mb : Nat} {rm : Value} {R : List Dg} (h : RefAt W mb rm R) {k T : Nat} {c : Array Value} (hc : W.heap[k]? = some (.cells c T (0, 0))) (hT : T = 5 ∨ T = 33 ∨ T = 97) (hk : rfoot mb rm R k) : False := by
  obtain ⟨c2, T2, h2, hc2⟩ := rfoot_cells h hk
  rw [hc] at hc2; cases hc2
  rcases hT with e | e | e
  · exact h2.1 e
  · exact h2.2.1 e
  · exact h2.2.2 e
theorem book_keep {W W' : World} {kb : Nat} {S : List Span} (h : BookAt W kb S) (hk : ∀ (k : Nat) (c : Array Value) (T : TypeId), (T = 33 ∨ T = 97) → W.heap[k]? = some (.cells c T (0, 0)) → W'.heap[k]? = some (.cells c T (0, 0))) : BookAt W' kb S := by
  obtain ⟨v, h1, h2⟩ := h
  refine ⟨v, hk _ _ 33 (.inl rfl) h1, own_keep h2 (fun k e => ?_)⟩
  obtain ⟨c, hc⟩ := own_type h2 e
  rw [hc]; exact hk _ _ 97 (.inr rfl) hc
/-- each block of bytes is one still, of its size -/
def By5 (W W' : World) : Prop := ∀ (k : Nat) (c : Array Value), W.heap[k]? = some (.cells c 5 (0, 0)) → ∃ c', W'.heap[k]? = some (.cells c' 5 (0, 0)) ∧ c'.size = c.size
theorem By5.of_same {W W' : World} (h : ∀ (k : Nat) (c : Array Value), W.heap[k]? = some (.cells c 5 (0, 0)) → W'.heap[k]? = some (.cells c 5 (0, 0))) : By5 W W' := fun k c hc => ⟨c, h k c hc, rfl⟩
theorem span_keep {lo hi hi' : Nat} {W W' : World} {x : Span} (h : SpanIn lo hi W x) (hk : By5 W W') (hh : hi ≤ hi') : SpanIn lo hi' W' x := by
  refine ⟨h.fit, h.max, h.at_.imp id ?_⟩
  rintro ⟨g, o, c, h1, h2, h3, h4, h5⟩
  obtain ⟨c', k1, k2⟩ := hk g c h4
  exact ⟨g, o, c', h1, h2, by omega, k1, by omega⟩
/-- all that the law holds, in memory -/
structure PM (w0 : World) (pb mb kb : Nat) (rv rm : Value) (D R : List Dg) (S : List Span) (W : World) : Prop where
  pool : PoolAt W pb rv D
  ref : RefAt W mb rm R
  sep : Sep D
  below : Below w0.heap.size w0 W
  flo : ∀ k, foot pb rv D k → w0.heap.size ≤ k
  rlo : ∀ k, rfoot mb rm R k → w0.heap.size ≤ k
  two : ∀ k, foot pb rv D k → ¬ rfoot mb rm R k
  book : BookAt W kb S
  klo : w0.heap.size ≤ kb
  spans : ∀ x ∈ S, SpanIn w0.heap.size W.heap.size W x
  apart : S.Pairwise apart2
  free : ∀ x ∈ S, ∀ g o, x.adr = some ⟨g, o, none⟩ → ¬ bods D g
  blo : ∀ k, bods D k → w0.heap.size ≤ k
theorem span_lt {lo hi : Nat} {W : World} {x : Span} (h : SpanIn lo hi W x) {g o : Nat} (e : x.adr = some ⟨g, o, none⟩) : g < hi := by
  rcases h.at_ with ⟨h1, _⟩ | ⟨g2, o2, c, h1, h2, h3, h4, h5⟩
  · rw [h1] at e; cases e
  · rw [h1] at e; cases e; exact h3
theorem PM.move {w0 W W' : World} {pb mb kb : Nat} {rv rm : Value} {D R : List Dg} {S : List Span} (h : PM w0 pb mb kb rv rm D R S W) (hk : ∀ k, foot pb rv D k ∨ bods D k ∨ rfoot mb rm R k ∨ bods R k → W'.heap[k]? = W.heap[k]?) (hs : W.heap.size ≤ W'.heap.size) (hb : Below w0.heap.size W W')
    (hbook : ∀ (k : Nat) (c : Array Value) (T : TypeId), (T = 33 ∨ T = 97) → W.heap[k]? = some (.cells c T (0, 0)) → W'.heap[k]? = some (.cells c T (0, 0))) (h5 : By5 W W') : PM w0 pb mb kb rv rm D R S W' where
  pool := h.pool.keep (fun k e => hk k (e.imp id .inl)) hs
  ref := h.ref.keep (fun k e => hk k (.inr (.inr e))) hs
  sep := h.sep
  below := h.below.trans hb
  flo := h.flo
  rlo := h.rlo
  two := h.two
  book := book_keep h.book hbook
  klo := h.klo
  spans := fun x hx => span_keep (h.spans x hx) h5 hs
  apart := h.apart
  free := h.free
  blo := h.blo
theorem PM.lt {w0 W : World} {pb mb kb : Nat} {rv rm : Value} {D R : List Dg} {S : List Span} (h : PM w0 pb mb kb rv rm D R S W) {k : Nat} (hk : foot pb rv D k ∨ bods D k ∨ rfoot mb rm R k ∨ bods R k) : k < W.heap.size := by
  rcases hk with hk | hk | hk
  · exact h.pool.lt (.inl hk)
  · exact h.pool.lt (.inr hk)
  · exact h.ref.lt hk
theorem PM.step {w0 W W' : World} {pb mb kb : Nat} {rv rm : Value} {D R : List Dg} {S : List Span} (h : PM w0 pb mb kb rv rm D R S W) (hb : Below W.heap.size W W') : PM w0 pb mb kb rv rm D R S W' :=
  h.move (fun k hk => hb.block k (h.lt hk)) hb.size (hb.mono h.below.size) (fun k c T _ hc => (hb.block k (lt_of_blk hc)).trans hc) (By5.of_same fun k c hc => (hb.block k (lt_of_blk hc)).trans hc)
/-- bytes that are nobody's are written -/
theorem PM.write {w0 W W' : World} {pb mb kb g : Nat} {rv rm : Value} {D R : List Dg} {S : List Span} {c c' : Array Value} (h : PM w0 pb mb kb rv rm D R S W) (t : Turned g (.cells c' 5 (0, 0)) W W') (hg : W.heap[g]? = some (.cells c 5 (0, 0))) (hc : c'.size = c.size) (hlo : w0.heap.size ≤ g) (h1 : ¬ bods D g) (h2 : ¬ bods R g) : PM w0 pb mb kb rv rm D R S W' := by
  refine h.move (fun k hk => t.other (fun e => ?_)) (by rw [t.size]; exact Nat.le_refl _) (t.below hlo) (fun k c2 T hT hk => (t.other (fun e => ?_)).trans hk) (fun k c2 hk => ?_)
  · subst e
    rcases hk with hk | hk | hk | hk
    · exact foot_not h.pool hg (.inl rfl) hk
    · exact h1 hk
    · exact rfoot_not h.ref hg (.inl rfl) hk
    · exact h2 hk
  · subst e
    rw [hg] at hk; cases hk
    rcases hT with e | e <;> cases e
  · by_cases e : k = g
    · subst e
      rw [hg] at hk; cases hk
      exact ⟨c', t.get (lt_of_blk hg), hc⟩
    · exact ⟨c2, (t.other e).trans hk, rfl⟩
/-- a call on the pool -/
theorem PM.add {w0 W W' : World} {pb mb kb : Nat} {rv rv' rm : Value} {D D' R : List Dg} {S : List Span} (h : PM w0 pb mb kb rv rm D R S W) (m : AddMem pb rv D W W' rv' D') : PM w0 pb mb kb rv' rm D' R S W' where
  pool := m.pool
  ref := h.ref.keep (fun k hk => m.kept.block k (h.ref.lt hk) (fun hf => by
    rcases hk with hk | hk
    · exact h.two k hf hk
    · obtain ⟨c, hc⟩ := rbods_cells h.ref hk
      exact foot_not h.pool hc (.inl rfl) hf)) m.kept.size
  sep := m.sep h.sep
  below := h.below.trans (m.kept.below h.below.size h.flo)
  flo := fun k hk => (m.foot k hk).elim (h.flo k) (fun e => by have := h.below.size; omega)
  rlo := h.rlo
  two := fun k hk hr => (m.foot k hk).elim (fun hf => h.two k hf hr) (fun e => by have := h.ref.lt (.inl hr); omega)
  book := book_keep h.book fun k c T hT hc => (m.kept.block k (lt_of_blk hc) (fun hf => foot_not h.pool hc (.inr hT) hf)).trans hc
  klo := h.klo
  spans := fun x hx => span_keep (h.spans x hx) (By5.of_same fun k c hc => (m.kept.block k (lt_of_blk hc) (fun hf => foot_not h.pool hc (.inl rfl) hf)).trans hc) m.kept.size
  apart := h.apart
  free := fun x hx g o e hb => (m.bods g hb).elim (h.free x hx g o e) (fun hge => by have := span_lt (h.spans x hx) e; omega)
  blo := fun k hk => (m.bods k hk).elim (h.blo k) (fun e => by have := h.below.size; omega)
/-- a call on the document's -/
theorem PM.refd {w0 W W' : World} {pb mb kb : Nat} {rv rm rm' : Value} {D R R' : List Dg} {S : List Span} (h : PM w0 pb mb kb rv rm D R S W) (m : RefMem mb rm R W W' rm' R') : PM w0 pb mb kb rv rm' D R' S W' where
  pool := h.pool.keep (fun k hk => m.kept.block k (h.pool.lt hk) (fun hf => by
    rcases hk with hk | hk
    · exact h.two k hk hf
    · obtain ⟨c, hc⟩ := bods_cells h.pool hk
      exact rfoot_not h.ref hc (.inl rfl) hf)) m.kept.size
  ref := m.pool
  sep := h.sep
  below := h.below.trans (m.kept.below h.below.size h.rlo)
  flo := h.flo
  rlo := fun k hk => (m.foot k hk).elim (h.rlo k) (fun e => by have := h.below.size; omega)
  two := fun k hk hr => (m.foot k hr).elim (fun hf => h.two k hk hf) (fun e => by have := h.pool.lt (.inl hk); omega)
  book := book_keep h.book fun k c T hT hc => (m.kept.block k (lt_of_blk hc) (fun hf => rfoot_not h.ref hc (.inr hT) hf)).trans hc
  klo := h.klo
  spans := fun x hx => span_keep (h.spans x hx) (By5.of_same fun k c hc => (m.kept.block k (lt_of_blk hc) (fun hf => rfoot_not h.ref hc (.inl rfl) hf)).trans hc) m.kept.size
  apart := h.apart
  free := h.free
  blo := h.blo
/-- a span more in the book -/
theorem PM.noted {w0 W W' : World} {pb mb kb : Nat} {rv rm : Value} {D R : List Dg} {S : List Span} {x : Span} (h : PM w0 pb mb kb rv rm D R S W) (hb : BookAt W' kb (S ++ [x])) (hk : BK W W') (hl : Below kb W W') (hx : SpanIn w0.heap.size W.heap.size W x) (ha : ∀ y ∈ S, apart2 y x) (hf : ∀ g o, x.adr = some ⟨g, o, none⟩ → ¬ bods D g) : PM w0 pb mb kb rv rm D R (S ++ [x]) W' := by
  have h5 : By5 W W' := By5.of_same fun k c hc => hk.block k c 5 (by decide) (by decide) hc
  exact {
    pool := h.pool.keep (fun k e => by
      rcases e with e | e
      · obtain ⟨c, T, hT, hc⟩ := foot_cells h.pool e
        rw [hc]; exact hk.block k c T hT.2.1 hT.2.2 hc
      · obtain ⟨c, hc⟩ := bods_cells h.pool e
        rw [hc]; exact hk.block k c 5 (by decide) (by decide) hc) hk.size
    ref := h.ref.keep (fun k e => by
      rcases e with e | e
      · obtain ⟨c, T, hT, hc⟩ := rfoot_cells h.ref e
        rw [hc]; exact hk.block k c T hT.2.1 hT.2.2 hc
      · obtain ⟨c, hc⟩ := rbods_cells h.ref e
        rw [hc]; exact hk.block k c 5 (by decide) (by decide) hc) hk.size
    sep := h.sep
    below := h.below.trans (hl.mono h.klo)
    flo := h.flo
    rlo := h.rlo
    two := h.two
    book := hb
    klo := h.klo
    spans := fun y hy => by
      rcases List.mem_append.1 hy with hy | hy
      · exact span_keep (h.spans y hy) h5 hk.size
      · rw [List.mem_singleton] at hy; subst hy
        exact span_keep hx h5 hk.size
    apart := by
      rw [List.pairwise_append]
      refine ⟨h.apart, List.pairwise_singleton _ _, fun a ha' b hb' => ?_⟩
      rw [List.mem_singleton] at hb'; subst hb'
      exact ha a ha'
    free := fun y hy => by
      rcases List.mem_append.1 hy with hy | hy
      · exact h.free y hy
      · rw [List.mem_singleton] at hy; subst hy
        exact hf
    blo := h.blo }
def spanE (e : El) : Span := ⟨e.adr, e.pk.body.length, e.cap⟩
theorem span_of {lo : Nat} {W : World} {e : El} (h : BodyAt W e) (hl : ∀ g, e.adr = some ⟨g, 0, none⟩ → lo ≤ g) (hm : e.cap ≤ 9223372036854775807) : SpanIn lo W.heap.size W (spanE e) := by
  refine ⟨h.bs.cap, hm, ?_⟩
  rcases h.blk with e1 | ⟨g, c, e1, e2, e3⟩
  · exact .inl ⟨e1, (h.bs.nil e1).2⟩
  · exact .inr ⟨g, 0, c, e1, hl g e1, lt_of_blk e2, e2, by show 0 + e.cap ≤ c.size; omega⟩
theorem body_adr {W : World} {e : El} (h : BodyAt W e) {g o : Nat} (hg : e.adr = some ⟨g, o, none⟩) : e.adr = some ⟨g, 0, none⟩ := by
  rcases h.blk with e1 | ⟨g2, c, e1, e2, e3⟩
  · rw [e1] at hg; cases hg
  · rw [e1] at hg; cases hg; exact e1
/-- a whole that is new: it may be noted -/
theorem PM.fresh {w0 W : World} {pb mb kb N : Nat} {rv rm : Value} {D R : List Dg} {S : List Span} (h : PM w0 pb mb kb rv rm D R S W) {e : El} (hb : BodyAt W e) (hg : ∀ g, e.adr = some ⟨g, 0, none⟩ → N ≤ g ∧ ¬ bods D g) (hN : w0.heap.size ≤ N) (hS : ∀ x ∈ S, ∀ g o, x.adr = some ⟨g, o, none⟩ → g < N) :
    SpanIn w0.heap.size W.heap.size W (spanE e) ∧ (∀ y ∈ S, apart2 y (spanE e)) ∧ ∀ g o, (spanE e).adr = some ⟨g, o, none⟩ → ¬ bods D g := by
  refine ⟨span_of hb (fun g e1 => by have := (hg g e1).1; omega) hb.bs.max, fun y hy g o o2 e1 e2 => ?_, fun g o e1 => (hg g (body_adr hb e1)).2⟩
  have h1 := hS y hy g o e1
  have h2 := (hg g (body_adr hb e2)).1
  omega
theorem PM.span_below {w0 W : World} {pb mb kb : Nat} {rv rm : Value} {D R : List Dg} {S : List Span} (h : PM w0 pb mb kb rv rm D R S W) : ∀ x ∈ S, ∀ g o, x.adr = some ⟨g, o, none⟩ → g < W.heap.size := fun x hx g o e => span_lt (h.spans x hx) e
theorem PM.start {w w2 : World} (hp : PoolAt w2 w.heap.size (.slice none 0 0) []) (hb : Below w.heap.size w w2) (hs : w2.heap.size = w.heap.size + 1) :
    PM w w.heap.size w2.heap.size (w2.heap.size + 1) (.slice none 0 0) (.slice none 0 0) [] [] [] ((w2.alloc (.cells #[.slice none 0 0] 30)).alloc (.cells #[.slice none 0 0] 33)) := by
  have h1 : Below w2.heap.size w2 (w2.alloc (.cells #[.slice none 0 0] 30)) := (Below.refl _ _).alloc (Nat.le_refl _) _
  have hs1 : (w2.alloc (.cells #[.slice none 0 0] 30)).heap.size = w2.heap.size + 1 := by simp
  have x1 := heap_alloc_new w2 (.cells #[.slice none 0 0] 30)
  obtain ⟨V, hV⟩ : ∃ V, V = w2.alloc (.cells #[.slice none 0 0] 30) := ⟨_, rfl⟩
  rw [← hV] at h1 hs1 x1 ⊢
  have h2 : Below V.heap.size V (V.alloc (.cells #[.slice none 0 0] 33)) := (Below.refl _ _).alloc (Nat.le_refl _) _
  have x2 := heap_alloc_new V (.cells #[.slice none 0 0] 33)
  rw [hs1] at x2
  have h12 : Below w2.heap.size w2 (V.alloc (.cells #[.slice none 0 0] 33)) := h1.trans (h2.mono h1.size)
  refine ⟨hp.below h12, ⟨(h2.block _ (lt_of_blk x1)).trans x1, World.ownsRow_nil _ _ _ _, fun d hd => (by cases hd), List.Pairwise.nil, Nat.zero_le _⟩, List.Pairwise.nil, hb.trans (h12.mono hb.size), ?_, ?_, ?_, ⟨_, x2, World.ownsRow_nil _ _ _ _⟩, by omega, fun x hx => (by cases hx), List.Pairwise.nil, fun x hx => (by cases hx), ?_⟩
  · rintro k (rfl | hk | ⟨d, hd, _⟩)
    · exact Nat.le_refl _
    · cases hk
    · cases hd
  · rintro k (rfl | hk | ⟨d, hd, _⟩)
    · omega
    · cases hk
    · cases hd
  · rintro k (rfl | hk | ⟨d, hd, _⟩) (e | hk2 | ⟨d2, hd2, _⟩)
    · omega
    · cases hk2
    · cases hd2
    · cases hk
    · cases hk
    · cases hk
    · cases hd
    · cases hd
    · cases hd
  · rintro k ⟨d, hd, _⟩
    cases hd
/-- a list that was read stays so behind a call on the document's -/
theorem pks_keep {W W' : World} {mb : Nat} {rm rm' : Value} {R R' : List Dg} {A : Option Addr} {L : List El} (hR : RefAt W mb rm R) (m : RefMem mb rm R W W' rm' R') (h : PksRd W W.heap.size A L) (hA : ∀ b o, A = some ⟨b, o, none⟩ → ¬ rfoot mb rm R b) (h5 : ∀ e ∈ L, BodyAt W e) : PksRd W' W'.heap.size A L where
  many := h.many
  each := fun e he => by
    refine ⟨(h.each e he).1, ((h5 e he).keep (fun g hg => ?_) m.kept.size).bs, (h.each e he).2.2⟩
    obtain ⟨c, hc⟩ := body_type (h5 e he) hg
    exact m.kept.block g (lt_of_blk hc) (fun hf => rfoot_not hR hc (.inl rfl) hf)
  at_ := fun hL => by
    obtain ⟨b, o, hA2, hlt, hr⟩ := h.at_ hL
    refine ⟨b, o, hA2, Nat.lt_of_lt_of_le hlt m.kept.size, fun k e hk j v hj => ?_⟩
    exact (World.cell?_of_block (w := W) (a := ⟨b, o + k * 40 + j, none⟩) (m.kept.block b hlt (hA b o hA2))).trans (hr k e hk j v hj)
theorem pks_book {W W' : World} {A : Option Addr} {L : List El} (hk : BK W W') (h : PksRd W W.heap.size A L) (hA : ∀ b o, A = some ⟨b, o, none⟩ → ∃ c T, T ≠ 33 ∧ T ≠ 97 ∧ W.heap[b]? = some (.cells c T (0, 0))) (h5 : ∀ e ∈ L, BodyAt W e) : PksRd W' W'.heap.size A L where
  many := h.many
  each := fun e he => by
    refine ⟨(h.each e he).1, ((h5 e he).keep (fun g hg => ?_) hk.size).bs, (h.each e he).2.2⟩
    obtain ⟨c, hc⟩ := body_type (h5 e he) hg
    rw [hc]; exact hk.block g c 5 (by decide) (by decide) hc
  at_ := fun hL => by
    obtain ⟨b, o, hA2, hlt, hr⟩ := h.at_ hL
    obtain ⟨c, T, t1, t2, hc⟩ := hA b o hA2
    refine ⟨b, o, hA2, Nat.lt_of_lt_of_le hlt hk.size, fun k e hk2 j v hj => ?_⟩
    exact (World.cell?_of_block (w := W) (a := ⟨b, o + k * 40 + j, none⟩) (by show W'.heap[b]? = W.heap[b]?; rw [hc]; exact hk.block b c T t1 t2 hc)).trans (hr k e hk2 j v hj)
/-! ### what is told -/
theorem first0_sub (L : List El) : List.Sublist (first0 L) L := by
  unfold first0
  cases hf : L.find? fun e => e.pk.off == 0 with
  | none => simp
  | some e =>
    have := List.mem_of_find?_eq_some hf
    simpa using this
theorem outK_sub (D : List Dg) (now : Nat) : List.Sublist (outK D now D.length) (D.flatMap (·.L)) := by
  unfold outK
  rw [List.take_length]
  induction D with
  | nil => exact List.Sublist.refl _
  | cons d D ih =>
    rw [List.flatMap_cons, List.flatMap_cons]
    refine List.Sublist.append ?_ ih
    split
    · exact first0_sub d.L
    · exact List.nil_sublist _
theorem sep_out {D : List Dg} (h : Sep D) (t : Dg → Bool) {d : Dg} (hd : d ∈ D) (ht : t d = false) {e : El} (he : e ∈ d.L) {g : Nat} (hg : e.adr = some ⟨g, 0, none⟩) : ¬ bods (D.filter t) g := by
  rintro ⟨d2, hd2, e2, he2, hg2⟩
  obtain ⟨hd2m, ht2⟩ := List.mem_filter.1 hd2
  have key : ∀ D : List Dg, Sep D → d ∈ D → d2 ∈ D → False := by
    intro D
    induction D with
    | nil => intro _ h; cases h
    | cons a D ih =>
      intro hs h1 h2
      unfold Sep at hs
      rw [List.flatMap_cons, List.pairwise_append] at hs
      rcases List.mem_cons.1 h1 with e1 | k1
      · rcases List.mem_cons.1 h2 with e2' | k2
        · rw [e1.trans e2'.symm, ht2] at ht; cases ht
        · exact hs.2.2 e (e1 ▸ he) e2 (List.mem_flatMap.2 ⟨d2, k2, he2⟩) g hg hg2
      · rcases List.mem_cons.1 h2 with e2' | k2
        · exact hs.2.2 e2 (e2' ▸ he2) e (List.mem_flatMap.2 ⟨d, k1, he⟩) g hg2 hg
        · exact ih hs.2.1 k1 k2
  exact key D h hd hd2m
theorem outK_from {D : List Dg} {now k : Nat} {e : El} (h : e ∈ outK D now k) : ∃ d ∈ D, e ∈ d.L ∧ d.over ≤ now := by
  obtain ⟨d, hd, he⟩ := List.mem_flatMap.1 h
  split at he
  · rename_i ht
    exact ⟨d, List.mem_of_mem_take hd, (first0_sub d.L).subset he, of_decide_eq_true ht⟩
  · cases he
/-- what may be noted of a list of told parts: the first n are -/
structure Told (w0 : World) (D : List Dg) (S : List Span) (O : List El) (W : World) : Prop where
  at_ : ∀ e ∈ O, BodyAt W e
  lo : ∀ e ∈ O, ∀ g, e.adr = some ⟨g, 0, none⟩ → w0.heap.size ≤ g
  free : ∀ e ∈ O, ∀ g, e.adr = some ⟨g, 0, none⟩ → ¬ bods D g
  two : O.Pairwise fun a b => ∀ g, a.adr = some ⟨g, 0, none⟩ → b.adr ≠ some ⟨g, 0, none⟩
  off : ∀ e ∈ O, ∀ x ∈ S, apart2 x (spanE e)
theorem PM.told {w0 W W' : World} {pb mb kb now : Nat} {rv rv' rm : Value} {D R : List Dg} {S : List Span} (h : PM w0 pb mb kb rv rm D R S W) (m : AddMem pb rv D W W' rv' (D.filter fun d => !(decide (d.over ≤ now)))) : Told w0 (D.filter fun d => !(decide (d.over ≤ now))) S (outK D now D.length) W' where
  at_ := fun e he => by
    obtain ⟨d, hd, hed, _⟩ := outK_from he
    have hb := ((h.pool.each d hd).each e hed).2.1
    refine hb.keep (fun g hg => ?_) m.kept.size
    obtain ⟨c, hc⟩ := body_type hb hg
    exact m.kept.block g (lt_of_blk hc) (fun hf => foot_not h.pool hc (.inl rfl) hf)
  lo := fun e he g hg => by
    obtain ⟨d, hd, hed, _⟩ := outK_from he
    exact h.blo g ⟨d, hd, e, hed, hg⟩
  free := fun e he g hg => by
    obtain ⟨d, hd, hed, ho⟩ := outK_from he
    exact sep_out h.sep _ hd (by simp [ho]) hed hg
  two := h.sep.sublist (outK_sub D now)
  off := fun e he x hx g o o2 e1 e2 => by
    obtain ⟨d, hd, hed, _⟩ := outK_from he
    have hb := ((h.pool.each d hd).each e hed).2.1
    exact absurd ⟨d, hd, e, hed, body_adr hb e2⟩ (h.free x hx g o e1)
theorem Told.keep {w0 W W' : World} {D : List Dg} {S : List Span} {O : List El} (h : Told w0 D S O W) (hk : ∀ (k : Nat) (c : Array Value), W.heap[k]? = some (.cells c 5 (0, 0)) → W'.heap[k]? = some (.cells c 5 (0, 0))) (hs : W.heap.size ≤ W'.heap.size) : Told w0 D S O W' :=
  ⟨fun e he => (h.at_ e he).keep (fun g hg => by
    obtain ⟨c, hc⟩ := body_type (h.at_ e he) hg
    rw [hc]; exact hk g c hc) hs, h.lo, h.free, h.two, h.off⟩
/-- one of the told is noted -/
theorem Told.note {w0 W : World} {pb mb kb : Nat} {rv rm : Value} {D R : List Dg} {S : List Span} {O : List El} {e : El} (h : Told w0 D S (e :: O) W) (hm : PM w0 pb mb kb rv rm D R S W) :
    (SpanIn w0.heap.size W.heap.size W (spanE e) ∧ (∀ y ∈ S, apart2 y (spanE e)) ∧ ∀ g o, (spanE e).adr = some ⟨g, o, none⟩ → ¬ bods D g) ∧ Told w0 D (S ++ [spanE e]) O W := by
  have he := h.at_ e List.mem_cons_self
  refine ⟨⟨span_of he (fun g hg => h.lo e List.mem_cons_self g hg) he.bs.max, h.off e List.mem_cons_self, fun g o e1 => h.free e List.mem_cons_self g (body_adr he e1)⟩, fun y hy => h.at_ y (List.mem_cons_of_mem _ hy), fun y hy => h.lo y (List.mem_cons_of_mem _ hy), fun y hy => h.free y (List.mem_cons_of_mem _ hy), (List.pairwise_cons.1 h.two).2, fun y hy x hx => ?_⟩
  rcases List.mem_append.1 hx with hx | hx
  · exact h.off y (List.mem_cons_of_mem _ hy) x hx
  · rw [List.mem_singleton] at hx; subst hx
    intro g o o2 e1 e2
    exact absurd (body_adr (h.at_ y (List.mem_cons_of_mem _ hy)) e2) ((List.pairwise_cons.1 h.two).1 y hy g (body_adr he e1))
/-! ### the two pools say the same -/
theorem abs_len {D R : List Dg} (h : D.map Dg.abs = R.map Dg.abs) : D.length = R.length := by have := congrArg List.length h; simpa using this
theorem abs_over {D R : List Dg} (h : D.map Dg.abs = R.map Dg.abs) : D.map (·.over) = R.map (·.over) := by
  have := congrArg (List.map Ds.over) h
  simpa [List.map_map, Function.comp_def, Dg.abs] using this
theorem abs_tick {D : List Dg} (now : Nat) : (D.filter fun d => !(decide (d.over ≤ now))).map Dg.abs = tickS now (D.map Dg.abs) := by
  unfold tickS
  rw [List.filter_map]; rfl
def outS (now : Nat) (S : List Ds) : List Pk := S.flatMap fun d => if decide (d.over ≤ now) then d.L.filter (fun e => e.off == 0) else []
theorem fm_congr {α β : Type} {l : List α} {f g : α → List β} (h : ∀ a ∈ l, f a = g a) : l.flatMap f = l.flatMap g := by
  rw [List.flatMap_def, List.flatMap_def, List.map_congr_left h]
theorem abs_outR (R : List Dg) (now : Nat) : (outR R now R.length).map (·.pk) = outS now (R.map Dg.abs) := by
  unfold outR outS
  rw [List.take_length, List.flatMap_map, List.map_flatMap]
  refine fm_congr ?_
  intro d _
  show List.map (·.pk) (if decide (d.over ≤ now) then filt0 d.L else []) = if decide (d.over ≤ now) then (d.L.map (·.pk)).filter (fun e => e.off == 0) else []
  split
  · unfold filt0
    rw [List.filter_map]; rfl
  · rfl
theorem abs_outK {D : List Dg} (now : Nat) (hg : Good (D.map Dg.abs)) : (outK D now D.length).map (·.pk) = outS now (D.map Dg.abs) := by
  unfold outK outS
  rw [List.take_length, List.flatMap_map, List.map_flatMap]
  refine fm_congr ?_
  intro d hd
  show List.map (·.pk) (if decide (d.over ≤ now) then first0 d.L else []) = if decide (d.over ≤ now) then (d.L.map (·.pk)).filter (fun e => e.off == 0) else []
  split
  · have hfo := first_only (hg d.abs (List.mem_map.2 ⟨d, hd, rfl⟩))
    refine Eq.trans ?_ hfo
    show _ = ((List.find? (fun e => e.off == 0) (d.L.map (·.pk))).map fun e => [e]).getD []
    unfold first0
    rw [List.find?_map]
    show List.map (·.pk) ((Option.map (fun e => [e]) (List.find? (fun e => e.pk.off == 0) d.L)).getD []) = _
    have e : ((fun e : Pk => e.off == 0) ∘ fun x : El => x.pk) = fun e : El => e.pk.off == 0 := rfl
    rw [e]
    cases List.find? (fun e : El => e.pk.off == 0) d.L <;> rfl
  · rfl
end Go.Proofs.Ytjldcblklbikaaa
