/- GroupsCount: what holds between two rounds, and the plain law. No condition beyond those named. (Written out by exp.py.) -/
import Derived.Test.YthbkjhacnnoolaaDoorGW
import Derived.Deep.MidRow
import Derived.Deep.WholeRow
import Derived.Laws.Tables
namespace Go.Proofs.YthbkjhacnnoolaaDoor
open Go.RowKit Go.Maps
set_option linter.unusedVariables false
set_option linter.unusedSimpArgs false
theorem wpList_store_new {P : Program} {ops : Array Oper} {rest : List Oper} {o : Oper} {a : Act} {Q : Exit → Act → World → Prop} (hgd : o.guard = none) (ty : TypeId) (x y : Operand) (ho : o.op = .store ty x y)
    (w : World) (c C : Array Value) (t : TypeId) (hx : a.eval x = .pointer (some ⟨w.heap.size, 0, none⟩)) (hy : a.eval y = .agg C) (hi : (P.info? ty).map (·.size) = some C.size) (hc : c.size = C.size) (h1 : C.all (·.oneCell') = true)
    (h : wpList P ops Q rest (a.put o.dst undef) (w.alloc (.cells C t))) : wpList P ops Q (o :: rest) a (w.alloc (.cells c t)) :=
  wpList_store_row hgd ty x y ho w.heap.size C hx hy t c (heap_alloc_new w _) hi hc h1 (by rw [World.setRow_alloc_new]; exact h)
theorem wpList_load_mid_w {P : Program} {ops : Array Oper} {rest : List Oper} {op : Oper} {a : Act} {w : World} {Q : Exit → Act → World → Prop} (hw : Region.wanted op (yielded ops a.tmps) = true) (ty : TypeId) (x : Operand) (ho : op.op = .load ty x)
    (b o : Nat) (hx : a.eval x = .pointer (some ⟨b, o, none⟩)) (cs : List Value) (d : TypeDesc) (hc : w.rangeAt b o cs)
    (hu : P.underlying ty = some d) (hd : d.isRow = true) (hi : (P.info? ty).map (·.size) = some cs.length)
    (h : wpList P ops Q rest (a.put op.dst (.agg cs.toArray)) w) : wpList P ops Q (op :: rest) a w :=
  wpList_step fun K hK => by rw [if_pos hw]; exact wp_load_mid ty x ho b o hx cs d hc hu hd hi (hK _ _ h)
/-- a piece of a body -/
def codeAt : List Nat → Code → Code
  | [], c => c
  | 0 :: p, .seq a _ => codeAt p a
  | 1 :: p, .seq _ b => codeAt p b
  | 0 :: p, .cond _ a _ => codeAt p a
  | 1 :: p, .cond _ _ b => codeAt p b
  | 0 :: p, .block _ c => codeAt p c
  | 0 :: p, .loop c => codeAt p c
  | 0 :: p, .scope c => codeAt p c
  | _, c => c
theorem row_of {W : World} {p T : Nat} {P : List Value} (h : W.heap[p]? = some (.cells P.toArray T (0, 0))) : W.rangeAt p 0 P := fun j v hj => by
  rw [Nat.zero_add, cell_blk h]; simpa using hj
/-- how often each group is joined, told by the table's map and by the law's -/
structure Rel (J M : PD) (f : List Nat → Nat) : Prop where
  rj : ∀ l, Adr l → J.atKey (kl l) (jd 0) = jd (f l)
  rm : ∀ l, Adr l → M.atKey (kl l) (jd 0) = jd (f l)
  hj : ∀ l, Adr l → (Maps.has J (kl l) = true ↔ 0 < f l)
  aj : AdrKeys J
  am : AdrKeys M
theorem rel_new : Rel (.map []) (.map []) (fun _ => 0) :=
  ⟨fun _ _ => rfl, fun _ _ => rfl, fun _ _ => ⟨fun h => (by cases h), fun h => (by cases h)⟩, fun _ h => (by cases h), fun _ h => (by cases h)⟩
def upd (f : List Nat → Nat) (l : List Nat) (c : Nat) : List Nat → Nat := fun k => if k = l then c else f k
theorem kl_ne {l k : List Nat} (hl : Adr l) (hk : Adr k) (h : k ≠ l) : kl k ≠ kl l := fun e => h (kl_inj hk hl e)
theorem AdrKeys.put {D : PD} (h : AdrKeys D) {l : List Nat} (hl : Adr l) (d : PD) : AdrKeys (D.put (kl l) d) := fun x hx => by
  by_cases e : x = kl l
  · exact ⟨l, hl, e⟩
  · rw [has_put_other e] at hx; exact h x hx
theorem AdrKeys.del {D : PD} (h : AdrKeys D) (k : Lit) : AdrKeys (D.del k) := fun x hx => by
  by_cases e : x = k
  · subst e; rw [has_del_same] at hx; cases hx
  · rw [has_del_other e] at hx; exact h x hx
theorem jd_inj {a b : Nat} (h : jd a = jd b) : a = b := by
  unfold jd at h
  injection h with h; injection h with _ h; exact Int.ofNat_inj.1 h
theorem Rel.put {J M : PD} {f : List Nat → Nat} (h : Rel J M f) (iJ : IsMap J) (iM : IsMap M) {l : List Nat} (hl : Adr l) {c : Nat} (hc : 0 < c) : Rel (J.put (kl l) (jd c)) (M.put (kl l) (jd c)) (upd f l c) := by
  refine ⟨fun k hk => ?_, fun k hk => ?_, fun k hk => ?_, h.aj.put hl _, h.am.put hl _⟩
  · by_cases e : k = l
    · subst e; rw [atKey_put_same iJ (isKeyLit_kl k)]; simp [upd]
    · rw [atKey_put_other (kl_ne hl hk e), h.rj k hk]; simp [upd, e]
  · by_cases e : k = l
    · subst e; rw [atKey_put_same iM (isKeyLit_kl k)]; simp [upd]
    · rw [atKey_put_other (kl_ne hl hk e), h.rm k hk]; simp [upd, e]
  · by_cases e : k = l
    · subst e; rw [has_put_same iJ (isKeyLit_kl k)]; simp [upd, hc]
    · rw [has_put_other (kl_ne hl hk e), h.hj k hk]; simp [upd, e]
theorem Rel.gone {J M : PD} {f : List Nat → Nat} (h : Rel J M f) (iJ : IsMap J) (iM : IsMap M) {l : List Nat} (hl : Adr l) : Rel ((J.put (kl l) (jd 0)).del (kl l)) (M.put (kl l) (jd 0)) (upd f l 0) := by
  refine ⟨fun k hk => ?_, fun k hk => ?_, fun k hk => ?_, (h.aj.put hl _).del _, h.am.put hl _⟩
  · by_cases e : k = l
    · subst e; rw [atKey_del_same]; simp [upd]
    · rw [atKey_del_other (kl_ne hl hk e), atKey_put_other (kl_ne hl hk e), h.rj k hk]; simp [upd, e]
  · by_cases e : k = l
    · subst e; rw [atKey_put_same iM (isKeyLit_kl k)]; simp [upd]
    · rw [atKey_put_other (kl_ne hl hk e), h.rm k hk]; simp [upd, e]
  · by_cases e : k = l
    · subst e; rw [has_del_same]; simp [upd]
    · rw [has_del_other (kl_ne hl hk e), has_put_other (kl_ne hl hk e), h.hj k hk]; simp [upd, e]
/-- as many as the law counts are listed -/
theorem Rel.count {J M : PD} {f : List Nat → Nat} (h : Rel J M f) {ss tt : List (List Nat)} (hM : AllKeys M ss) (hJ : AllKeys J tt) : (ss.filter fun l => decide (0 < f l)).length = tt.length := by
  refine List.Perm.length_eq ((List.perm_ext_iff_of_nodup (hM.nodup.sublist List.filter_sublist) hJ.nodup).2 fun l => ?_)
  rw [List.mem_filter, decide_eq_true_eq]
  constructor
  · rintro ⟨h1, h2⟩
    exact hJ.all l (hM.adr l h1) ((h.hj l (hM.adr l h1)).2 h2)
  · intro h1
    have ha := hJ.adr l h1
    have hf := (h.hj l ha).1 (hJ.has l h1)
    refine ⟨hM.all l ha ?_, hf⟩
    cases hh : Maps.has M (kl l) with
    | true => rfl
    | false =>
      have := (atKey_of_not_has hh (jd 0)).symm.trans (h.rm l ha)
      have := jd_inj this
      omega
/-- the memory between two rounds -/
structure GM (w W : World) (t mj ma mc mm N K L : Nat) (J M : PD) : Prop where
  below : Below w.heap.size w W
  tb : Tb W t mj ma mc
  j : MJ W mj N J
  a : MA W ma
  c : MC W mc K
  m : MJ W mm L M
  lt : w.heap.size ≤ t
  lj : w.heap.size ≤ mj
  la : w.heap.size ≤ ma
  lc : w.heap.size ≤ mc
  lm : w.heap.size ≤ mm
  ja : mj ≠ ma
  jc : mj ≠ mc
  ac : ma ≠ mc
  tj : t ≠ mj
  ta : t ≠ ma
  tc : t ≠ mc
  tm : t ≠ mm
  mj' : mm ≠ mj
  ma' : mm ≠ ma
  mc' : mm ≠ mc
  kn : Kn w
section
variable {w W W' : World} {t mj ma mc mm N K L : Nat} {J M J' M' : PD}
theorem GM.knW (h : GM w W t mj ma mc mm N K L J M) : Kn W := h.kn.below h.below h.kn.lt
theorem GM.step (h : GM w W t mj ma mc mm N K L J M) (b : Below W.heap.size W W') : GM w W' t mj ma mc mm N K L J M :=
  { h with below := h.below.trans (b.mono h.below.size), tb := ⟨(b.block _ (lt_of_blk h.tb.blk)).trans h.tb.blk⟩, j := owns_below h.j b, a := owns_below h.a b, c := h.c.imp fun D q => owns_below q b, m := owns_below h.m b }
theorem owns_thr3 {P : Program} {k : TypeId} {R : Value → Option (PD × List MemPlace)} {b n a1 a2 a3 : Nat} {D : PD} (h : W.ownsMap P k R b n D) (t : Thr a1 a2 a3 W W') (h1 : b ≠ a1) (h2 : b ≠ a2) (h3 : b ≠ a3) : W'.ownsMap P k R b n D := by
  obtain ⟨es, clock, hb, rest⟩ := h
  exact ⟨es, clock, (t.block b (lt_of_blk hb) h1 h2 h3).trans hb, rest⟩
theorem GM.tell {N' K' : Nat} (h : GM w W t mj ma mc mm N K L J M) (k : Thr mj ma mc W W') (j : MJ W' mj N' J') (a : MA W' ma) (c : MC W' mc K') : GM w W' t mj ma mc mm N' K' L J' M :=
  { h with below := h.below.trans (k.below h.below.size h.lj h.la h.lc), tb := ⟨(k.block _ (lt_of_blk h.tb.blk) h.tj h.ta h.tc).trans h.tb.blk⟩, j := j, a := a, c := c, m := owns_thr3 h.m k h.mj' h.ma' h.mc' }
theorem Thr.wide3 (k : Thr mj mj mc W W') : Thr mj ma mc W W' := ⟨k.os, k.tape, k.output, k.size, fun i hi a _ c => k.block i hi a a c⟩
theorem GM.join {k : Nat} {l : List Nat} {tell : Bool} {v : Value} {N' K' : Nat} (h : GM w W t mj ma mc mm N K L J M) (o : Out k l tell v mj mc N' K' J' W W') : GM w W' t mj ma mc mm N' K' L J' M :=
  h.tell o.thr.wide3 o.j (owns_thr3 h.a o.thr (fun e => h.ja e.symm) (fun e => h.ja e.symm) h.ac) o.c
theorem GM.leave {k : Nat} {l : List Nat} {tell : Bool} {v : Value} {N' K' : Nat} (h : GM w W t mj ma mc mm N K L J M) (o : OutL k l tell v mj ma mc N' K' J' W W') : GM w W' t mj ma mc mm N' K' L J' M :=
  h.tell o.thr o.j o.a o.c
theorem GM.put {L' : Nat} (h : GM w W t mj ma mc mm N K L J M) (k : W.mapTurned W' mm) (m : MJ W' mm L' M') : GM w W' t mj ma mc mm N K L' J M' :=
  { h with
    below := h.below.grown k.grown h.below.size (fun r e => by cases e; exact h.lm)
    tb := ⟨(k.grown.block _ (lt_of_blk h.tb.blk) (fun e => h.tm (by injection e))).trans h.tb.blk⟩
    j := owns_map h.j k h.mj', a := owns_map h.a k h.ma', c := h.c.imp fun D q => owns_map q k h.mc', m := m }
end
theorem size_join {J : PD} {f : List Nat → Nat} {M : PD} (h : Rel J M f) (tJ : Tidy J) {l : List Nat} (hl : Adr l) {c : Nat} (hc : f l = c) (hn : ¬ (c = 0 ∧ 24 ≤ Maps.size J)) (hs : Maps.size J ≤ 24) (d : PD) : Maps.size (J.put (kl l) d) ≤ 24 := by
  rw [size_put tJ]
  split
  · exact hs
  · rename_i hh
    have : ¬ 0 < f l := fun q => hh ((h.hj l hl).2 q)
    omega
end Go.Proofs.YthbkjhacnnoolaaDoor
