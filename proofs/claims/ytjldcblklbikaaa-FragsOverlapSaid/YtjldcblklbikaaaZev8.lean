/- Lists that grow, copies, conversions, in a small world of labels. No condition. -/
import Derived.Test.YtjldcblklbikaaaZev7
namespace Go.Proofs.YtjldcblklbikaaaZev
open Go.RowKit
set_option linter.unusedVariables false

section
variable {P : Program} {w0 w w1 : World} {K : Nat → Prop} {ro : Nat → Bool} {β : Env} {H : Heap}

theorem putAll_get : ∀ (vs : List Value) (c : Array Value) (i j : Nat), i + vs.length ≤ c.size →
    (putAll c i vs)[j]? = if i ≤ j ∧ j < i + vs.length then vs[j - i]? else c[j]? := by
  intro vs
  induction vs with
  | nil => intro c i j _; simp only [putAll, List.length_nil, Nat.add_zero]; rw [if_neg (by omega)]
  | cons v r ih =>
    intro c i j h
    simp only [List.length_cons] at h
    simp only [putAll]
    rw [ih _ _ _ (by simp; omega)]
    by_cases h1 : i + 1 ≤ j ∧ j < i + 1 + r.length
    · rw [if_pos h1, if_pos (by simp; omega)]
      rw [show j - i = (j - (i + 1)) + 1 from by omega, List.getElem?_cons_succ]
    · rw [if_neg h1]
      by_cases h2 : i = j
      · subst h2
        rw [Array.getElem?_setIfInBounds_self_of_lt (by omega), if_pos (by simp)]
        simp
      · rw [Array.getElem?_setIfInBounds_ne h2, if_neg (by simp; omega)]

/-- what may be appended: a list, or a text -/
def ListD (d : TypeDesc) : Prop := d = .string ∨ ∃ e, d = .slice e

theorem run_app_room {ts : Array TypeId} {t xt ty e : TypeId} {d : TypeDesc} {i : TypeInfo} (h0 : ts[0]? = some t) (h1 : ts[1]? = some xt) (hu : P.underlying t = some (.slice e)) (hux : P.underlying xt = some d)
    (hd : ListD d) (hi : P.info? e = some i) {base : Option Addr} {n cap m : Nat} {x : Value} {news : Array Value} {w w1 : World}
    (hl : (Builtin.lenOf x).run P w = .ok m w) (hf : (Builtin.firstCells i.size m x).run P w = .ok news w) (hc : n + m ≤ cap)
    (hs : ∀ a, base = some a → (storeCells (a.add (n * i.size)) news.toList).run P w = .ok () w1) (hb : base = none → w1 = w) :
    (Builtin.append_ ts ty #[.slice base n cap, x]).run P w = .ok (.slice base (n + m) cap) w1 := by
  have hsz : (Go.sizeOf e).run P w = .ok i.size w := by simp [Go.sizeOf, typeInfo, hi]
  rcases hd with rfl | ⟨e2, rfl⟩
  · cases base with
    | none =>
      have := hb rfl
      subst this
      simp [Builtin.append_, h0, h1, run_underlying hu, run_underlying hux, hsz, hl, hc, hf]
    | some a => simp [Builtin.append_, h0, h1, run_underlying hu, run_underlying hux, hsz, hl, hc, hf, hs a rfl]
  · cases base with
    | none =>
      have := hb rfl
      subst this
      simp [Builtin.append_, h0, h1, run_underlying hu, run_underlying hux, hsz, hl, hc, hf]
    | some a => simp [Builtin.append_, h0, h1, run_underlying hu, run_underlying hux, hsz, hl, hc, hf, hs a rfl]

theorem run_app_grow {ts : Array TypeId} {t xt ty e : TypeId} {d : TypeDesc} {i : TypeInfo} {z : Value} (h0 : ts[0]? = some t) (h1 : ts[1]? = some xt) (hu : P.underlying t = some (.slice e)) (hux : P.underlying xt = some d)
    (hd : ListD d) (hi : P.info? e = some i) {base : Option Addr} {n cap m : Nat} {x : Value} {olds news : Array Value} {w : World}
    (hz : ∀ w, (zeroValue e).run P w = .ok z w)
    (hl : (Builtin.lenOf x).run P w = .ok m w) (hf : (Builtin.firstCells i.size m x).run P w.drew = .ok news w.drew) (hfo : (Builtin.firstCells i.size n (.slice base n cap)).run P w.drew = .ok olds w.drew)
    (hc : cap < n + m) (hbig : (n + m) * i.bytes ≤ 140737488355328) (h63 : n + m ≤ 9223372036854775807) :
    (Builtin.append_ ts ty #[.slice base n cap, x]).run P w = .ok (.slice (some ⟨w.heap.size, 0, none⟩) (n + m) (grownCap w (n + m) cap e))
      (w.drew.alloc (.cells (olds ++ news ++ Builtin.zeroCells z.cells (grownCap w (n + m) cap e - (n + m))) e)) := by
  have hsz : (Go.sizeOf e).run P w = .ok i.size w := by simp [Go.sizeOf, typeInfo, hi]
  have hti : ∀ w, (typeInfo e).run P w = .ok i w := fun w => by simp [typeInfo, hi]
  have hfit := growslice_fits (old := cap) hc hbig
  have n1 : ¬ (n + m ≤ cap) := by omega
  have n2 : ¬ (9223372036854775807 < ((n : Int) + (m : Int))) := by omega
  have n3 : ¬ (281474976710656 < Builtin.nextslicecap (n + m) cap * i.bytes) := by omega
  rcases hd with rfl | ⟨e2, rfl⟩
  · simp [Builtin.append_, h0, h1, run_underlying hu, run_underlying hux, hsz, hl, n1, hti, n2, n3, Question.forced, hf, hfo, hz, newRow, grownCap]
  · simp [Builtin.append_, h0, h1, run_underlying hu, run_underlying hux, hsz, hl, n1, hti, n2, n3, Question.forced, hf, hfo, hz, newRow, grownCap]

theorem run_app_room_z {ts : Array TypeId} {t xt ty e : TypeId} {kd kx : IntKind} {i : TypeInfo} {z : Value} (h0 : ts[0]? = some t) (h1 : ts[1]? = some xt) (hu : P.underlying t = some (.slice e)) (hux : P.underlying xt = some (.int kd))
    (hi : P.info? e = some i) (hz : ∀ w, (zeroValue e).run P w = .ok z w) {base : Option Addr} {n cap m : Nat} {w w1 : World} (hs0 : i.size ≠ 0) (hm0 : 0 < m) (hm : (m : Int) * i.bytes ≤ 281474976710656) (h63 : m ≤ 9223372036854775807) (hc : n + m ≤ cap)
    (hs : ∀ a, base = some a → (storeCells (a.add (n * i.size)) (Builtin.zeroCells z.cells m).toList).run P w = .ok () w1) (hb : base = none → w1 = w) :
    (Builtin.append_ ts ty #[.slice base n cap, .int kx (m : Int)]).run P w = .ok (.slice base (n + m) cap) w1 := by
  have hsz : (Go.sizeOf e).run P w = .ok i.size w := by simp [Go.sizeOf, typeInfo, hi]
  have hti : ∀ w, (typeInfo e).run P w = .ok i w := fun w => by simp [typeInfo, hi]
  have wl : IntKind.i64.wrap (m : Int) = m := by rw [IntKind.wrap_i64]; omega
  have n1 : ¬ ((m : Int) < 0) := by omega
  have n2 : ¬ (281474976710656 < (m : Int) * i.bytes) := by omega
  have n3 : ¬ (m * i.size = 0) := Nat.mul_ne_zero (by omega) hs0
  cases base with
  | none =>
    have := hb rfl
    subst this
    simp [Builtin.append_, h0, h1, run_underlying hu, run_underlying hux, hsz, asInt, asIntOf, wl, n1, hti, n2, hz, hc]
  | some a => simp [Builtin.append_, h0, h1, run_underlying hu, run_underlying hux, hsz, asInt, asIntOf, wl, n1, hti, n2, n3, hz, hc, hs a rfl]

theorem run_app_grow_z {ts : Array TypeId} {t xt ty e : TypeId} {kd kx : IntKind} {i : TypeInfo} {z : Value} (h0 : ts[0]? = some t) (h1 : ts[1]? = some xt) (hu : P.underlying t = some (.slice e)) (hux : P.underlying xt = some (.int kd))
    (hi : P.info? e = some i) (hz : ∀ w, (zeroValue e).run P w = .ok z w) {base : Option Addr} {n cap m : Nat} {olds : Array Value} {w : World} (hs0 : i.size ≠ 0) (hm0 : 0 < m) (hm : (m : Int) * i.bytes ≤ 281474976710656)
    (hfo : (Builtin.firstCells i.size n (.slice base n cap)).run P w.drew = .ok olds w.drew)
    (hc : cap < n + m) (hbig : (n + m) * i.bytes ≤ 140737488355328) (h63 : n + m ≤ 9223372036854775807) :
    (Builtin.append_ ts ty #[.slice base n cap, .int kx (m : Int)]).run P w = .ok (.slice (some ⟨w.heap.size, 0, none⟩) (n + m) (grownCap w (n + m) cap e))
      (w.drew.alloc (.cells (olds ++ (Builtin.zeroCells z.cells m) ++ Builtin.zeroCells z.cells (grownCap w (n + m) cap e - (n + m))) e)) := by
  have hsz : (Go.sizeOf e).run P w = .ok i.size w := by simp [Go.sizeOf, typeInfo, hi]
  have hti : ∀ w, (typeInfo e).run P w = .ok i w := fun w => by simp [typeInfo, hi]
  have hfit := growslice_fits (old := cap) hc hbig
  have wl : IntKind.i64.wrap (m : Int) = m := by rw [IntKind.wrap_i64]; omega
  have n1 : ¬ (n + m ≤ cap) := by omega
  have n2 : ¬ (9223372036854775807 < ((n : Int) + (m : Int))) := by omega
  have n3 : ¬ (281474976710656 < Builtin.nextslicecap (n + m) cap * i.bytes) := by omega
  have n4 : ¬ (281474976710656 < (m : Int) * i.bytes) := by omega
  have n5 : ¬ (m * i.size = 0) := Nat.mul_ne_zero (by omega) hs0
  have n6 : ¬ ((m : Int) < 0) := by omega
  simp [Builtin.append_, h0, h1, run_underlying hu, run_underlying hux, hsz, asInt, asIntOf, wl, n1, n6, hti, n2, n3, n4, n5, Question.forced, hfo, hz, newRow, grownCap]

/-- what is appended, as a run has it: into room that is there, and into a new row -/
structure AppR (P : Program) (ts : Array TypeId) (ty e : TypeId) (i : TypeInfo) (z : Value) (x' : Value) (m : Nat) (w : World) (c0 c1 : List Value) : Prop where
  room : ∀ (base : Option Addr) (n cap : Nat) (w1 : World), n + m ≤ cap → (∀ a, base = some a → (storeCells (a.add (n * i.size)) c0).run P w = .ok () w1) → (base = none → w1 = w) →
    (Builtin.append_ ts ty #[.slice base n cap, x']).run P w = .ok (.slice base (n + m) cap) w1
  grow : ∀ (base : Option Addr) (n cap : Nat) (olds : Array Value), (Builtin.firstCells i.size n (.slice base n cap)).run P w.drew = .ok olds w.drew → cap < n + m → (n + m) * i.bytes ≤ 140737488355328 → n + m ≤ 9223372036854775807 →
    (Builtin.append_ ts ty #[.slice base n cap, x']).run P w = .ok (.slice (some ⟨w.heap.size, 0, none⟩) (n + m) (grownCap w (n + m) cap e))
      (w.drew.alloc (.cells (olds ++ c1.toArray ++ Builtin.zeroCells z.cells (grownCap w (n + m) cap e - (n + m))) e))

/-! ### a list that grows -/
def listB : TypeDesc → Bool
  | .string | .slice _ => true
  | _ => false
theorem listB_spec {d : TypeDesc} (h : listB d = true) : ListD d := by
  unfold listB at h
  split at h
  · exact .inl rfl
  · exact .inr ⟨_, rfl⟩
  · cases h

/-- the first cells of a list that grows -/
def oldsE (H : Heap) (sz l o n : Nat) : Option (List Value × (Nat × Nat)) :=
  match H[l]? with
  | some (some (.cells c _ z)) => if o + n * sz ≤ c.size then some ((c.toList.drop o).take (n * sz), z) else none
  | _ => none

def srcZ (H : Heap) (i : TypeInfo) (z : Array Value) (d : TypeDesc) (x : Value) : Option (Nat × List Value) :=
  match d with
  | .string => srcE H i.size x
  | .slice _ => srcE H i.size x
  | .int _ => match x with
    | .int _ m => if 0 < m ∧ m * i.bytes ≤ 281474976710656 ∧ m ≤ 9223372036854775807 ∧ z.size = i.size ∧ i.size ≠ 0 ∧ (Builtin.zeroCells z m.toNat).all bare = true then some (m.toNat, (Builtin.zeroCells z m.toNat).toList) else none
    | _ => none
  | _ => none

theorem bare_one {v : Value} (h : bare v = true) : v.oneCell' = true := by cases v <;> first | rfl | (simp [bare] at h)
theorem srcZ_run (h : M w0 K ro β H w) {ts : Array TypeId} {t xt ty e : TypeId} {d : TypeDesc} {i : TypeInfo} {z x x' : Value} (h0 : ts[0]? = some t) (h1 : ts[1]? = some xt) (hu : P.underlying t = some (.slice e)) (hux : P.underlying xt = some d)
    (hi : P.info? e = some i) (hz : ∀ w, (zeroValue e).run P w = .ok z w) {m : Nat} {cs : List Value} (hx : VR β x x') (he : srcZ H i z.cells d x = some (m, cs)) :
    ∃ c0 c1, AppR P ts ty e i z x' m w c0 c1 ∧ LsR β cs c0 ∧ LsR β cs c1 ∧ cs.length = m * i.size ∧ (∀ v ∈ c0, v.oneCell' = true) := by
  have lst : ListD d → srcE H i.size x = some (m, cs) → ∃ c0 c1, AppR P ts ty e i z x' m w c0 c1 ∧ LsR β cs c0 ∧ LsR β cs c1 ∧ cs.length = m * i.size ∧ (∀ v ∈ c0, v.oneCell' = true) := by
    intro hd he
    obtain ⟨c0, a1, a2, a3, a4, a5⟩ := srcE_run (P := P) h hx he
    obtain ⟨c1, _, b2, b3, _, _⟩ := srcE_run (P := P) h.drew hx he
    exact ⟨c0, c1, ⟨fun base n cap w1 hc hs hb => run_app_room (P := P) (ty := ty) h0 h1 hu hux hd hi a1 a2 hc (by simpa using hs) hb, fun base n cap olds ho hc hb h63 => run_app_grow (P := P) (ty := ty) h0 h1 hu hux hd hi hz a1 b2 ho hc hb h63⟩, a3, b3, a4, a5⟩
  unfold srcZ at he
  split at he
  · exact lst (.inl rfl) he
  · exact lst (.inr ⟨_, rfl⟩) he
  · split at he
    · rename_i kx m0
      split at he
      · rename_i hc
        obtain ⟨q1, q2, q3, q4, q5, q6⟩ := hc
        simp only [Option.some.injEq, Prod.mk.injEq] at he
        obtain ⟨rfl, rfl⟩ := he
        obtain ⟨k, rfl⟩ := Int.eq_ofNat_of_zero_le (show 0 ≤ m0 by omega)
        simp only [Int.toNat_natCast] at *
        cases hx
        have hr := AsR.toList (all_bare_asr (β := β) q6)
        refine ⟨_, _, ⟨fun base n cap w1 hc hs hb => run_app_room_z (P := P) (ty := ty) h0 h1 hu hux hi hz q5 (by omega) q2 (by omega) hc hs hb, fun base n cap olds ho hc hb h63 => ?_⟩, hr, hr, ?_, fun v hv => ?_⟩
        · have := run_app_grow_z (P := P) (ty := ty) (kx := kx) h0 h1 hu hux hi hz q5 (by omega) q2 ho hc hb h63
          simpa using this
        · rw [Array.length_toList, size_zeroCells, q4]
        · exact bare_one (Array.all_eq_true_iff_forall_mem.1 q6 v (by simpa using hv))
      · cases he
    · cases he
  · cases he

def appE (P : Program) (ro : Nat → Bool) (H : Heap) (ts : Array TypeId) (s x : Value) : Option (Value × Heap) :=
  match ts[0]?, ts[1]? with
  | some t, some xt =>
    match P.underlying t, P.underlying xt with
    | some (.slice e), some d =>
      match P.info? e, zeroE P e with
      | some i, some z =>
        if i.size ≠ 0 ∧ z.size = i.size then
          match srcZ H i z d x, s with
          | some (m, cs), .slice none n c =>
            if m = 0 then (if n ≤ c then some (s, H) else none)
            else if n = 0 ∧ c = 0 ∧ m * i.bytes ≤ 140737488355328 ∧ m ≤ 9223372036854775807 then some (.slice (some ⟨H.length, 0, none⟩) m (2 * i.size), H ++ [some (.cells cs.toArray e)])
            else none
          | some (m, cs), .slice (some ⟨l, o, none⟩) n k =>
            if m = 0 then some (s, H)
            else if k / 2 = i.size ∧ (n + m) * i.bytes ≤ 140737488355328 ∧ n + m ≤ 9223372036854775807 then
              if k % 2 = 1 then
                if n = 0 then some (.slice (some ⟨H.length, 0, none⟩) m (2 * i.size), H ++ [some (.cells cs.toArray e)])
                else match oldsE H i.size l o n with
                  | some (olds, _) => some (.slice (some ⟨H.length, 0, none⟩) (n + m) (2 * i.size), H ++ [some (.cells (olds ++ cs).toArray e)])
                  | none => none
              else match oldsE H i.size l o n, ro l with
                | some (olds, z), false => some (.slice (some ⟨H.length, 0, none⟩) (n + m) (2 * i.size), H.set l none ++ [some (.cells (olds ++ cs).toArray e z)])
                | _, _ => none
            else none
          | _, _ => none
        else none
      | _, _ => none
    | _, _ => none
  | _, _ => none

theorem grown_lies (h : M w0 K ro β H w) {n m cap sz : Nat} {e : TypeId} {z : Array Value} {olds olds' cs cs' : List Value} (hz : z.size = sz) (h1 : LsR β olds olds') (h2 : LsR β cs cs')
    (l1 : olds.length = n * sz) (l2 : cs.length = m * sz) (hn : n + m ≤ cap) (zz : Nat × Nat) :
    ∃ β', Ext β β' ∧ M w0 K ro β' (H ++ [some (.cells (olds ++ cs).toArray e zz)]) (w.drew.alloc (.cells (olds'.toArray ++ cs'.toArray ++ Builtin.zeroCells z (cap - (n + m))) e)) ∧
      VR β' (.slice (some ⟨H.length, 0, none⟩) (n + m) (2 * sz)) (.slice (some ⟨w.heap.size, 0, none⟩) (n + m) cap) := by
  have hlen : (olds'.toArray ++ cs'.toArray ++ Builtin.zeroCells z (cap - (n + m))).size = cap * sz := by
    simp only [Array.size_append, List.size_toArray, size_zeroCells, hz, ← h1.1, ← h2.1, l1, l2]
    rw [Nat.sub_mul, ← Nat.add_mul]
    have := Nat.mul_le_mul_right sz hn
    omega
  have hle := Nat.mul_le_mul_right sz hn
  rw [Nat.add_mul] at hle
  have ha := h1.append h2
  refine ⟨β ++ [some ⟨w.heap.size, 0, cap * sz⟩], Ext.push _ _, h.drew.alloc (cap * sz) _ _ (.cells ⟨by rw [hlen]; simp, by simp [l1, l2]; exact hle, fun i x hx => ?_, fun i _ => by simp⟩ (fun _ => rfl)),
    .sl ⟨rfl, hn, fun hk => by omega, .inl ⟨⟨w.heap.size, 0, cap * sz⟩, by rw [← h.len]; simp, rfl, rfl, .inl rfl, by rw [show 2 * sz / 2 = sz from by omega]; simp⟩⟩⟩
  rw [List.getElem?_toArray] at hx
  obtain ⟨x', e1, e2⟩ := ha.at hx
  refine ⟨x', ?_, e2.mono (Ext.push _ _)⟩
  have hi := (List.getElem?_eq_some_iff.1 e1).1
  rw [Nat.zero_add, Array.getElem?_append_left (by simp only [Array.size_append, List.size_toArray]; simpa using hi)]
  rw [← e1]
  simp

theorem room_lies (h : M w0 K ro β H w) {l o n m k cap sz : Nat} {e t t' : TypeId} {z fz : Nat × Nat} {c c' : Array Value} {a' : Addr} {cs cs' : List Value} {p : Spot} (g : SR β ⟨l, o, none⟩ a' n k cap) (hk : k / 2 = sz)
    (hl : H[l]? = some (some (.cells c t z))) (hro : ro l = false) (hp : β[l]? = some (some p)) (hb : w.heap[p.b]? = some (.cells c' t' fz)) (hc : CR β p c c' fz) (hfz : z = (0, 0) → fz = (0, 0))
    (h2 : LsR β cs cs') (l2 : cs.length = m * sz) (hoc : o + n * sz ≤ c.size) (hn : n + m ≤ cap) (hm : 0 < m) (h1 : ∀ v ∈ cs', v.oneCell' = true) :
    ∃ β' w1, Ext β β' ∧ (storeCells (a'.add (n * sz)) cs').run P w = .ok () w1 ∧ M w0 K ro β' (H.set l none ++ [some (.cells ((c.toList.drop o).take (n * sz) ++ cs).toArray e z)]) w1 ∧
      VR β' (.slice (some ⟨H.length, 0, none⟩) (n + m) (2 * sz)) (.slice (some a') (n + m) cap) := by
  obtain ⟨g1, g2, g3, ⟨q, g4, g5, g6, g7, g8⟩ | g4⟩ := g
  · rw [hp] at g4; cases g4
    rw [hk] at g8
    have hle := Nat.mul_le_mul_right sz hn
    rw [Nat.add_mul] at hle
    have hsz := hc.size
    have hcle := hc.le
    have ea : a' = ⟨p.b, p.s + o, none⟩ := by
      cases a'
      simp only at g5 g6 g7
      rcases g7 with g7 | g7
      · rw [g5, g6, g7]
      · omega
    subst ea
    obtain ⟨w1, e1, e2, e3⟩ := run_storeCells_blk P (s := p.s + o + n * sz) cs' 0 c' w hb (by rw [← h2.1, l2]; simp only [Nat.add_zero]; simp only at g8; omega) h1
      (fun j hj => by
        have := hc.fz (o + n * sz + j) (by rw [← h2.1, l2] at hj; simp only at g8; omega)
        rwa [show p.s + o + n * sz + 0 + j = p.s + (o + n * sz + j) from by omega])
    have hx := h.kill l
    have hl' : l < β.length := (List.getElem?_eq_some_iff.1 hp).1
    refine ⟨β.set l none ++ [some ⟨p.b, p.s + o, p.n - o⟩], w1, (Ext.kill β l).trans (Ext.push _ _), by rw [Addr.add_mid]; exact e1, ?_, ?_⟩
    · refine hx.put ⟨p.b, p.s + o, p.n - o⟩ _ _ e2 e3 (fun l' p' hl2 => ?_) ((h.own l p hp).resolve_left (by rw [hro]; simp)) (.cells ⟨?_, ?_, fun i x hi => ?_, fun i hi => ?_⟩ hfz)
      · by_cases e : l = l'
        · subst e; rw [List.getElem?_set_self hl'] at hl2; cases hl2
        · rw [List.getElem?_set_ne e] at hl2
          exact fun eb => e (h.inj _ _ _ _ hp hl2 eb.symm)
      · rw [size_putAll]; simp only; simp only at g8; omega
      · simp only [List.size_toArray, List.length_append, List.length_take, List.length_drop, Array.length_toList, l2]; simp only at g8; omega
      · rw [List.getElem?_toArray] at hi
        simp only
        rw [putAll_get _ _ _ _ (by rw [← h2.1, l2]; simp only at g8; omega)]
        have hol : ((c.toList.drop o).take (n * sz)).length = n * sz := by simp; omega
        rcases Nat.lt_or_ge i (n * sz) with hlt | hge
        · rw [List.getElem?_append_left (by rw [hol]; exact hlt), List.getElem?_take_of_lt hlt, List.getElem?_drop, Array.getElem?_toList] at hi
          obtain ⟨x', f1, f2⟩ := hc.at_ _ _ hi
          refine ⟨x', ?_, f2.mono ((Ext.kill β l).trans (Ext.push _ _))⟩
          rw [if_neg (by omega)]
          rw [← f1]; congr 1; omega
        · rw [List.getElem?_append_right (by rw [hol]; exact hge), hol] at hi
          obtain ⟨x', f1, f2⟩ := h2.at hi
          have hi2 := (List.getElem?_eq_some_iff.1 f1).1
          refine ⟨x', ?_, f2.mono ((Ext.kill β l).trans (Ext.push _ _))⟩
          rw [if_pos (by omega), ← f1]; congr 1; omega
      · have := hc.fz (o + i) (by simp only at hi; omega)
        rwa [← Nat.add_assoc] at this
    · refine .sl ⟨rfl, hn, fun hk => by omega, .inl ⟨⟨p.b, p.s + o, p.n - o⟩, ?_, rfl, rfl, .inl rfl, ?_⟩⟩
      · rw [List.getElem?_append_right (by simp [h.len])]; simp [h.len]
      · rw [show 2 * sz / 2 = sz from by omega]; simp only at g8 ⊢; omega
  · rw [hp] at g4; cases g4

theorem appE_run (h : M w0 K ro β H w) {ts : Array TypeId} {ty : TypeId} {s s' x x' v : Value} {H' : Heap} (hs : VR β s s') (hx : VR β x x') (he : appE P ro H ts s x = some (v, H')) :
    ∃ v' w1 β', (Builtin.append_ ts ty #[s', x']).run P w = .ok v' w1 ∧ Ext β β' ∧ M w0 K ro β' H' w1 ∧ VR β' v v' := by
  unfold appE at he
  split at he
  case h_2 => cases he
  rename_i t xt h0 h1
  split at he
  case h_2 => cases he
  rename_i e d hu hux
  split at he
  case h_2 => cases he
  rename_i i z hi hz
  split at he
  case isFalse => cases he
  rename_i hc
  obtain ⟨c2, c3⟩ := hc
  obtain ⟨zv, rfl, hzr, hzb⟩ := zeroE_run hz
  have nop : ∀ {cs : List Value} {base : Option Addr} {n cap : Nat}, srcZ H i zv.cells d x = some (0, cs) → (Builtin.append_ ts ty #[.slice base n cap, x']).run P w = .ok (.slice base n cap) w ∨ cap < n := by
    intro cs base n cap hsrc
    obtain ⟨d0, d1, hA, a3, _, a4, a5⟩ := srcZ_run (P := P) (ty := ty) h h0 h1 hu hux hi hzr hx hsrc
    have e : d0 = [] := List.eq_nil_of_length_eq_zero (by rw [← a3.1, a4]; simp)
    subst e
    rcases Nat.lt_or_ge cap n with hlt | hge
    · exact .inr hlt
    · exact .inl (by simpa using hA.room base n cap w (by simpa using hge) (fun a _ => rfl) (fun _ => rfl))
  split at he
  · rename_i m cs n c hsrc
    split at he
    · rename_i hm
      subst hm
      split at he
      · cases he
        cases hs
        refine ⟨_, w, β, ?_, Ext.refl β, h, .nils _ _⟩
        rcases nop (base := none) (n := n) (cap := c) hsrc with r | r
        · exact r
        · omega
      · cases he
    · rename_i hm
      split at he
      · rename_i hc
        obtain ⟨d1, d2, d3, d4⟩ := hc
        subst d1; subst d2
        cases he
        cases hs
        obtain ⟨c0, cs', hA, _, a3, a4, _⟩ := srcZ_run (P := P) (ty := ty) h h0 h1 hu hux hi hzr hx hsrc
        have hg := hA.grow none 0 0 #[] (by simp [Builtin.firstCells]) (by omega) (by simpa using d3) (by omega)
        obtain ⟨β', b1, b2, b3⟩ := grown_lies h (n := 0) (m := m) (cap := grownCap w (0 + m) 0 e) (sz := i.size) (e := e) (z := zv.cells) c3 (LsR.nil β) a3 (by simp) a4 (grownCap_ge _ _ _ _) (0, 0)
        refine ⟨_, _, β', hg, b1, ?_, ?_⟩
        · simpa using b2
        · simpa using b3
      · cases he
  · rename_i m cs l o n k hsrc
    cases hs with
    | sl g =>
    rename_i a' cap
    have g2 := g.2.1
    split at he
    · rename_i hm
      subst hm
      cases he
      refine ⟨_, w, β, ?_, Ext.refl β, h, .sl g⟩
      rcases nop (base := some a') (n := n) (cap := cap) hsrc with r | r
      · exact r
      · omega
    · rename_i hm
      split at he
      case isFalse => cases he
      rename_i hc
      obtain ⟨d1, d2, d3⟩ := hc
      obtain ⟨cs0, cs', hA, a3', a3, a4, a5'⟩ := srcZ_run (P := P) (ty := ty) h h0 h1 hu hux hi hzr hx hsrc
      split at he
      · rename_i hodd
        have hcap : n = cap := (g.2.2.1 hodd).symm
        subst hcap
        split at he
        · rename_i hn
          subst hn
          cases he
          have hg := hA.grow (some a') 0 0 #[] (by simp [Builtin.firstCells, loadCells, loadCellsFrom]) (by omega) d2 d3
          obtain ⟨β', b1, b2, b3⟩ := grown_lies h (n := 0) (m := m) (cap := grownCap w (0 + m) 0 e) (sz := i.size) (e := e) (z := zv.cells) c3 (LsR.nil β) a3 (by simp) a4 (grownCap_ge _ _ _ _) (0, 0)
          refine ⟨_, _, β', hg, b1, ?_, ?_⟩
          · simpa using b2
          · simpa using b3
        · rename_i hn
          split at he
          · rename_i olds zz ho
            cases he
            unfold oldsE at ho
            split at ho
            · rename_i c tt z2 hl
              split at ho
              · rename_i hoc
                cases ho
                obtain ⟨p, c', t', fz, q1, q2, q3, q4⟩ := h.cells (o := o) hl
                obtain ⟨_, rfl⟩ := (g.ar (by omega)).live q1
                have hr := q3.range o (n * i.size) hoc
                have hsz := q3.size
                have hcle := q3.le
                have hfo := range_cells (P := P) (w := w.drew) (p := p) q2 o (n * i.size) (by omega)
                have hg := hA.grow (some ⟨p.b, p.s + o, none⟩) n n _ (by simpa [Builtin.firstCells] using hfo) (by omega) d2 d3
                obtain ⟨β', b1, b2, b3⟩ := grown_lies h (n := n) (m := m) (cap := grownCap w (n + m) n e) (sz := i.size) (e := e) (z := zv.cells) c3 hr a3 (by simp; omega) a4 (grownCap_ge _ _ _ _) (0, 0)
                exact ⟨_, _, β', hg, b1, b2, b3⟩
              · cases ho
            · cases ho
          · cases he
      · rename_i heven
        split at he
        · rename_i olds zz ho hro
          cases he
          unfold oldsE at ho
          split at ho
          · rename_i c tt z2 hl
            split at ho
            · rename_i hoc
              cases ho
              obtain ⟨p, c', t', fz, q1, q2, q3, q4⟩ := h.cells (o := o) hl
              rcases Nat.lt_or_ge cap (n + m) with hlt | hge
              · have hr := q3.range o (n * i.size) hoc
                have hsz := q3.size
                have hcle := q3.le
                have hfo : (Builtin.firstCells i.size n (.slice (some a') n cap)).run P w.drew = .ok ((c'.toList.drop (p.s + o)).take (n * i.size)).toArray w.drew := by
                  rcases Nat.eq_zero_or_pos n with hn | hn
                  · subst hn; simp [Builtin.firstCells, loadCells, loadCellsFrom]
                  · obtain ⟨_, rfl⟩ := (g.ar hn).live q1
                    have hfo := range_cells (P := P) (w := w.drew) (p := p) q2 o (n * i.size) (by omega)
                    simpa [Builtin.firstCells] using hfo
                have hg := hA.grow (some a') n cap _ hfo hlt d2 d3
                have hE := Ext.kill β l
                obtain ⟨β', b1, b2, b3⟩ := grown_lies (h.kill l) (n := n) (m := m) (cap := grownCap w (n + m) cap e) (sz := i.size) (e := e) (z := zv.cells) c3 (hr.mono hE) (a3.mono hE) (by simp; omega) a4 (grownCap_ge _ _ _ _) zz
                refine ⟨_, _, β', hg, hE.trans b1, b2, ?_⟩
                simpa using b3
              · obtain ⟨β', w1, b1, b2, b3, b4⟩ := room_lies (P := P) h (e := e) g d1 hl hro q1 q2 q3 q4 a3' a4 hoc hge (by omega) a5'
                refine ⟨_, w1, β', hA.room _ _ _ _ hge (fun a ha => by cases ha; exact b2) (fun hb => by cases hb), b1, b3, b4⟩
            · cases ho
          · cases ho
        · cases he
  · cases he
end
end Go.Proofs.YtjldcblklbikaaaZev
