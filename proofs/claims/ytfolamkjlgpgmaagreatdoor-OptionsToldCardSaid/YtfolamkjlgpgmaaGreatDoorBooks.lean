/- Several texts in one: Spans, Book, Apart. No condition beyond those that each part names. -/
import Derived.Test.YtfolamkjlgpgmaaGreatDoorRefP
import Derived.Test.YtfolamkjlgpgmaaGreatDoorStrips
import Derived.Handy
/- The spans that bytes read as options leave: each within its block, all apart. No program in sight. -/
namespace Go.Proofs.YtfolamkjlgpgmaaGreatDoor
open Go.RowKit
set_option linter.unusedVariables false
set_option linter.unusedSimpArgs false
def spanOf (x : Opt) : Span := ⟨x.adr, x.data.length, x.cap⟩
theorem twin_span {w : World} {g s kb : Nat} {l : List Nat} (h : w.heap[g]? = some (.cells (row8 (twinL l s)).toArray 5 (0, 0))) (hl : l.length ≤ 5000) (hkb : w.heap.size ≤ kb) : SpanIn g kb w ⟨some ⟨g, 0, none⟩, l.length, l.length + 4⟩ := by
  refine ⟨by show l.length ≤ l.length + 4; omega, by show l.length + 4 ≤ 9223372036854775807; omega, .inr ⟨g, 0, _, rfl, Nat.le_refl _, by have := lt_of_blk h; omega, h, ?_⟩⟩
  show 0 + (l.length + 4) ≤ _
  simp only [List.size_toArray, row8_length, twinL_length]; omega
theorem get_spans {w : World} {gt g c kb : Nat} {l : List Nat} {L : List (Nat × Nat × Nat)} (ht : w.heap[gt]? = some (.cells (row8 (twinL l 199)).toArray 5 (0, 0))) (hg : l ≠ [] → gt < g ∧ RowAt w g c l)
    (hb : ∀ x ∈ l, x < 256) (hL : getS l = some L) (hl : l.length ≤ 5000) (hkb : w.heap.size ≤ kb) :
    (∀ x ∈ (⟨some ⟨gt, 0, none⟩, l.length, l.length + 4⟩ : Span) :: (optL g l L).map spanOf, SpanIn gt kb w x) ∧ List.Pairwise apart2 ((⟨some ⟨gt, 0, none⟩, l.length, l.length + 4⟩ : Span) :: (optL g l L).map spanOf) := by
  obtain ⟨f1, f2, f3⟩ := getS_facts hb hL
  have hne : ∀ y ∈ L, l ≠ [] := fun y hy e => by have := f2 y hy; rw [e] at this; simp at this; omega
  refine ⟨fun x hx => ?_, List.pairwise_cons.2 ⟨fun x hx => ?_, ?_⟩⟩
  · rcases List.mem_cons.1 hx with rfl | hx
    · exact twin_span ht hl hkb
    · simp only [optL, List.map_map, List.mem_map, Function.comp] at hx
      obtain ⟨y, hy, rfl⟩ := hx
      obtain ⟨k1, cur, k2, k3, k4⟩ := hg (hne y hy)
      have hy2 := f2 y hy
      have hlen : l.length ≤ cur.size := by
        have := congrArg List.length k4
        rw [row8_length, List.length_take] at this
        have h2 : cur.toList.length = cur.size := Array.length_toList
        omega
      refine ⟨?_, ?_, .inr ⟨g, y.2.1, cur, rfl, by omega, by have := lt_of_blk k2; omega, k2, ?_⟩⟩
      · show ((l.drop y.2.1).take y.2.2).length ≤ y.2.2
        rw [List.length_take]; omega
      · show y.2.2 ≤ 9223372036854775807; omega
      · show y.2.1 + y.2.2 ≤ cur.size; omega
  · simp only [optL, List.map_map, List.mem_map, Function.comp] at hx
    obtain ⟨y, hy, rfl⟩ := hx
    have k1 := (hg (hne y hy)).1
    intro g1 o o2 e1 e2
    cases e1
    cases e2
    omega
  · unfold optL
    rw [List.map_map, List.pairwise_map]
    refine f3.imp (fun {x y} h => ?_)
    intro g1 o o2 e1 e2
    cases e1
    cases e2
    exact .inl h
end Go.Proofs.YtfolamkjlgpgmaaGreatDoor

/- A book of lists of bytes: one list more. No condition but that the lists are few. -/
namespace Go.Proofs.YtfolamkjlgpgmaaGreatDoor
open Go.RowKit
set_option linter.unusedVariables false
set_option linter.unusedSimpArgs false
/-- the book at kb holds these spans -/
def BookAt (w : World) (kb : Nat) (S : List Span) : Prop := ∃ v, w.heap[kb]? = some (.cells #[v] 53 (0, 0)) ∧ w.ownsRow kb 107 1 v S.length (rowB S)
theorem BookAt.step {w w' : World} {kb : Nat} {S : List Span} (h : BookAt w kb S) (hb : Below w.heap.size w w') : BookAt w' kb S := by
  obtain ⟨v, h1, h2⟩ := h
  exact ⟨v, (hb.block kb (lt_of_blk h1)).trans h1, own_below h2 hb⟩
theorem info87 : (Tryz.prog.info? 107).map (fun i => (i.zero, i.size, i.bytes)) = some (some .nilIface, 1, 16) := by kernel_rfl
set_option maxRecDepth 100000 in
set_option maxHeartbeats 1000000 in
theorem next54 {kb n c : Nat} {q : Option Addr} (w : World) (h : w.heap[kb]? = some (.cells #[.slice q n c] 53 (0, 0))) (hn : n ≤ 1000000000) :
    Calls Tryz.prog 56 #[.pointer (some ⟨kb, 0, none⟩)] w fun e w' => e = .returned (.int .i64 (1 + (n : Int))) ∧ w = w' := by
  have c0 := cell_blk h 0
  simp only [List.getElem?_toArray, List.getElem?_cons_zero] at c0
  go_enter Tryz.func56, Tryz.ntmps56
  go_wp2_with fail
  go_ret
  exact ⟨rfl, rfl⟩
theorem own_blk {w : World} {B e s n kb T : Nat} {v : Value} {xs : List Value} {cs : Array Value} {z : Nat × Nat} (h : w.ownsRow B e s v n xs) (k : w.heap[kb]? = some (.cells cs T z)) (hne : e ≠ T) : v.ownBlock = none ∨ v.ownBlock ≠ some kb := by
  rcases h.2 with ⟨rfl, _⟩ | ⟨g, cap, cur, rfl, hb, hg, _⟩
  · exact .inl rfl
  · right
    intro x
    simp only [Value.ownBlock, Option.some.injEq] at x
    subst x
    rw [hg] at k
    cases k
    exact hne rfl
def BookPost (kb : Nat) (S : List Span) (w : World) (e : Ending) (w' : World) : Prop := e = .returned (.tuple #[]) ∧ BookAt w' kb S ∧ Below kb w w'
set_option maxRecDepth 100000 in
set_option maxHeartbeats 1000000 in
theorem bytes14 {kb n c : Nat} {A : Option Addr} {S : List Span} (w : World) (h : BookAt w kb S) (hS : S.length ≤ 1000000) :
    Calls Tryz.prog 19 #[.pointer (some ⟨kb, 0, none⟩), .slice A n c] w (BookPost kb (S ++ [⟨A, n, c⟩]) w) := by
  obtain ⟨i87, hi, hz0, hz1, hz2⟩ := info_parts info87
  obtain ⟨v, h1, h2⟩ := h
  obtain ⟨q, cq, rfl, hq⟩ := own_slice2 h2
  have HNX := Lib.hid (next54 w h1 (by omega))
  have c0 := cell_blk h1 0
  simp only [List.getElem?_toArray, List.getElem?_cons_zero] at c0
  obtain ⟨m, hm⟩ : ∃ m, S.length = m := ⟨_, rfl⟩
  have HM := Lib.hid hm
  rw [hm] at HNX c0 h1 h2 hS hq
  have H1 := Lib.hid h1
  have H2 := Lib.hid h2
  have hkb := lt_of_blk h1
  clear hm h1 h2
  go_enter Tryz.func19, Tryz.ntmps19
  go_wp2_with fail
  refine (HNX.out).mono ?_
  rintro e w1 ⟨rfl, rfl⟩
  go_wp2_with (at_builtin; refine wpList_append_own _ rfl _ _ 51 rfl kb 107 i87 .nilIface 1 16 Tryz.underlying51 hi hz0 hz1 hz2 rfl (by decide) _ _ _ rfl (H2.out.alloc _) ⟨w.heap.size, 0, none⟩ 1 1 [leafV m ⟨A, n, c⟩] rfl rfl ?c2 ?c1 ?c3 ?c4 ?c5 ?_)
  case c2 =>
    intro j u hj
    rw [Addr.add_mid, Nat.zero_add]
    have c := cell_blk (heap_alloc_new w (.cells #[leafV m ⟨A, n, c⟩] 107)) j
    exact c.trans (by simpa using hj)
  case c1 => intro u hu; rw [List.mem_singleton] at hu; subst hu; rfl
  case c3 => unfold maxLen; omega
  case c4 => omega
  case c5 => simp; omega
  intro v' w7 ho hg _
  have hal : Below w.heap.size w (w.alloc (.cells #[leafV m ⟨A, n, c⟩] 107)) := (Below.refl _ _).alloc (Nat.le_refl _) _
  have hb1 : w7.heap[kb]? = some (.cells #[.slice q m cq] 53 (0, 0)) := by
    refine (hg.block kb (by simp; omega) (fun e => ?_)).trans ((hal.block kb hkb).trans H1.out)
    rcases own_blk H2.out H1.out (by decide) with h | h
    · rw [h] at e; cases e
    · exact h e.symm
  have d0 := cell_blk hb1 0
  simp only [List.getElem?_toArray, List.getElem?_cons_zero] at d0
  have f0 := frozen_blk hb1 0
  have hB7 : Below kb w w7 := Below.grown' (hal.mono (by omega)) hg (by simp; omega) (fun k hk => (H2.out.lt k hk).1)
  obtain ⟨q2, cq2, rfl, -⟩ := own_slice2 ho
  have t := Turned.setCell hb1 0 (.slice q2 (m + 1) cq2)
  have HT := Lib.hid t
  have HO := Lib.hid ho
  have HB7 := Lib.hid hB7
  have HB1 := Lib.hid hb1
  clear hg ho hal t hB7 hb1
  go_wp2_with fail
  go_end0
  have hm := HM.out
  refine ⟨rfl, ⟨_, HT.out.get (lt_of_blk HB1.out), ?_⟩, HB7.out.trans (HT.out.below (Nat.le_refl _))⟩
  have ho := HO.out.kept HT.out.grown (own_blk HO.out HB1.out (by decide))
  rw [rowB_snoc, List.length_append, List.length_singleton, hm]
  exact ho
def BookMany (kb : Nat) (S : List Span) (w : World) (e : Ending) (w' : World) : Prop := e = .returned (.tuple #[]) ∧ BookAt w' kb S ∧ Below kb w w'
end Go.Proofs.YtfolamkjlgpgmaaGreatDoor

/- Has each list of a book its own memory: the walk. Condition: the lists' spans are apart. -/
namespace Go.Proofs.YtfolamkjlgpgmaaGreatDoor
open Go.RowKit
set_option linter.unusedVariables false
set_option linter.unusedSimpArgs false
theorem ApI.leaf {w wr : World} {lo kb p q i n c : Nat} {S : List Span} {A : Option Addr} {x : Span} (h : ApI w wr lo kb S p q) (h2 : w.ownsRow kb 107 1 (.slice A n c) S.length (rowB S)) (hx : S[i]? = some x) :
    ∃ g, A = some ⟨g, 0, none⟩ ∧ wr.cell? ⟨g, i, none⟩ = some (.iface 100 (.agg #[.slice x.adr x.len x.cap, .int .u8 (sgn i), .int .u8 (rsgn i)])) := by
  have hi := (List.getElem?_eq_some_iff.1 hx).1
  rcases h2.2 with ⟨_, h0⟩ | ⟨g, cap, cur, e, hb, hg, hn, hm, hs, ht⟩
  · omega
  · cases e
    refine ⟨g, rfl, ?_⟩
    have h1 := rowB_get hx
    rw [← ht, List.getElem?_take_of_lt (by omega), Array.getElem?_toList] at h1
    rw [cell_blk ((h.above g hb (lt_of_blk hg)).trans hg)]
    exact h1
theorem ApI.head {w wr : World} {lo kb p q : Nat} {S : List Span} {o : Obj} (h : ApI w wr lo kb S p q) (h1 : w.heap[kb]? = some o) : wr.heap[kb]? = some o :=
  (h.above kb (Nat.le_refl _) (lt_of_blk h1)).trans h1
def ApartPost (lo : Nat) (w : World) (e : Ending) (w' : World) : Prop := e = .returned (.bool true) ∧ Below lo w w'
set_option maxRecDepth 100000 in
set_option maxHeartbeats 2000000 in
theorem apart16 {kb lo : Nat} {S : List Span} (w : World) (h : BookAt w kb S) (hs : ∀ x ∈ S, SpanIn lo kb w x) (hp : S.Pairwise apart2) (hlo : lo ≤ kb) (hS : S.length ≤ 1000000) :
    Calls Tryz.prog 22 #[.pointer (some ⟨kb, 0, none⟩)] w (ApartPost lo w) := by
  obtain ⟨v, h1, h2⟩ := h
  obtain ⟨q, cq, rfl, hq⟩ := own_slice2 h2
  have c0 := cell_blk h1 0
  simp only [List.getElem?_toArray, List.getElem?_cons_zero] at c0
  have hkb := lt_of_blk h1
  have I0 := ApI.start (S := S) (lo := lo) (kb := kb) (w := w) hs (by omega)
  obtain ⟨m, hm⟩ : ∃ m, S.length = m := ⟨_, rfl⟩
  have HM := Lib.hid hm
  rw [hm] at c0 h1 hS hq
  have H1 := Lib.hid h1
  have H2 := Lib.hid h2
  have HP := Lib.hid hp
  have HI := Lib.hid I0
  clear hm h1 h2 hs hp I0
  go_enter Tryz.func22, Tryz.ntmps22
  by_cases h120 : 120 < m
  · go_wp2_with fail
    go_ret
    exact ⟨rfl, Below.refl _ _⟩
  · go_wp2_with fail
    go_loopw [3] (fun i wr => ∃ k : Nat, k ≤ m ∧ i = .int .i64 k ∧ ApI w wr lo kb S k 0) (fun i _ => m - (intOf i).toNat)
    case atStart => exact ⟨0, Nat.zero_le _, rfl, HI.out⟩
    case round =>
      clear HI c0
      obtain ⟨k, hk, rfl, I⟩ := hrel
      have c0 := cell_blk (I.head H1.out) 0
      simp only [List.getElem?_toArray, List.getElem?_cons_zero] at c0
      by_cases hlt : k < m
      · obtain ⟨x, hx⟩ : ∃ x, S[k]? = some x := ⟨S[k]'(by rw [HM.out]; exact hlt), List.getElem?_eq_getElem _⟩
        obtain ⟨g, rfl, cg⟩ := I.leaf H2.out hx
        have HF := Lib.hid (fill139 (sgn k) (rsgn k) wr (I.span x (List.mem_of_getElem? hx)))
        have HX := Lib.hid hx
        have HI := Lib.hid I
        clear hx I
        go_wp2_with fail
        refine (HF.out).mono ?_
        rintro e w1 ⟨rfl, P⟩
        have HN := Lib.hid (HI.out.fill HP.out HX.out P)
        clear P HF
        go_wp2_with fail
        go_roundw
        case rel => exact ⟨k + 1, by omega, by go_num, HN.out⟩
        case measure => simp [intOf]; omega
      · obtain rfl : k = m := by omega
        have HI := Lib.hid I
        clear I
        go_wp2_with fail
        clear c0
        go_loopw [4] (fun i wr => ∃ j : Nat, j ≤ k ∧ i = .int .i64 j ∧ ApI w wr lo kb S k j) (fun i _ => k - (intOf i).toNat)
        case atStart => exact ⟨0, Nat.zero_le _, rfl, HI.out⟩
        case round =>
          clear HI
          obtain ⟨j, hj, rfl, I⟩ := hrel
          have c0 := cell_blk (I.head H1.out) 0
          simp only [List.getElem?_toArray, List.getElem?_cons_zero] at c0
          by_cases hlt : j < k
          · obtain ⟨x, hx⟩ : ∃ x, S[j]? = some x := ⟨S[j]'(by rw [HM.out]; exact hlt), List.getElem?_eq_getElem _⟩
            obtain ⟨g, rfl, cg⟩ := I.leaf H2.out hx
            have HF := Lib.hid (room140 (sgn j) (rsgn j) _ (I.span x (List.mem_of_getElem? hx)))
            have HX := Lib.hid hx
            have HI := Lib.hid I
            clear hx I
            go_wp2_with fail
            refine (HF.out).mono ?_
            rintro e w1 ⟨rfl, P⟩
            have HN := Lib.hid (HI.out.room HP.out HX.out P)
            clear P HF
            go_wp2_with fail
            go_roundw
            case rel => exact ⟨j + 1, by omega, by go_num, HN.out⟩
            case measure => simp [intOf]; omega
          · obtain rfl : j = k := by omega
            have HI := Lib.hid I
            clear I
            go_wp2_with fail
            clear c0
            go_loopw [5] (fun i wr => ∃ k : Nat, k ≤ j ∧ i = .int .i64 k ∧ ApI w wr lo kb S j j) (fun i _ => j - (intOf i).toNat)
            case atStart => exact ⟨0, Nat.zero_le _, rfl, HI.out⟩
            case round =>
              clear HI
              obtain ⟨k, hk, rfl, I⟩ := hrel
              have c0 := cell_blk (I.head H1.out) 0
              simp only [List.getElem?_toArray, List.getElem?_cons_zero] at c0
              by_cases hlt : k < j
              · obtain ⟨x, hx⟩ : ∃ x, S[k]? = some x := ⟨S[k]'(by rw [HM.out]; exact hlt), List.getElem?_eq_getElem _⟩
                obtain ⟨g, rfl, cg⟩ := I.leaf H2.out hx
                have HF := Lib.hid (kept141 (sgn k) (rsgn k) _ (I.span x (List.mem_of_getElem? hx)) (I.ins k x hlt hx) (I.outs k x hlt hx))
                have HI := Lib.hid I
                clear hx I
                go_wp2_with fail
                refine (HF.out).mono ?_
                rintro e w1 ⟨rfl, hB⟩
                have HN := Lib.hid (HI.out.step (by have := HI.out.below.size; omega) hB)
                clear hB HF
                go_wp2_with fail
                go_roundw
                case rel => exact ⟨k + 1, by omega, by go_num, HN.out⟩
                case measure => simp [intOf]; omega
              · have HI := Lib.hid I.below
                clear I
                go_wp2_with fail
                go_ret
                exact ⟨rfl, HI.out⟩
end Go.Proofs.YtfolamkjlgpgmaaGreatDoor
