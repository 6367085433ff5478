/- Has each list of a book its own memory: the walk. Condition: the lists' spans are apart. -/
import Derived.Test.YtfolamkjlgpgmaaDoorBook
import Derived.Handy
namespace Go.Proofs.YtfolamkjlgpgmaaDoor
open Go.RowKit
set_option linter.unusedVariables false
set_option linter.unusedSimpArgs false
theorem ApI.leaf {w wr : World} {lo kb p q i n c : Nat} {S : List Span} {A : Option Addr} {x : Span} (h : ApI w wr lo kb S p q) (h2 : w.ownsRow kb 87 1 (.slice A n c) S.length (rowB S)) (hx : S[i]? = some x) :
    ∃ g, A = some ⟨g, 0, none⟩ ∧ wr.cell? ⟨g, i, none⟩ = some (.iface 85 (.agg #[.slice x.adr x.len x.cap, .int .u8 (sgn i), .int .u8 (rsgn i)])) := by
  have hi := (List.getElem?_eq_some_iff.1 hx).1
  rcases h2.2 with ⟨_, h0⟩ | ⟨g, cap, cur, e, hb, hg, hn, hm, hs, ht⟩
  · omega
  · cases e
    refine ⟨g, rfl, ?_⟩
    have h1 := rowB_get hx
    rw [← ht, List.getElem?_take_of_lt (by omega), Array.getElem?_toList] at h1
    rw [cell_blk ((h.above g hb (lt_of_blk hg)).trans hg)]
    exact h1
theorem ApI.head {w wr : World} {lo kb p q : Nat} {S : List Span} {o : Obj} (h : ApI w wr lo kb S p q) (h1 : w.heap[kb]? = some o) : wr.heap[kb]? = some o :=
  (h.above kb (Nat.le_refl _) (lt_of_blk h1)).trans h1
def ApartPost (lo : Nat) (w : World) (e : Ending) (w' : World) : Prop := e = .returned (.bool true) ∧ Below lo w w'
set_option maxRecDepth 100000 in
set_option maxHeartbeats 2000000 in
theorem apart16 {kb lo : Nat} {S : List Span} (w : World) (h : BookAt w kb S) (hs : ∀ x ∈ S, SpanIn lo kb w x) (hp : S.Pairwise apart2) (hlo : lo ≤ kb) (hS : S.length ≤ 1000000) :
    Calls Tryd.prog 16 #[.pointer (some ⟨kb, 0, none⟩)] w (ApartPost lo w) := by
  obtain ⟨v, h1, h2⟩ := h
  obtain ⟨q, cq, rfl, hq⟩ := own_slice2 h2
  have c0 := cell_blk h1 0
  simp only [List.getElem?_toArray, List.getElem?_cons_zero] at c0
  have hkb := lt_of_blk h1
  have I0 := ApI.start (S := S) (lo := lo) (kb := kb) (w := w) hs (by omega)
  obtain ⟨m, hm⟩ : ∃ m, S.length = m := ⟨_, rfl⟩
  have HM := Lib.hid hm
  rw [hm] at c0 h1 hS hq
  have H1 := Lib.hid h1
  have H2 := Lib.hid h2
  have HP := Lib.hid hp
  have HI := Lib.hid I0
  clear hm h1 h2 hs hp I0
  go_enter Tryd.func16, Tryd.ntmps16
  by_cases h120 : 120 < m
  · go_wp2_with fail
    go_ret
    exact ⟨rfl, Below.refl _ _⟩
  · go_wp2_with fail
    go_loopw [3] (fun i wr => ∃ k : Nat, k ≤ m ∧ i = .int .i64 k ∧ ApI w wr lo kb S k 0) (fun i _ => m - (intOf i).toNat)
    case atStart => exact ⟨0, Nat.zero_le _, rfl, HI.out⟩
    case round =>
      clear HI c0
      obtain ⟨k, hk, rfl, I⟩ := hrel
      have c0 := cell_blk (I.head H1.out) 0
      simp only [List.getElem?_toArray, List.getElem?_cons_zero] at c0
      by_cases hlt : k < m
      · obtain ⟨x, hx⟩ : ∃ x, S[k]? = some x := ⟨S[k]'(by rw [HM.out]; exact hlt), List.getElem?_eq_getElem _⟩
        obtain ⟨g, rfl, cg⟩ := I.leaf H2.out hx
        have HF := Lib.hid (fill139 (sgn k) (rsgn k) wr (I.span x (List.mem_of_getElem? hx)))
        have HX := Lib.hid hx
        have HI := Lib.hid I
        clear hx I
        go_wp2_with fail
        refine (HF.out).mono ?_
        rintro e w1 ⟨rfl, P⟩
        have HN := Lib.hid (HI.out.fill HP.out HX.out P)
        clear P HF
        go_wp2_with fail
        go_roundw
        case rel => exact ⟨k + 1, by omega, by go_num, HN.out⟩
        case measure => simp [intOf]; omega
      · obtain rfl : k = m := by omega
        have HI := Lib.hid I
        clear I
        go_wp2_with fail
        clear c0
        go_loopw [4] (fun i wr => ∃ j : Nat, j ≤ k ∧ i = .int .i64 j ∧ ApI w wr lo kb S k j) (fun i _ => k - (intOf i).toNat)
        case atStart => exact ⟨0, Nat.zero_le _, rfl, HI.out⟩
        case round =>
          clear HI
          obtain ⟨j, hj, rfl, I⟩ := hrel
          have c0 := cell_blk (I.head H1.out) 0
          simp only [List.getElem?_toArray, List.getElem?_cons_zero] at c0
          by_cases hlt : j < k
          · obtain ⟨x, hx⟩ : ∃ x, S[j]? = some x := ⟨S[j]'(by rw [HM.out]; exact hlt), List.getElem?_eq_getElem _⟩
            obtain ⟨g, rfl, cg⟩ := I.leaf H2.out hx
            have HF := Lib.hid (room140 (sgn j) (rsgn j) _ (I.span x (List.mem_of_getElem? hx)))
            have HX := Lib.hid hx
            have HI := Lib.hid I
            clear hx I
            go_wp2_with fail
            refine (HF.out).mono ?_
            rintro e w1 ⟨rfl, P⟩
            have HN := Lib.hid (HI.out.room HP.out HX.out P)
            clear P HF
            go_wp2_with fail
            go_roundw
            case rel => exact ⟨j + 1, by omega, by go_num, HN.out⟩
            case measure => simp [intOf]; omega
          · obtain rfl : j = k := by omega
            have HI := Lib.hid I
            clear I
            go_wp2_with fail
            clear c0
            go_loopw [5] (fun i wr => ∃ k : Nat, k ≤ j ∧ i = .int .i64 k ∧ ApI w wr lo kb S j j) (fun i _ => j - (intOf i).toNat)
            case atStart => exact ⟨0, Nat.zero_le _, rfl, HI.out⟩
            case round =>
              clear HI
              obtain ⟨k, hk, rfl, I⟩ := hrel
              have c0 := cell_blk (I.head H1.out) 0
              simp only [List.getElem?_toArray, List.getElem?_cons_zero] at c0
              by_cases hlt : k < j
              · obtain ⟨x, hx⟩ : ∃ x, S[k]? = some x := ⟨S[k]'(by rw [HM.out]; exact hlt), List.getElem?_eq_getElem _⟩
                obtain ⟨g, rfl, cg⟩ := I.leaf H2.out hx
                have HF := Lib.hid (kept141 (sgn k) (rsgn k) _ (I.span x (List.mem_of_getElem? hx)) (I.ins k x hlt hx) (I.outs k x hlt hx))
                have HI := Lib.hid I
                clear hx I
                go_wp2_with fail
                refine (HF.out).mono ?_
                rintro e w1 ⟨rfl, hB⟩
                have HN := Lib.hid (HI.out.step (by have := HI.out.below.size; omega) hB)
                clear hB HF
                go_wp2_with fail
                go_roundw
                case rel => exact ⟨k + 1, by omega, by go_num, HN.out⟩
                case measure => simp [intOf]; omega
              · have HI := Lib.hid I.below
                clear I
                go_wp2_with fail
                go_ret
                exact ⟨rfl, HI.out⟩
end Go.Proofs.YtfolamkjlgpgmaaDoor
