/- Two parts: are they the same, do they clash: the walks. No condition but that the bodies are shorter than a thousand million bytes. (Printed by gFB.py.) -/
import Derived.Test.YtjldcblklbikaaaFA
namespace Go.Proofs.Ytjldcblklbikaaa
open Go.RowKit
set_option linter.unusedVariables false
set_option linter.unusedSimpArgs false
theorem str_bs {W : World} {B c : Nat} {A : Option Addr} {l : List Nat} (h : Bs W B A c l) : (convert 41 9 (.slice A l.length c)).run Try.prog W = .ok (.string ⟨(l.map UInt8.ofNat).toArray⟩) W := by
  cases hl : l with
  | nil =>
    rw [List.length_nil, run_convert_bytes_string W 41 9 5 _ 0 c Try.underlying41 Try.underlying5 Try.underlying9]
    cases A <;> simp [Conv.bytesToString, loadCells]
    all_goals rfl
  | cons y ys =>
    rw [← hl]
    obtain ⟨b, o, rfl, _, hr⟩ := h.rd (by rw [hl]; exact List.cons_ne_nil _ _)
    have h1 := run_convert_bytes_arg (P := Try.prog) W 41 5 Try.underlying41 Try.underlying5 b o l.length c (l.map (fun x : Nat => (x : Int))) (by rw [List.length_map]) (fun i hi => by
      have e : l[i]? = some (l[i]'hi) := List.getElem?_eq_getElem _
      rw [hr i _ e, List.getD_eq_getElem?_getD, List.getElem?_map, e]
      rfl) 9 Try.underlying9
    have e : strOfNums (l.map (fun x : Nat => (x : Int))) = ⟨(l.map UInt8.ofNat).toArray⟩ := by
      unfold strOfNums
      rw [List.map_map]
      rfl
    rw [h1, e]
theorem ofNat_inj : ∀ {l m : List Nat}, (∀ x ∈ l, x < 256) → (∀ x ∈ m, x < 256) → l.map UInt8.ofNat = m.map UInt8.ofNat → l = m
  | [], [], _, _, _ => rfl
  | [], _ :: _, _, _, h => by simp at h
  | _ :: _, [], _, _, h => by simp at h
  | x :: l, y :: m, hl, hm, h => by
    simp only [List.map_cons, List.cons.injEq] at h
    have hx := hl x List.mem_cons_self
    have hy := hm y List.mem_cons_self
    have e : x = y := by
      have := congrArg UInt8.toNat h.1
      simp at this
      omega
    rw [e, ofNat_inj (fun z hz => hl z (List.mem_cons_of_mem _ hz)) (fun z hz => hm z (List.mem_cons_of_mem _ hz)) h.2]
theorem str_beq {l m : List Nat} (hl : ∀ x ∈ l, x < 256) (hm : ∀ x ∈ m, x < 256) : (l.map UInt8.ofNat == m.map UInt8.ofNat) = (l == m) := by
  by_cases e : l = m
  · subst e; simp
  · rw [show (l == m) = false by simpa using e]
    simp only [beq_eq_false_iff_ne]
    exact fun h => e (ofNat_inj hl hm h)
set_option maxRecDepth 100000 in
set_option maxHeartbeats 400000 in
theorem equal68 {A A2 : Option Addr} {c c2 B : Nat} {l m : List Nat} (w : World) (h : Bs w B A c l) (h2 : Bs w B A2 c2 m) (hl : ∀ x ∈ l, x < 256) (hm : ∀ x ∈ m, x < 256) :
    Calls Try.prog 68 #[.slice A l.length c, .slice A2 m.length c2] w fun e w' => e = .returned (.bool (l == m)) ∧ w = w' := by
  have k1 := str_bs h
  have k2 := str_bs h2
  have HQ := Lib.hid (str_beq hl hm)
  obtain ⟨n, hn⟩ : ∃ n, n = l.length := ⟨_, rfl⟩
  obtain ⟨p, hp⟩ : ∃ p, p = m.length := ⟨_, rfl⟩
  rw [← hn] at k1 ⊢
  rw [← hp] at k2 ⊢
  obtain ⟨s, hs⟩ : ∃ s, s = l.map UInt8.ofNat := ⟨_, rfl⟩
  obtain ⟨t, ht⟩ : ∃ t, t = m.map UInt8.ofNat := ⟨_, rfl⟩
  rw [← hs] at k1 HQ
  rw [← ht] at k2 HQ
  clear h h2 hl hm hn hp hs ht
  go_enter Try.func68, Try.ntmps68
  go_wp2_with fail
  go_ret
  refine ⟨?_, rfl⟩
  rw [← HQ.out]
  rfl
set_option maxRecDepth 100000 in
set_option maxHeartbeats 400000 in
theorem same56 {P Q : List Value} {x y : Pk} {A A2 : Option Addr} {c c2 : Nat} (w : World) (h : PkAt P x A c) (k : PkAt Q y A2 c2) (hb : Bs w w.heap.size A c x.body) (kb : Bs w w.heap.size A2 c2 y.body) :
    Calls Try.prog 56 #[.agg P.toArray, .agg Q.toArray] w fun e w' => e = .returned (.bool (sameB x y)) ∧ Below w.heap.size w w' := by
  obtain ⟨V, hV⟩ : ∃ V, V = (w.alloc (.cells P.toArray 43)).alloc (.cells Q.toArray 43) := ⟨_, rfl⟩
  have hal : Below w.heap.size w V := by rw [hV]; exact ((Below.refl _ _).alloc (Nat.le_refl _) _).alloc (by simp) _
  have b1 : V.heap[w.heap.size]? = some (.cells P.toArray 43 (0, 0)) := by rw [hV, heap_alloc_old _ _ (by simp), heap_alloc_new]
  have b2 : V.heap[w.heap.size + 1]? = some (.cells Q.toArray 43 (0, 0)) := by rw [hV, show w.heap.size + 1 = (w.alloc (.cells P.toArray 43)).heap.size by simp, heap_alloc_new]
  have c34 : V.cell? ⟨w.heap.size, 34, none⟩ = some (.bool x.is) := box_cell b1 (h.tail 2)
  have c35 : V.cell? ⟨w.heap.size, 35, none⟩ = some (.int .u32 (x.id : Int)) := box_cell b1 (h.tail 3)
  have c36 : V.cell? ⟨w.heap.size, 36, none⟩ = some (.int .u16 (x.off : Int)) := box_cell b1 (h.tail 4)
  have c37 : V.cell? ⟨w.heap.size, 37, none⟩ = some (.bool x.more) := box_cell b1 (h.tail 5)
  have c39 : V.cell? ⟨w.heap.size, 39, none⟩ = some (.slice A x.body.length c) := box_cell b1 (h.tail 7)
  have d34 : V.cell? ⟨w.heap.size + 1, 34, none⟩ = some (.bool y.is) := box_cell b2 (k.tail 2)
  have d35 : V.cell? ⟨w.heap.size + 1, 35, none⟩ = some (.int .u32 (y.id : Int)) := box_cell b2 (k.tail 3)
  have d36 : V.cell? ⟨w.heap.size + 1, 36, none⟩ = some (.int .u16 (y.off : Int)) := box_cell b2 (k.tail 4)
  have d37 : V.cell? ⟨w.heap.size + 1, 37, none⟩ = some (.bool y.more) := box_cell b2 (k.tail 5)
  have d39 : V.cell? ⟨w.heap.size + 1, 39, none⟩ = some (.slice A2 y.body.length c2) := box_cell b2 (k.tail 7)
  have HE := Lib.hid (equal68 V (hb.below hal) (kb.below hal) h.ok.body8 k.ok.body8)
  have HAL := Lib.hid hal
  obtain ⟨n, hn⟩ : ∃ n, n = x.body.length := ⟨_, rfl⟩
  obtain ⟨m, hm⟩ : ∃ m, m = y.body.length := ⟨_, rfl⟩
  rw [← hn] at HE c39
  rw [← hm] at HE d39
  obtain ⟨p, hp⟩ : ∃ p, p = w.heap.size := ⟨_, rfl⟩
  obtain ⟨q, hq⟩ : ∃ q, q = w.heap.size + 1 := ⟨_, rfl⟩
  rw [← hp] at c34 c35 c36 c37 c39
  rw [← hq] at d34 d35 d36 d37 d39
  obtain ⟨xi, hxi⟩ : ∃ b, b = x.is := ⟨_, rfl⟩
  obtain ⟨xd, hxd⟩ : ∃ b, b = x.id := ⟨_, rfl⟩
  obtain ⟨xo, hxo⟩ : ∃ b, b = x.off := ⟨_, rfl⟩
  obtain ⟨xm, hxm⟩ : ∃ b, b = x.more := ⟨_, rfl⟩
  obtain ⟨yi, hyi⟩ : ∃ b, b = y.is := ⟨_, rfl⟩
  obtain ⟨yd, hyd⟩ : ∃ b, b = y.id := ⟨_, rfl⟩
  obtain ⟨yo, hyo⟩ : ∃ b, b = y.off := ⟨_, rfl⟩
  obtain ⟨ym, hym⟩ : ∃ b, b = y.more := ⟨_, rfl⟩
  obtain ⟨bb, hbb⟩ : ∃ b, b = (x.body == y.body) := ⟨_, rfl⟩
  have HS : Hid (sameB x y = ((xi == yi && xd == yd && xo == yo && xm == ym) && bb)) := Lib.hid (by unfold sameB; rw [hxi, hxd, hxo, hxm, hyi, hyd, hyo, hym, hbb])
  rw [← hxi] at c34; rw [← hxd] at c35; rw [← hxo] at c36; rw [← hxm] at c37
  rw [← hyi] at d34; rw [← hyd] at d35; rw [← hyo] at d36; rw [← hym] at d37
  rw [← hbb] at HE
  clear h k hb kb hal b1 b2 hn hm hxi hxd hxo hxm hyi hyd hyo hym hbb
  go_enter Try.func56, Try.ntmps56
  go_upto_region 1 with (fail)
  rw [← hV, ← hq, ← hp]
  clear hV hp hq
  go_wp2_with fail
  · rename_i h1 h2 h3 h4 _ _
    refine (HE.out).mono ?_
    rintro e w2 ⟨rfl, rfl⟩
    go_wp2_with fail
    go_ret
    refine ⟨?_, HAL.out⟩
    rw [HS.out, show (xi == yi) = true by simpa using h1, show (xd == yd) = true by simpa using (by omega : xd = yd), show (xo == yo) = true by simpa using (by omega : xo = yo), show (xm == ym) = true by simpa using h4]
    rfl
  · rename_i h1 h2 h3 h4
    go_ret
    refine ⟨?_, HAL.out⟩
    rw [HS.out, show (xm == ym) = false by simpa using h4, Bool.and_false, Bool.false_and]
    rfl
  · rename_i h1 h2 h3
    go_ret
    refine ⟨?_, HAL.out⟩
    rw [HS.out, show (xo == yo) = false by simpa using (by omega : ¬ xo = yo), Bool.and_false, Bool.false_and, Bool.false_and]
    rfl
  · rename_i h1 h2
    go_ret
    refine ⟨?_, HAL.out⟩
    rw [HS.out, show (xd == yd) = false by simpa using (by omega : ¬ xd = yd), Bool.and_false, Bool.false_and, Bool.false_and, Bool.false_and]
    rfl
  · rename_i h1
    go_ret
    refine ⟨?_, HAL.out⟩
    rw [HS.out, show (xi == yi) = false by simpa using h1, Bool.false_and, Bool.false_and, Bool.false_and, Bool.false_and]
    rfl
end Go.Proofs.Ytjldcblklbikaaa

