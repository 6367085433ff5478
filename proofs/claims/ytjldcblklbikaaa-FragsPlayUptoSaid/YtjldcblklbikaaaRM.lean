/- Several texts in one: RM, RN. No condition beyond those that each part names. -/
import Derived.Test.YtjldcblklbikaaaRE
import Derived.Test.YtjldcblklbikaaaFO
import Derived.Test.YtjldcblklbikaaaFU
/- Twins of greater bytes; packets' lists compared; a packet's twin; how much there is: the walks. No condition but the sizes that are named. (Written out by exp.py.) -/
namespace Go.Proofs.Ytjldcblklbikaaa
open Go.RowKit
set_option linter.unusedVariables false
set_option linter.unusedSimpArgs false
set_option maxRecDepth 100000 in
set_option maxHeartbeats 2000000 in
theorem twin53b {A : Option Addr} {c : Nat} {l : List Nat} (s : Nat) (w : World) (h : Bs w w.heap.size A c l) (hl : l.length ≤ 50000) :
    Calls Try.prog 53 #[.slice A l.length c, .int .u8 (s : Int)] w (TwinPost l s w) := by
  have HRD := Lib.hid h.rd
  obtain ⟨n, hn⟩ : ∃ n, l.length = n := ⟨_, rfl⟩
  have HN := Lib.hid hn
  rw [hn] at hl ⊢
  clear h hn
  have hmk : ∀ W : World, (Instr.makeSlice 41 (.int .i64 ((n : Int) + 4)) (.int .i64 ((n : Int) + 4))).run Try.prog W = .ok (.slice (some ⟨W.heap.size, 0, none⟩) (n + 4) (n + 4)) (W.alloc (.cells (zer (n + 4)) 5)) := fun W => make_zeros (n + 4) W (by omega)
  have I0 : TwinI w (w.alloc (.cells (zer (n + 4)) 5)) w.heap.size l s 0 := ⟨by rw [heap_alloc_new]; unfold zer twinTo; rw [HN.out]; rfl, (Below.refl _ _).alloc (Nat.le_refl _) _⟩
  have HI := Lib.hid I0
  clear I0
  go_enter Try.func53, Try.ntmps53
  go_wp2_with fail
  obtain ⟨g, hg⟩ : ∃ g, g = w.heap.size := ⟨_, rfl⟩
  rw [← hg] at HI ⊢
  have NG := Lib.hid hg; clear hg
  go_loopw [6] (fun i wr => ∃ k : Nat, k ≤ n + 4 ∧ i = .int .i64 k ∧ TwinI w wr g l s k) (fun i _ => n + 4 - (intOf i).toNat)
  case atStart => exact ⟨0, by omega, rfl, HI.out⟩
  case round =>
    clear HI
    obtain ⟨k, hk, rfl, I⟩ := hrel
    by_cases hlt : k < n + 4
    · have c0 := cell_blk I.row k
      rw [twinTo_get (by rw [HN.out]; exact hlt)] at c0
      have f0 := frozen_blk I.row k
      have HI := Lib.hid I
      clear I
      have t1 : (k : Int) < (n : Int) + 4 := by omega
      by_cases hln : k < n
      · obtain ⟨x, hx⟩ : ∃ x, l[k]? = some x := ⟨l[k]'(by rw [HN.out]; exact hln), List.getElem?_eq_getElem _⟩
        obtain ⟨b, o, rfl, hb, hc⟩ := HRD.out (by rintro rfl; simp at hx)
        have c1 : wr.cell? ⟨b, o + k, none⟩ = some (.int .u8 (x : Int)) := (HI.out.below.cell (p := ⟨b, o + k, none⟩) (by rw [NG.out]; exact hb)).trans (hc k x hx)
        have hbg : b ≠ g := by rw [NG.out]; omega
        have HZ : Hid (TwinI w ((wr.setCell ⟨g, k, none⟩ (.int .u8 (s : Int))).setCell ⟨g, k, none⟩ (.int .u8 (x : Int))) g l s (k + 1)) := Lib.hid (HI.out.two (by rw [HN.out]; exact hlt) (by unfold twinL; rw [List.getElem?_append_left (by rw [HN.out]; exact hln)]; exact hx))
        clear hx hc
        go_wp2_with fail
        go_roundw
        case rel => exact ⟨k + 1, by omega, by go_num, HZ.out⟩
        case measure => simp [intOf]; omega
      · have HZ : Hid (TwinI w (wr.setCell ⟨g, k, none⟩ (.int .u8 (s : Int))) g l s (k + 1)) := Lib.hid (HI.out.one (by rw [HN.out]; exact hlt) (by unfold twinL; rw [List.getElem?_append_right (by rw [HN.out]; omega), List.getElem?_replicate, if_pos (by rw [HN.out]; omega)]))
        go_wp2_with fail
        go_roundw
        case rel => exact ⟨k + 1, by omega, by go_num, HZ.out⟩
        case measure => simp [intOf]; omega
    · have e : k = n + 4 := by omega
      have HR : Hid (wr.heap[g]? = some (.cells (row8 (twinL l s)).toArray 5 (0, 0))) := Lib.hid (by rw [I.row, e, ← HN.out, twinTo_all])
      have HB := Lib.hid I.below
      have t1 : ¬ ((k : Int) < (n : Int) + 4) := by omega
      clear I
      go_wp2_with fail
      go_ret
      exact ⟨by rw [← NG.out, HN.out]; rfl, by rw [← NG.out]; exact HR.out, by rw [← NG.out]; exact HB.out⟩
set_option maxRecDepth 100000 in
set_option maxHeartbeats 1000000 in
theorem twin33b {A : Option Addr} {c : Nat} {l : List Nat} (w : World) (h : Bs w w.heap.size A c l) (hl : l.length ≤ 50000) :
    Calls Try.prog 33 #[.slice A l.length c] w (TwinPost l 199 w) := by
  have HT := Lib.hid (twin53b 199 w h hl)
  obtain ⟨n, hn⟩ : ∃ n, l.length = n := ⟨_, rfl⟩
  have HN := Lib.hid hn
  rw [hn] at HT ⊢
  clear h hl hn
  go_enter Try.func33, Try.ntmps33
  go_wp2_with fail
  refine (HT.out).mono ?_
  rintro e w1 ⟨rfl, h1, h2⟩
  have H1 := Lib.hid h1
  have H2 := Lib.hid h2
  clear h1 h2 HT
  go_wp2_with fail
  go_ret
  exact ⟨rfl, H1.out, H2.out⟩
set_option linter.unusedVariables false
set_option linter.unusedSimpArgs false
theorem twin_bsb {w : World} {g s : Nat} {l : List Nat} (h : w.heap[g]? = some (.cells (row8 (twinL l s)).toArray 5 (0, 0))) (hl : l.length ≤ 50000) : Bs w w.heap.size (some ⟨g, 0, none⟩) (l.length + 4) l := by
  refine ⟨fun _ => ⟨g, 0, rfl, lt_of_blk h, fun k x hx => ?_⟩, by omega, (fun e => by cases e), by unfold maxLen; omega⟩
  rw [Nat.zero_add, cell_blk h]
  have : (twinL l s)[k]? = some x := by unfold twinL; rw [List.getElem?_append_left (List.getElem?_eq_some_iff.1 hx).1]; exact hx
  simpa using row8_get this
set_option maxRecDepth 100000 in
set_option maxHeartbeats 1000000 in
theorem left67b {A : Option Addr} {c g s : Nat} {l : List Nat} (w : World) (h : Bs w w.heap.size A c l) (hg : w.heap[g]? = some (.cells (row8 (twinL l s)).toArray 5 (0, 0))) (hl : l.length ≤ 50000) :
    Calls Try.prog 67 #[.slice (some ⟨g, 0, none⟩) l.length (l.length + 4), .slice A l.length c, .int .u8 (s : Int)] w (SamePost true w) := by
  have HS := Lib.hid (same57 w (twin_bsb hg hl) h (by omega))
  rw [show (l == l) = true from beq_self_eq_true _] at HS
  have HR := Lib.hid (fun (i : Nat) (hi : i < 4) => twin_room (i := i) hg hi)
  obtain ⟨n, hn⟩ : ∃ n, l.length = n := ⟨_, rfl⟩
  rw [hn] at HS HR hl ⊢
  clear h hg hn
  have hcap : n < n + 4 := by omega
  go_enter Try.func67, Try.ntmps67
  go_wp2_with fail
  refine (HS.out).mono ?_
  rintro e w1 ⟨rfl, j, rfl⟩
  go_wp2_with fail
  go_loop [8] (fun i => ∃ k : Nat, k ≤ 4 ∧ i = .int .i64 k) (fun i => 4 - (intOf i).toNat)
  case atStart => exact ⟨0, by omega, rfl⟩
  case round =>
    obtain ⟨k, hk, rfl⟩ := hrel
    by_cases hlt : k < 4
    · have c0 := HR.out k hlt
      have t1 : (k : Int) < 4 := by omega
      go_wp2_with fail
      go_round
      case rel => exact ⟨k + 1, by omega, by go_num⟩
      case measure => simp [intOf]; omega
    · obtain rfl : k = 4 := by omega
      go_wp2_with fail
      go_ret
      exact ⟨rfl, j, rfl⟩
set_option maxRecDepth 100000 in
set_option maxHeartbeats 1000000 in
theorem left51b {A : Option Addr} {c g : Nat} {l : List Nat} (w : World) (h : Bs w w.heap.size A c l) (hg : w.heap[g]? = some (.cells (row8 (twinL l 199)).toArray 5 (0, 0))) (hl : l.length ≤ 50000) :
    Calls Try.prog 51 #[.slice (some ⟨g, 0, none⟩) l.length (l.length + 4), .slice A l.length c] w (SamePost true w) := by
  have HS := Lib.hid (left67b w h hg hl)
  obtain ⟨n, hn⟩ : ∃ n, l.length = n := ⟨_, rfl⟩
  rw [hn] at HS ⊢
  clear h hg hl hn
  go_enter Try.func51, Try.ntmps51
  go_wp2_with fail
  refine (HS.out).mono ?_
  rintro e w1 ⟨rfl, j, rfl⟩
  go_wp2_with fail
  go_ret
  exact ⟨rfl, j, rfl⟩
set_option maxRecDepth 100000 in
set_option maxHeartbeats 1000000 in
theorem samePackets12 {A A2 : Option Addr} {c c2 B : Nat} {L M : List El} (w : World) (h : PksRd w B A L) (k : PksRd w B A2 M) (hB : B ≤ w.heap.size) (he : L.map (·.pk) = M.map (·.pk)) :
    Calls Try.prog 12 #[.slice A L.length c, .slice A2 M.length c2] w (BoolPost true w) := by
  have hl : M.length = L.length := by have := congrArg List.length he; simpa using this.symm
  rw [hl]
  have hget : ∀ (i : Nat) (x : El), L[i]? = some x → ∃ y : El, M[i]? = some y ∧ y.pk = x.pk := fun i x hx => by
    have h1 : (L.map (·.pk))[i]? = some x.pk := by rw [List.getElem?_map, hx]; rfl
    rw [he, List.getElem?_map] at h1
    obtain ⟨y, hy, e⟩ := Option.map_eq_some_iff.1 h1
    exact ⟨y, hy, e⟩
  have HGET := Lib.hid hget
  have HL := Lib.hid h; have HM := Lib.hid k
  have hm := h.many
  obtain ⟨n, hn⟩ : ∃ n, n = L.length := ⟨_, rfl⟩
  have HN := Lib.hid hn
  rw [← hn] at hm ⊢
  have HSZ := Lib.hid size43
  have HBW := Lib.hid hB
  clear h k he hl hget hn hB
  go_enter Try.func12, Try.ntmps12
  go_wp2_with fail
  go_loopw [5] (fun i wr => ∃ k : Nat, k ≤ n ∧ i = .int .i64 k ∧ Below w.heap.size w wr) (fun i _ => n - (intOf i).toNat)
  case atStart => exact ⟨0, Nat.zero_le _, rfl, Below.refl _ _⟩
  case round =>
    obtain ⟨k, hk, rfl, hW⟩ := hrel
    have HW := Lib.hid hW
    clear hW
    by_cases hlt : k < n
    · obtain ⟨x, hx⟩ : ∃ x, L[k]? = some x := ⟨L[k]'(by rw [← HN.out]; exact hlt), List.getElem?_eq_getElem _⟩
      obtain ⟨y, hy, hyx⟩ := HGET.out k x hx
      obtain ⟨b1, o1, rfl, hb1, hc1⟩ := HL.out.at_ (by rintro h0; rw [h0] at hx; simp at hx)
      obtain ⟨b2, o2, rfl, hb2, hc2⟩ := HM.out.at_ (by rintro h0; rw [h0] at hy; simp at hy)
      have hxe := HL.out.each x (List.mem_of_getElem? hx)
      have hye := HM.out.each y (List.mem_of_getElem? hy)
      have HX : Hid (PkAt x.cells x.pk x.adr x.cap) := Lib.hid (El.at_ hxe.1)
      have HY : Hid (PkAt y.cells x.pk y.adr y.cap) := Lib.hid (by rw [← hyx]; exact El.at_ hye.1)
      have HR1 : Hid (∀ W, Below w.heap.size w W → W.rangeAt b1 (o1 + k * 40) x.cells) := Lib.hid fun W hW => range_below (hc1 k x hx) (by have := HBW.out; omega) hW
      have HR2 : Hid (∀ W, Below w.heap.size w W → W.rangeAt b2 (o2 + k * 40) y.cells) := Lib.hid fun W hW => range_below (hc2 k y hy) (by have := HBW.out; omega) hW
      have HSM : Hid (∀ W, Below w.heap.size w W → Calls Try.prog 18 #[.agg x.cells.toArray, .agg y.cells.toArray] W (BoolPost true W)) := Lib.hid fun W hW => same18 W HX.out HY.out (((hxe.2.1.mono HBW.out).below hW).mono hW.size) (by have := ((hye.2.1.mono HBW.out).below hW).mono hW.size; rw [hyx] at this; exact this) (by omega)
      obtain ⟨P, hP⟩ : ∃ P, P = x.cells := ⟨_, rfl⟩
      obtain ⟨Q, hQ⟩ : ∃ P, P = y.cells := ⟨_, rfl⟩
      rw [← hP] at HX HR1 HSM
      rw [← hQ] at HY HR2 HSM
      have HLP := Lib.hid HX.out.len
      have HLQ := Lib.hid HY.out.len
      clear hx hy hyx hb1 hc1 hb2 hc2 hxe hye hP hQ
      go_upto_region 4 with (fail)
      have hS : Below w.heap.size w wr.drew := HW.out.drew
      refine wp_region_held_drew (S := fun W => Below w.heap.size w W) (by kernel_rfl) hS ?_
      clear hS
      intro HS
      refine wpAnyH_take (i := 0) (v := ?_) rfl (by kernel_rfl) (by kernel_rfl) (by kernel_rfl) (fun _ _ _ h => h) (Or.inl ⟨by go_simp, ?hy⟩) HS ?_
      case hy => intro W hW; go_simp; (try with_reducible rfl)
      try simp only [List.getElem_toArray, List.getElem_cons_zero, List.getElem_cons_succ, Act.put, List.setIfInBounds_toArray, List.set_cons_zero, List.set_cons_succ]
      refine wpAnyH_take (i := 1) (v := ?_) rfl (by kernel_rfl) (by kernel_rfl) (by kernel_rfl) (fun _ _ _ h => h) (Or.inl ⟨by go_simp, ?hy⟩) HS ?_
      case hy => intro W hW; go_simp; (try with_reducible rfl)
      try simp only [List.getElem_toArray, List.getElem_cons_zero, List.getElem_cons_succ, Act.put, List.setIfInBounds_toArray, List.set_cons_zero, List.set_cons_succ]
      refine wpAnyH_take (i := 2) (v := ?_) rfl (by kernel_rfl) (by kernel_rfl) (by kernel_rfl) (fun _ _ _ h => h) (Or.inl ⟨by go_simp, ?hy⟩) HS ?_
      case hy => intro W hW; go_simp; (try with_reducible rfl)
      try simp only [List.getElem_toArray, List.getElem_cons_zero, List.getElem_cons_succ, Act.put, List.setIfInBounds_toArray, List.set_cons_zero, List.set_cons_succ]
      refine wpAnyH_take (i := 3) (v := .agg P.toArray) rfl (by kernel_rfl) (by kernel_rfl) (by kernel_rfl) (fun _ _ _ h => h) (by refine yieldsIf_load_mid ?hw 43 (.tmp 20) ?ho b1 (o1 + k * 40) ?hx P _ (fun W hW => HR1.out W hW) Try.underlying43 rfl (by rw [HLP.out]; exact HSZ.out); (case ho => rfl); (case hw => go_simp); (case hx => go_simp)) HS ?_
      try simp only [List.getElem_toArray, List.getElem_cons_zero, List.getElem_cons_succ, Act.put, List.setIfInBounds_toArray, List.set_cons_zero, List.set_cons_succ]
      refine wpAnyH_take (i := 4) (v := ?_) rfl (by kernel_rfl) (by kernel_rfl) (by kernel_rfl) (fun _ _ _ h => h) (Or.inl ⟨by go_simp, ?hy⟩) HS ?_
      case hy => intro W hW; go_simp; (try with_reducible rfl)
      try simp only [List.getElem_toArray, List.getElem_cons_zero, List.getElem_cons_succ, Act.put, List.setIfInBounds_toArray, List.set_cons_zero, List.set_cons_succ]
      refine wpAnyH_take (i := 5) (v := ?_) rfl (by kernel_rfl) (by kernel_rfl) (by kernel_rfl) (fun _ _ _ h => h) (Or.inl ⟨by go_simp, ?hy⟩) HS ?_
      case hy => intro W hW; go_simp; (try with_reducible rfl)
      try simp only [List.getElem_toArray, List.getElem_cons_zero, List.getElem_cons_succ, Act.put, List.setIfInBounds_toArray, List.set_cons_zero, List.set_cons_succ]
      refine wpAnyH_take (i := 6) (v := ?_) rfl (by kernel_rfl) (by kernel_rfl) (by kernel_rfl) (fun _ _ _ h => h) (Or.inl ⟨by go_simp, ?hy⟩) HS ?_
      case hy => intro W hW; go_simp; (try with_reducible rfl)
      try simp only [List.getElem_toArray, List.getElem_cons_zero, List.getElem_cons_succ, Act.put, List.setIfInBounds_toArray, List.set_cons_zero, List.set_cons_succ]
      refine wpAnyH_take (i := 7) (v := .agg Q.toArray) rfl (by kernel_rfl) (by kernel_rfl) (by kernel_rfl) (fun _ _ _ h => h) (by refine yieldsIf_load_mid ?hw 43 (.tmp 24) ?ho b2 (o2 + k * 40) ?hx Q _ (fun W hW => HR2.out W hW) Try.underlying43 rfl (by rw [HLQ.out]; exact HSZ.out); (case ho => rfl); (case hw => go_simp); (case hx => go_simp)) HS ?_
      try simp only [List.getElem_toArray, List.getElem_cons_zero, List.getElem_cons_succ, Act.put, List.setIfInBounds_toArray, List.set_cons_zero, List.set_cons_succ]
      refine wpAnyH_ready (rs := [8]) (by kernel_rfl) (by simp) ?_
      refine AllReadyH.cons rfl (fun K hK => ?_) AllReadyH.nil
      rw [if_pos (by kernel_rfl)]
      simp only [List.getElem_toArray, List.getElem_cons_zero, List.getElem_cons_succ]
      go_simp
      refine (HSM.out _ HS).mono ?_
      rintro e w5 ⟨rfl, hb5⟩
      have HW5 := Lib.hid (HS.trans (hb5.mono HS.size))
      go_simp
      refine hK.out _ _ (HW5.out) (fun HS => ?_)
      clear hK
      try simp only [List.getElem_toArray, List.getElem_cons_zero, List.getElem_cons_succ, Act.put, List.setIfInBounds_toArray, List.set_cons_zero, List.set_cons_succ]
      clear hb5
      refine wpAnyH_take (i := 9) (v := ?_) rfl (by kernel_rfl) (by kernel_rfl) (by kernel_rfl) (fun _ _ _ h => h) (Or.inl ⟨by go_simp, ?hy⟩) HS ?_
      case hy => intro W hW; go_simp; (try with_reducible rfl)
      try simp only [List.getElem_toArray, List.getElem_cons_zero, List.getElem_cons_succ, Act.put, List.setIfInBounds_toArray, List.set_cons_zero, List.set_cons_succ]
      refine wpAnyH_done (by kernel_rfl) ?_ _
      clear HS
      go_wp2_with fail
      go_roundw
      case rel => exact ⟨k + 1, by omega, by go_num, HW5.out⟩
      case measure => simp [intOf]; omega
    · obtain rfl : k = n := by omega
      clear hlt
      go_wp2_with fail
      go_ret
      exact ⟨rfl, HW.out⟩
set_option maxRecDepth 100000 in
set_option maxHeartbeats 1000000 in
theorem twinPacket15 {P : List Value} {x : Pk} {A : Option Addr} {c : Nat} (w : World) (h : PkAt P x A c) (hb : Bs w w.heap.size A c x.body) (hl : x.body.length ≤ 50000) :
    Calls Try.prog 15 #[.agg P.toArray] w fun e w' => ∃ g, w.heap.size ≤ g ∧ e = .returned (.agg (pkL x (some ⟨g, 0, none⟩) (x.body.length + 4)).toArray) ∧ w'.heap[g]? = some (.cells (row8 (twinL x.body 199)).toArray 5 (0, 0)) ∧ Below w.heap.size w w' := by
  obtain ⟨V1, hV1⟩ : ∃ V, V = w.alloc (.cells P.toArray 43) := ⟨_, rfl⟩
  obtain ⟨V, hV⟩ : ∃ V, V = V1.alloc (.cells zeroP.toArray 43) := ⟨_, rfl⟩
  have h01 : Below w.heap.size w V1 := by rw [hV1]; exact (Below.refl _ _).alloc (Nat.le_refl _) _
  have h12 : Below V1.heap.size V1 V := by rw [hV]; exact (Below.refl _ _).alloc (Nat.le_refl _) _
  have hal : Below w.heap.size w V := h01.trans (h12.mono h01.size)
  have s1 : V1.heap.size = w.heap.size + 1 := by rw [hV1]; simp
  have s2 : V.heap.size = w.heap.size + 2 := by rw [hV]; simp [s1]
  obtain ⟨p, hp⟩ : ∃ p, p = w.heap.size := ⟨_, rfl⟩
  obtain ⟨q, hq⟩ : ∃ p, p = w.heap.size + 1 := ⟨_, rfl⟩
  have x1 : V.heap[p]? = some (.cells P.toArray 43 (0, 0)) := by rw [h12.block _ (by omega), hp, hV1]; exact heap_alloc_new w _
  have x2 : V.heap[q]? = some (.cells zeroP.toArray 43 (0, 0)) := by rw [hq, ← s1, hV]; exact heap_alloc_new V1 _
  have c39 := box_cell x1 (h.tail 7)
  have HTW := Lib.hid (twin33b V ((hb.below hal).mono hal.size) hl)
  have HX1 := Lib.hid x1; have HX2 := Lib.hid x2; have HAL := Lib.hid hal; have HX := Lib.hid h
  have HS2 : Hid (V.heap.size = w.heap.size + 2 ∧ p = w.heap.size ∧ q = w.heap.size + 1) := Lib.hid ⟨s2, hp, hq⟩
  have HZZ := Lib.hid zeroP_lit
  have HZL := Lib.hid zeroP_length
  have HSZ := Lib.hid size43
  have HD : Hid ((w.alloc (.cells P.toArray 43)).alloc (.cells zeroP.toArray 43) = V) := Lib.hid (by rw [hV, hV1])
  obtain ⟨n, hn⟩ : ∃ n, n = x.body.length := ⟨_, rfl⟩
  have HN := Lib.hid hn
  rw [← hn] at c39 HTW
  obtain ⟨gv, hgv⟩ : ∃ g, g = V.heap.size := ⟨_, rfl⟩
  have HGV := Lib.hid hgv
  clear hV1 hV h01 h12 hal s1 s2 x1 x2 h hb hl hn
  go_enter Try.func15, Try.ntmps15
  go_upto_region 1 with (fail)
  rw [HZZ.out, HD.out, ← hq, ← hp]
  clear HZZ HD hp hq
  go_wp2_with fail
  refine (HTW.out).mono ?_
  rintro e w2 ⟨rfl, hg2, hb2⟩
  rw [← hgv] at hg2 ⊢
  rw [← HN.out]
  have HB2 := Lib.hid hb2
  have HG2 := Lib.hid hg2
  have hx12 : w2.heap[p]? = some (.cells (pkV x (.slice A n c)).toArray 43 (0, 0)) := by rw [hb2.block p (lt_of_blk HX1.out), HX1.out, HX.out.eq, HN.out]; rfl
  have hx22 : w2.heap[q]? = some (.cells zeroP.toArray 43 (0, 0)) := (hb2.block q (lt_of_blk HX2.out)).trans HX2.out
  have HX12 := Lib.hid hx12; have HX22 := Lib.hid hx22
  have f39 := frozen_blk hx12 39
  have e39 : w2.cell? ⟨p, 39, none⟩ = some (.slice A n c) := box_cell hx12 (pkV_tail HX.out.ok 7)
  have t3 := Turned.setCell hx12 39 (.slice (some ⟨gv, 0, none⟩) n (n + 4))
  rw [body_set HX.out.ok] at t3
  clear hb2 hg2 hx12 hx22 c39 hgv
  go_upto_region 2 with (fail)
  obtain ⟨W3, hW3⟩ : ∃ W, W = w2.setCell ⟨p, 39, none⟩ (.slice (some ⟨gv, 0, none⟩) n (n + 4)) := ⟨_, rfl⟩
  rw [← hW3] at t3 ⊢
  have HT3 := Lib.hid t3
  have HX13 := Lib.hid (t3.get (lt_of_blk HX12.out))
  have hpq : p ≠ q := by have := HS2.out; omega
  have HX23 : Hid (W3.heap[q]? = some (.cells zeroP.toArray 43 (0, 0))) := Lib.hid ((t3.other hpq.symm).trans HX22.out)
  have HPL : Hid ((pkV x (.slice (some ⟨gv, 0, none⟩) n (n + 4))).length = 40) := Lib.hid (pkV_length HX.out.ok)
  have HPO : Hid (∀ v ∈ pkV x (.slice (some ⟨gv, 0, none⟩) n (n + 4)), v.oneCell' = true) := Lib.hid (pkV_one rfl)
  obtain ⟨PV, hPV⟩ : ∃ Q, Q = pkV x (.slice (some ⟨gv, 0, none⟩) n (n + 4)) := ⟨_, rfl⟩
  have HPV := Lib.hid hPV
  rw [← hPV] at HX13 HPL HPO
  have HR := Lib.hid (row_of HX13.out)
  clear t3 hW3 f39 e39 hPV
  go_wp2_with (first | (refine wpList_load_mid rfl 43 (.tmp 1) ?ho p 0 ?hx PV _ ?hr Try.underlying43 rfl ?hi ?_; (case ho => with_reducible rfl); (case hx => rfl); (case hr => exact HR.out); (case hi => rw [HPL.out]; exact HSZ.out)) | (refine wpList_store_row rfl 43 (.tmp 2) (.tmp 7) ?ho q PV.toArray ?hx ?hy 43 zeroP.toArray HX23.out ?hi ?hc ?h1 ?_; (case ho => with_reducible rfl); (case hx => rfl); (case hy => rfl); (case hi => rw [List.size_toArray, HPL.out]; exact HSZ.out); (case hc => simp only [List.size_toArray, HPL.out, HZL.out]); (case h1 => exact all_oneCell_toArray HPO.out)))
  have t4 := Turned.setRow HX23.out PV.toArray
  refine bodyPost_ret (v := .agg PV.toArray) (results_cell_row rfl _ _ q 43 _ (0, 0) _ rfl (t4.get (lt_of_blk HX23.out)) Try.underlying43 rfl (by rw [List.size_toArray, HPL.out]; exact HSZ.out)) rfl ?_
  have hs := HS2.out
  have hgv := HGV.out
  refine ⟨gv, by omega, by rw [HPV.out, HN.out]; rfl, ?_, ?_⟩
  · rw [t4.other (by omega), HT3.out.other (by omega)]; exact HG2.out
  · exact ((HAL.out.trans (HB2.out.mono HAL.out.size)).trans (HT3.out.below (by omega))).trans (t4.below (by omega))
set_option maxRecDepth 100000 in
set_option maxHeartbeats 1000000 in
theorem leftPacket19 {P Q : List Value} {x : Pk} {A : Option Addr} {c g : Nat} (w : World) (h : PkAt P x (some ⟨g, 0, none⟩) (x.body.length + 4)) (k : PkAt Q x A c) (hg : w.heap[g]? = some (.cells (row8 (twinL x.body 199)).toArray 5 (0, 0))) (kb : Bs w w.heap.size A c x.body) (hl : x.body.length ≤ 50000) :
    Calls Try.prog 19 #[.agg P.toArray, .agg Q.toArray] w (BoolPost true w) := by
  obtain ⟨V, hV⟩ : ∃ V, V = (w.alloc (.cells P.toArray 43)).alloc (.cells Q.toArray 43) := ⟨_, rfl⟩
  have hal : Below w.heap.size w V := by rw [hV]; exact ((Below.refl _ _).alloc (Nat.le_refl _) _).alloc (by simp) _
  have b1 : V.heap[w.heap.size]? = some (.cells P.toArray 43 (0, 0)) := by rw [hV, heap_alloc_old _ _ (by simp), heap_alloc_new]
  have b2 : V.heap[w.heap.size + 1]? = some (.cells Q.toArray 43 (0, 0)) := by rw [hV, show w.heap.size + 1 = (w.alloc (.cells P.toArray 43)).heap.size by simp, heap_alloc_new]
  have hg2 : V.heap[g]? = some (.cells (row8 (twinL x.body 199)).toArray 5 (0, 0)) := (hal.block g (lt_of_blk hg)).trans hg
  obtain ⟨p, hp⟩ : ∃ p, p = w.heap.size := ⟨_, rfl⟩
  obtain ⟨q, hq⟩ : ∃ q, q = w.heap.size + 1 := ⟨_, rfl⟩
  rw [← hp] at b1; rw [← hq] at b2
  have HSM := Lib.hid (same18 V h k (twin_bsb hg2 hl) ((kb.below hal).mono hal.size) (by omega))
  have HLF : Hid (∀ W, Below V.heap.size V W → Calls Try.prog 51 #[.slice (some ⟨g, 0, none⟩) x.body.length (x.body.length + 4), .slice A x.body.length c] W (SamePost true W)) := Lib.hid fun W hW => left51b W ((((kb.below hal).mono hal.size).below hW).mono hW.size) ((hW.block g (lt_of_blk hg2)).trans hg2) hl
  have HP39 : Hid (P[39]? = some (.slice (some ⟨g, 0, none⟩) x.body.length (x.body.length + 4))) := Lib.hid (h.tail 7)
  have HQ39 : Hid (Q[39]? = some (.slice A x.body.length c)) := Lib.hid (k.tail 7)
  have HB1 := Lib.hid b1; have HB2 := Lib.hid b2; have HAL := Lib.hid hal
  have HLP := Lib.hid h.len; have HLQ := Lib.hid k.len; have HSZ := Lib.hid size43
  have R1 := Lib.hid (row_of b1); have R2 := Lib.hid (row_of b2)
  obtain ⟨n, hn⟩ : ∃ n, n = x.body.length := ⟨_, rfl⟩
  rw [← hn] at HLF HP39 HQ39
  clear h k hg kb hl hal b1 b2 hg2 hn
  go_enter Try.func19, Try.ntmps19
  go_upto_region 1 with (fail)
  rw [← hV, ← hq, ← hp]
  clear hV hp hq
  go_wp2_with (first | (refine wpList_load_mid rfl 43 (.tmp 2) ?ho p 0 ?hx P _ ?hr Try.underlying43 rfl ?hi ?_; (case ho => with_reducible rfl); (case hx => rfl); (case hr => exact R1.out); (case hi => rw [HLP.out]; exact HSZ.out)) | (refine wpList_load_mid rfl 43 (.tmp 3) ?ho q 0 ?hx Q _ ?hr Try.underlying43 rfl ?hi ?_; (case ho => with_reducible rfl); (case hx => rfl); (case hr => exact R2.out); (case hi => rw [HLQ.out]; exact HSZ.out)))
  refine (HSM.out).mono ?_
  rintro e w2 ⟨rfl, hb2⟩
  have HW2 := Lib.hid hb2
  have c39 := box_cell ((hb2.block p (lt_of_blk HB1.out)).trans HB1.out) HP39.out
  have d39 := box_cell ((hb2.block q (lt_of_blk HB2.out)).trans HB2.out) HQ39.out
  clear hb2
  go_wp2_with fail
  refine (HLF.out _ HW2.out).mono ?_
  rintro e w3 ⟨rfl, j, rfl⟩
  go_wp2_with fail
  go_ret
  exact ⟨rfl, (HAL.out.trans (HW2.out.mono HAL.out.size)).trans ⟨rfl, rfl, rfl, Nat.le_refl _, fun _ _ => rfl⟩⟩
end Go.Proofs.Ytjldcblklbikaaa

/- The acts on a pool, in memory; how much there is: the walk. No condition but the sizes that are named. (Written out by exp.py.) -/
namespace Go.Proofs.Ytjldcblklbikaaa
open Go.RowKit
set_option linter.unusedVariables false
set_option linter.unusedSimpArgs false
structure Ac where
  tick : Bool
  now : Nat
  x : El
def Ac.cells (a : Ac) : List Value := .bool a.tick :: .int .u64 (a.now : Int) :: a.x.cells
structure ActsRd (w : World) (B : Nat) (A : Option Addr) (L : List Ac) : Prop where
  many : L.length ≤ 2000000
  each : ∀ a ∈ L, PkOk a.x.pk ∧ Bs w B a.x.adr a.x.cap a.x.pk.body ∧ a.x.pk.body.length ≤ 2000000 ∧ a.now < 18446744073709551616
  at_ : L ≠ [] → ∃ b o, A = some ⟨b, o, none⟩ ∧ b < B ∧ ∀ k a, L[k]? = some a → w.rangeAt b (o + k * 42) a.cells
theorem ActsRd.below {w w' : World} {B : Nat} {A : Option Addr} {L : List Ac} (h : ActsRd w B A L) (hb : Below B w w') : ActsRd w' B A L where
  many := h.many
  each := fun e he => by
    obtain ⟨h1, h2, h3, h4⟩ := h.each e he
    exact ⟨h1, h2.below hb, h3, h4⟩
  at_ := fun hL => by
    obtain ⟨b, o, hA, hlt, hr⟩ := h.at_ hL
    exact ⟨b, o, hA, hlt, fun k e hk => range_below (hr k e hk) hlt hb⟩
theorem Ac.get {W : World} {a : Ac} {b o : Nat} (h : W.rangeAt b o a.cells) : W.cell? ⟨b, o, none⟩ = some (.bool a.tick) ∧ W.cell? ⟨b, o + 1, none⟩ = some (.int .u64 (a.now : Int)) ∧ W.rangeAt b (o + 2) a.x.cells := by
  refine ⟨by simpa using h 0 _ rfl, h 1 _ rfl, fun j v hj => ?_⟩
  have := h (2 + j) v (by rw [Nat.add_comm]; exact hj)
  rw [← this]; congr 2; omega
def totA (L : List Ac) : Nat := (L.map fun a => a.x.pk.body.length).sum
theorem totA_succ {L : List Ac} {k : Nat} {a : Ac} (h : L[k]? = some a) : totA (L.take (k + 1)) = totA (L.take k) + a.x.pk.body.length := by
  have e : L.take (k + 1) = L.take k ++ [a] := by rw [List.take_add_one, h]; rfl
  rw [e]; simp [totA]
theorem totA_mem {L : List Ac} {a : Ac} (h : a ∈ L) : a.x.pk.body.length ≤ totA L := by
  induction L with
  | nil => cases h
  | cons b L ih =>
    have e : totA (b :: L) = b.x.pk.body.length + totA L := by simp [totA]
    rcases List.mem_cons.1 h with rfl | h
    · omega
    · have := ih h; omega
def GreatA (L : List Ac) (w : World) (e : Ending) (w' : World) : Prop := ∃ b, e = .returned (.bool b) ∧ w = w' ∧ (b = false → L.length ≤ 150 ∧ totA L ≤ 40000)
set_option maxRecDepth 100000 in
set_option maxHeartbeats 1000000 in
theorem great8 {A : Option Addr} {c B : Nat} {L : List Ac} (w : World) (h : ActsRd w B A L) :
    Calls Try.prog 8 #[.slice A L.length c] w (GreatA L w) := by
  have HA := Lib.hid h
  have hm := h.many
  obtain ⟨n, hn⟩ : ∃ n, n = L.length := ⟨_, rfl⟩
  have HN := Lib.hid hn
  rw [← hn] at hm ⊢
  clear h hn
  go_enter Try.func8, Try.ntmps8
  go_wp2_with fail
  go_loopw [3, 4] (fun z i wr => ∃ k : Nat, k ≤ n ∧ i = .int .i64 k ∧ z = .int .i64 ((n + totA (L.take k) : Nat) : Int) ∧ n + totA (L.take k) ≤ 5000000 ∧ w = wr) (fun _ i _ => n - (intOf i).toNat)
  case atStart => exact ⟨0, Nat.zero_le _, rfl, by simp [totA], by simp [totA]; omega, rfl⟩
  case round =>
    obtain ⟨k, hk, rfl, rfl, hz, rfl⟩ := hrel
    obtain ⟨z, hze⟩ : ∃ z, z = n + totA (L.take k) := ⟨_, rfl⟩
    rw [← hze] at hz ⊢
    have HZ := Lib.hid hze
    clear hze
    by_cases hlt : k < n
    · by_cases hz9 : z < 90000
      · have t1 : (z : Int) < 90000 := by omega
        obtain ⟨a, ha⟩ : ∃ a, L[k]? = some a := ⟨L[k]'(by rw [← HN.out]; exact hlt), List.getElem?_eq_getElem _⟩
        obtain ⟨b, o, rfl, hb, hc⟩ := HA.out.at_ (by rintro h0; rw [h0] at ha; simp at ha)
        have hae := HA.out.each a (List.mem_of_getElem? ha)
        have c39 : w.cell? ⟨b, o + k * 42 + 2 + 39, none⟩ = some (.slice a.x.adr a.x.pk.body.length a.x.cap) := (Ac.get (hc k a ha)).2.2 39 _ ((El.at_ hae.1).tail 7)
        have HS := Lib.hid (totA_succ ha)
        have hl := hae.2.2.1
        obtain ⟨m, hm'⟩ : ∃ m, m = a.x.pk.body.length := ⟨_, rfl⟩
        rw [← hm'] at c39 HS hl
        have ew : IntKind.i64.wrap ((z : Int) + m) = (z : Int) + m := by rw [show (z : Int) + m = ((z + m : Nat) : Int) by omega]; exact i64_small (by omega)
        have HE : Hid (((n + totA (L.take (k + 1)) : Nat) : Int) = (z : Int) + m ∧ n + totA (L.take (k + 1)) ≤ 5000000) := Lib.hid (by rw [HS.out]; have := HZ.out; omega)
        rw [show o + k * 42 + 2 + 39 = o + k * 42 + 41 by omega] at c39
        clear ha hb hc hae hm' hz9
        go_wp2_with fail
        go_roundw
        case rel => exact ⟨k + 1, by omega, by go_num, by rw [HE.out.1], HE.out.2, (by first | trivial | rfl)⟩
        case measure => simp [intOf]; omega
      · have t1 : ¬ (z : Int) < 90000 := by omega
        have HZ9 := Lib.hid hz9
        by_cases h15 : n > 150
        · have t2 : (n : Int) > 150 := by omega
          clear hz9
          go_wp2_with fail
          go_ret
          exact ⟨true, rfl, rfl, fun e => by cases e⟩
        · have t2 : ¬ (n : Int) > 150 := by omega
          have t3 : (z : Int) > 40000 := by omega
          clear hz9
          go_wp2_with fail
          go_ret
          exact ⟨true, rfl, rfl, fun e => by cases e⟩
    · obtain rfl : k = n := by omega
      have HT : Hid (z = k + totA L) := Lib.hid (by rw [HZ.out, HN.out, List.take_length])
      by_cases h15 : k > 150
      · have t2 : (k : Int) > 150 := by omega
        clear hlt
        go_wp2_with fail
        go_ret
        exact ⟨true, rfl, rfl, fun e => by cases e⟩
      · have t2 : ¬ (k : Int) > 150 := by omega
        have HK15 := Lib.hid h15
        by_cases h4 : z > 40000
        · have t3 : (z : Int) > 40000 := by omega
          clear hlt
          go_wp2_with fail
          go_ret
          exact ⟨true, rfl, rfl, fun e => by cases e⟩
        · have t3 : ¬ (z : Int) > 40000 := by omega
          have H4 := Lib.hid h4
          clear hlt
          go_wp2_with fail
          go_ret
          exact ⟨false, rfl, rfl, fun _ => ⟨by have := HK15.out; have := HN.out; omega, by have := H4.out; have := HT.out; omega⟩⟩
end Go.Proofs.Ytjldcblklbikaaa
