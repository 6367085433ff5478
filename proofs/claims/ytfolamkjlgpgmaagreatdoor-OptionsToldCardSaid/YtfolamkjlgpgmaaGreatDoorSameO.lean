/- Are two lists of options the same: the walk, where they are. No condition but that they fit a machine. -/
import Derived.Test.YtfolamkjlgpgmaaGreatDoorRefP
namespace Go.Proofs.YtfolamkjlgpgmaaGreatDoor
open Go.RowKit
set_option linter.unusedVariables false
set_option linter.unusedSimpArgs false
def TruePost (w : World) (e : Ending) (w' : World) : Prop := e = .returned (.bool true) ∧ Below w.heap.size w w'
theorem Below.drewN' (B : Nat) (w : World) (j : Nat) : Below B w (w.drewN j) := ⟨rfl, rfl, rfl, Nat.le_refl _, fun _ _ => rfl⟩
set_option maxRecDepth 100000 in
set_option maxHeartbeats 1000000 in
theorem same24 {A A2 : Option Addr} {kd c c2 B : Nat} {l : List Nat} (w : World) (h : Bs w B A c l) (h2 : Bs w B A2 c2 l) (hl : l.length ≤ 1000000000) (hB : B ≤ w.heap.size) :
    Calls Tryz.prog 68 #[.agg #[.int .u8 (kd : Int), .slice A l.length c], .agg #[.int .u8 (kd : Int), .slice A2 l.length c2]] w (TruePost w) := by
  have hal : Below w.heap.size w ((w.alloc (.cells #[.int .u8 (kd : Int), .slice A l.length c] 24)).alloc (.cells #[.int .u8 (kd : Int), .slice A2 l.length c2] 24)) := ((Below.refl _ _).alloc (Nat.le_refl _) _).alloc (by simp) _
  have HS := Lib.hid (same57 _ (h.below (hal.mono hB)) (h2.below (hal.mono hB)) hl)
  rw [show (l == l) = true from beq_self_eq_true _] at HS
  have HB := Lib.hid hal
  obtain ⟨n, hn⟩ : ∃ n, l.length = n := ⟨_, rfl⟩
  rw [hn] at HS HB ⊢
  have tk : ((kd : Int) == kd) = true := beq_self_eq_true _
  clear h h2 hal hn
  go_enter Tryz.func68, Tryz.ntmps68
  go_wp2_with fail
  refine (HS.out).mono ?_
  rintro e w1 ⟨rfl, j, rfl⟩
  go_wp2_with fail
  go_ret
  exact ⟨rfl, HB.out.trans (Below.drewN' _ _ _)⟩
/-- two rows of options of the same kinds and data -/
theorem kdO_at {L M : List Opt} (h : kdO L = kdO M) {k : Nat} {x : Opt} (hx : L[k]? = some x) : ∃ y, M[k]? = some y ∧ y.kind = x.kind ∧ y.data = x.data := by
  have h1 : (kdO L)[k]? = some (x.kind, x.data) := by simp [kdO, hx]
  rw [h] at h1
  simp only [kdO, List.getElem?_map, Option.map_eq_some_iff, Prod.mk.injEq] at h1
  obtain ⟨y, h2, h3, h4⟩ := h1
  exact ⟨y, h2, h3, h4⟩
set_option maxRecDepth 100000 in
set_option maxHeartbeats 1000000 in
theorem same12 {A A2 : Option Addr} {c c2 B : Nat} {L M : List Opt} (w : World) (h : OptsRd w B A L) (h2 : OptsRd w B A2 M) (he : kdO L = kdO M) (hB : B ≤ w.heap.size) (hd : ∀ x ∈ L, x.data.length ≤ 1000000000) :
    Calls Tryz.prog 27 #[.slice A L.length c, .slice A2 M.length c2] w (TruePost w) := by
  have hlen : M.length = L.length := by have := congrArg List.length he; simpa [kdO] using this.symm
  rw [hlen]
  obtain ⟨n, hn⟩ : ∃ n, L.length = n := ⟨_, rfl⟩
  have HN := Lib.hid hn
  have hm := h.many
  have H1 := Lib.hid h
  have H2 := Lib.hid h2
  have HE := Lib.hid he
  have HD := Lib.hid hd
  rw [hn] at hm ⊢
  clear h h2 hn he hd hlen
  have tn : ((n : Int) == n) = true := beq_self_eq_true _
  go_enter Tryz.func27, Tryz.ntmps27
  go_wp2_with fail
  go_loopw [5] (fun i wr => ∃ k : Nat, k ≤ n ∧ i = .int .i64 k ∧ Below w.heap.size w wr) (fun i _ => n - (intOf i).toNat)
  case atStart => exact ⟨0, Nat.zero_le _, rfl, Below.refl _ _⟩
  case round =>
    obtain ⟨k, hk, rfl, hW⟩ := hrel
    by_cases hlt : k < n
    · obtain ⟨x, hx⟩ : ∃ x, L[k]? = some x := ⟨L[k]'(by rw [HN.out]; exact hlt), List.getElem?_eq_getElem _⟩
      obtain ⟨y, hy, hyk, hyd⟩ := kdO_at HE.out hx
      have hO := H1.out.below (hW.mono hB)
      have hP := H2.out.below (hW.mono hB)
      obtain ⟨b, o, rfl, hb, hc⟩ := hO.at_ (by rintro rfl; simp at hx)
      obtain ⟨b2, o2, rfl, hb2, hc2⟩ := hP.at_ (by rintro rfl; simp at hy)
      obtain ⟨c0, c1⟩ := hc k x hx
      obtain ⟨d0, d1⟩ := hc2 k y hy
      rw [hyk] at d0
      rw [hyd] at d1
      have hsz := hW.size
      have hby := hP.each y (List.mem_of_getElem? hy)
      rw [hyd] at hby
      have bx := hO.each x (List.mem_of_getElem? hx)
      have hdl := HD.out x (List.mem_of_getElem? hx)
      have HC : Hid (∀ W : World, Below wr.heap.size wr W → Calls Tryz.prog 68 #[.agg #[.int .u8 (x.kind : Int), .slice x.adr x.data.length x.cap], .agg #[.int .u8 (x.kind : Int), .slice y.adr x.data.length y.cap]] W (TruePost W)) :=
        Lib.hid fun W hW => same24 W (bx.below (hW.mono (by omega))) (hby.below (hW.mono (by omega))) hdl (by have := hW.size; omega)
      have ck0 := fun (W : World) (hW : Below wr.heap.size wr W) => (hW.cell (p := ⟨b, o + k * 2, none⟩) (by show b < wr.heap.size; omega)).trans c0
      have ck1 := fun (W : World) (hW : Below wr.heap.size wr W) => (hW.cell (p := ⟨b, o + k * 2 + 1, none⟩) (by show b < wr.heap.size; omega)).trans c1
      have dk0 := fun (W : World) (hW : Below wr.heap.size wr W) => (hW.cell (p := ⟨b2, o2 + k * 2, none⟩) (by show b2 < wr.heap.size; omega)).trans d0
      have dk1 := fun (W : World) (hW : Below wr.heap.size wr W) => (hW.cell (p := ⟨b2, o2 + k * 2 + 1, none⟩) (by show b2 < wr.heap.size; omega)).trans d1
      have HW := Lib.hid hW
      have t1 : decide ((k : Int) < (n : Int)) = true := by simp; omega
      clear hx hy hO hP hc hc2 hW hby c0 c1 d0 d1 bx hdl
      go_wp2_with fail
      have hS : Below wr.heap.size wr wr.drew := (Below.refl _ _).drew
      refine wp_region_held_drew (S := fun W => Below wr.heap.size wr W) (by kernel_rfl) hS ?_
      clear hS
      intro HS
      refine wpAnyH_take (i := 0) (v := ?_) rfl (by kernel_rfl) (by kernel_rfl) (by kernel_rfl) (fun _ _ _ h => h) (Or.inl ⟨by go_simp, ?hy⟩) HS ?_
      case hy => intro W hW; go_simp; (try with_reducible rfl)
      try simp only [List.getElem_toArray, List.getElem_cons_zero, List.getElem_cons_succ, Act.put, List.setIfInBounds_toArray, List.set_cons_zero, List.set_cons_succ]
      refine wpAnyH_take (i := 1) (v := ?_) rfl (by kernel_rfl) (by kernel_rfl) (by kernel_rfl) (fun _ _ _ h => h) (Or.inl ⟨by go_simp, ?hy⟩) HS ?_
      case hy => intro W hW; go_simp; (try with_reducible rfl)
      try simp only [List.getElem_toArray, List.getElem_cons_zero, List.getElem_cons_succ, Act.put, List.setIfInBounds_toArray, List.set_cons_zero, List.set_cons_succ]
      refine wpAnyH_take (i := 2) (v := .pointer (some ⟨b, o + k * 2, none⟩)) rfl (by kernel_rfl) (by kernel_rfl) (by kernel_rfl) (fun _ _ _ h => h) (Or.inl ⟨by go_simp, fun W hW => by go_simp; (try omega)⟩) HS ?_
      try simp only [List.getElem_toArray, List.getElem_cons_zero, List.getElem_cons_succ, Act.put, List.setIfInBounds_toArray, List.set_cons_zero, List.set_cons_succ]
      refine wpAnyH_take (i := 3) (v := ?_) rfl (by kernel_rfl) (by kernel_rfl) (by kernel_rfl) (fun _ _ _ h => h) (Or.inl ⟨by go_simp, ?hy⟩) HS ?_
      case hy => intro W hW; have c := ck0 W hW; have d := ck1 W hW; go_simp; (try with_reducible rfl)
      try simp only [List.getElem_toArray, List.getElem_cons_zero, List.getElem_cons_succ, Act.put, List.setIfInBounds_toArray, List.set_cons_zero, List.set_cons_succ]
      refine wpAnyH_take (i := 4) (v := ?_) rfl (by kernel_rfl) (by kernel_rfl) (by kernel_rfl) (fun _ _ _ h => h) (Or.inl ⟨by go_simp, ?hy⟩) HS ?_
      case hy => intro W hW; go_simp; (try with_reducible rfl)
      try simp only [List.getElem_toArray, List.getElem_cons_zero, List.getElem_cons_succ, Act.put, List.setIfInBounds_toArray, List.set_cons_zero, List.set_cons_succ]
      refine wpAnyH_take (i := 5) (v := ?_) rfl (by kernel_rfl) (by kernel_rfl) (by kernel_rfl) (fun _ _ _ h => h) (Or.inl ⟨by go_simp, ?hy⟩) HS ?_
      case hy => intro W hW; go_simp; (try with_reducible rfl)
      try simp only [List.getElem_toArray, List.getElem_cons_zero, List.getElem_cons_succ, Act.put, List.setIfInBounds_toArray, List.set_cons_zero, List.set_cons_succ]
      refine wpAnyH_take (i := 6) (v := .pointer (some ⟨b2, o2 + k * 2, none⟩)) rfl (by kernel_rfl) (by kernel_rfl) (by kernel_rfl) (fun _ _ _ h => h) (Or.inl ⟨by go_simp, fun W hW => by go_simp; (try omega)⟩) HS ?_
      try simp only [List.getElem_toArray, List.getElem_cons_zero, List.getElem_cons_succ, Act.put, List.setIfInBounds_toArray, List.set_cons_zero, List.set_cons_succ]
      refine wpAnyH_take (i := 7) (v := ?_) rfl (by kernel_rfl) (by kernel_rfl) (by kernel_rfl) (fun _ _ _ h => h) (Or.inl ⟨by go_simp, ?hy⟩) HS ?_
      case hy => intro W hW; have c := dk0 W hW; have d := dk1 W hW; go_simp; (try with_reducible rfl)
      try simp only [List.getElem_toArray, List.getElem_cons_zero, List.getElem_cons_succ, Act.put, List.setIfInBounds_toArray, List.set_cons_zero, List.set_cons_succ]
      refine wpAnyH_ready (rs := [8]) (by kernel_rfl) (by simp) ?_
      refine AllReadyH.cons rfl (fun K hK => ?_) AllReadyH.nil
      rw [if_pos (by kernel_rfl)]
      simp only [List.getElem_toArray, List.getElem_cons_zero, List.getElem_cons_succ]
      go_simp
      refine (HC.out _ (by assumption)).mono ?_
      rintro e w5 ⟨rfl, hb5⟩
      refine hK.out _ _ (HS.trans (hb5.mono HS.size)) (fun HS => ?_)
      clear hK
      try simp only [List.getElem_toArray, List.getElem_cons_zero, List.getElem_cons_succ, Act.put, List.setIfInBounds_toArray, List.set_cons_zero, List.set_cons_succ]
      refine wpAnyH_take (i := 9) (v := .bool false) rfl (by kernel_rfl) (by kernel_rfl) (by kernel_rfl) (fun _ _ _ h => h) (Or.inl ⟨by go_simp, fun W hW => by go_simp⟩) HS ?_
      try simp only [List.getElem_toArray, List.getElem_cons_zero, List.getElem_cons_succ, Act.put, List.setIfInBounds_toArray, List.set_cons_zero, List.set_cons_succ]
      refine wpAnyH_done (by kernel_rfl) ?_ _
      have HR := Lib.hid (HW.out.trans (HS.mono hsz))
      clear HS
      go_wp2_with fail
      go_roundw
      case rel => exact ⟨k + 1, by omega, by go_num, HR.out⟩
      case measure => simp [intOf]; omega
    · have HW := Lib.hid hW
      clear hW
      have t1 : decide ((k : Int) < (n : Int)) = false := by simp; omega
      go_wp2_with fail
      go_ret
      exact ⟨rfl, HW.out⟩
end Go.Proofs.YtfolamkjlgpgmaaGreatDoor
