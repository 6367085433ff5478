/- Options put as bytes: the walk. No condition but that they are few. -/
import Derived.Test.YtfolamkjlgpgmaaGreatDoorCats
namespace Go.Proofs.YtfolamkjlgpgmaaGreatDoor
open Go.RowKit
set_option linter.unusedVariables false
set_option linter.unusedSimpArgs false
/-- how many eights an option of so many bytes takes -/
def eightsO (n : Nat) : Nat := (2 + min n 2038 + 7) / 8
/-- an option's bytes -/
def optB (k : Nat) (d : List Nat) : List Nat := [k, eightsO d.length] ++ d.take 2038 ++ List.replicate (8 * eightsO d.length - 2 - min d.length 2038) 0
def putB (L : List Opt) : List Nat := L.flatMap fun x => optB x.kind x.data
theorem putB_succ {L : List Opt} {k : Nat} {x : Opt} (h : L[k]? = some x) : putB (L.take (k + 1)) = putB (L.take k) ++ optB x.kind x.data := by
  unfold putB
  rw [List.take_add_one, h]
  simp
theorem eights_bd (n : Nat) : 1 ≤ eightsO n ∧ eightsO n ≤ 255 ∧ 2 + min n 2038 ≤ 8 * eightsO n ∧ 8 * eightsO n ≤ 9 + min n 2038 := by unfold eightsO; omega
theorem optB_length (k : Nat) (d : List Nat) : (optB k d).length = 8 * eightsO d.length := by
  have := eights_bd d.length
  unfold optB
  simp only [List.length_append, List.length_cons, List.length_nil, List.length_take, List.length_replicate]
  omega
theorem putB_le (L : List Opt) : (putB L).length ≤ 9 * L.length + totD L := by
  induction L with
  | nil => simp [putB]
  | cons x L ih =>
    have h1 := eights_bd x.data.length
    have h2 := optB_length x.kind x.data
    simp only [putB, totD, List.flatMap_cons, List.length_append, List.length_cons, List.map_cons, List.sum_cons] at ih ⊢
    omega
def zer (z : Nat) : Array Value := (row8 (List.replicate z 0)).toArray
theorem make_zeros (z : Nat) (W : World) (hz : z ≤ 1000000) : (Instr.makeSlice 22 (.int .i64 (z : Int)) (.int .i64 (z : Int))).run Tryz.prog W = .ok (.slice (some ⟨W.heap.size, 0, none⟩) z z) (W.alloc (.cells (zer z) 5)) := by
  obtain ⟨i5, hi, hz0, hz1, hz2⟩ := info_parts info5
  have h := run_make (P := Tryz.prog) W 22 5 i5 (.int .u8 0) Tryz.underlying22 hi hz0 .i64 .i64 (z : Int) (z : Int) (by omega) (by omega) (by rw [hz2]; omega) (by omega)
  rw [h, hz1]
  have e : madeCells (Value.int .u8 0).cells (((z : Int)).toNat * 1) = zer z := by
    apply Array.ext
    · simp [madeCells, zer, row8]
    · intro i h1 h2
      simp [madeCells, zer, row8, Value.cells, Nat.mod_one]
  rw [e]
  simp
theorem putB_few {L : List Opt} (h : L.length + totD L ≤ 5000) (k : Nat) : (putB (L.take k)).length ≤ 1000000000 := by
  have h1 := putB_le (L.take k)
  have h2 : totD L = totD (L.take k) + totD (L.drop k) := by
    conv => lhs; rw [← List.take_append_drop k L]
    unfold totD
    rw [List.map_append, List.sum_append]
  have h3 : (L.take k).length ≤ L.length := List.length_take_le' ..
  omega
theorem heap3 (W : World) (a b c : Obj) : (((W.alloc a).alloc b).alloc c).drew.heap[W.heap.size]? = some a ∧ (((W.alloc a).alloc b).alloc c).drew.heap[W.heap.size + 1]? = some b ∧ (((W.alloc a).alloc b).alloc c).drew.heap[W.heap.size + 1 + 1]? = some c := by
  refine ⟨?_, ?_, ?_⟩
  · show (((W.alloc a).alloc b).alloc c).heap[W.heap.size]? = some a
    rw [heap_alloc_old _ _ (by simp; omega), heap_alloc_old _ _ (by simp)]; exact heap_alloc_new _ _
  · show (((W.alloc a).alloc b).alloc c).heap[W.heap.size + 1]? = some b
    rw [heap_alloc_old _ _ (by simp)]; have := heap_alloc_new (W.alloc a) b; simpa using this
  · show (((W.alloc a).alloc b).alloc c).heap[W.heap.size + 1 + 1]? = some c
    have := heap_alloc_new ((W.alloc a).alloc b) c; simpa using this
theorem put_pieces {W0 W3 : World} {B0 base p14 p5 p13 kd E m z cap : Nat} {adr : Option Addr} {data PB : List Nat} {u2 : Value} (_ : Below B0 W0 W3) (hown : W3.ownsRow base 5 1 u2 PB.length (row8 PB))
    (h14 : W3.heap[p14]? = some (.cells #[u2, .slice (some ⟨p5, 0, none⟩) 2 2, .slice adr m cap, .slice (some ⟨p13, 0, none⟩) z z] 22 (0, 0))) (h5 : W3.heap[p5]? = some (.cells #[.int .u8 (kd : Int), .int .u8 (E : Int)] 5 (0, 0)))
    (h13 : W3.heap[p13]? = some (.cells (zer z) 5 (0, 0))) (hx : Bs W3 W3.heap.size adr cap data) (hm : min data.length 2038 = m) (hz : z ≤ 1000000) :
    ∃ xs : List Piece, xs.length = 4 ∧ (∀ i x, xs[i]? = some x → W3.cell? ⟨p14, i, none⟩ = some (.slice x.adr x.bytes.length x.cap)) ∧ (∀ x ∈ xs, Bs W3 W3.heap.size x.adr x.cap x.bytes) ∧ allB xs = PB ++ ([kd, E] ++ data.take 2038 ++ List.replicate z 0) := by
  obtain ⟨A2, c2, rfl, hb2, _⟩ := Bs.own hown
  have ht : (data.take 2038).length = m := by rw [List.length_take]; omega
  refine ⟨[⟨A2, c2, PB⟩, ⟨some ⟨p5, 0, none⟩, 2, [kd, E]⟩, ⟨adr, cap, data.take 2038⟩, ⟨some ⟨p13, 0, none⟩, z, List.replicate z 0⟩], rfl, ?_, ?_, by simp [allB]⟩
  · intro i x hi
    rw [cell_blk h14]
    match i with
    | 0 => cases hi; rfl
    | 1 => cases hi; rfl
    | 2 => cases hi; simp only [ht]; rfl
    | 3 => cases hi; simp
    | i + 4 => simp at hi
  · intro x hxm
    simp only [List.mem_cons, List.not_mem_nil, or_false] at hxm
    rcases hxm with rfl | rfl | rfl | rfl
    · exact hb2
    · refine ⟨fun _ => ⟨p5, 0, rfl, lt_of_blk h5, fun k y hy => ?_⟩, by simp, (fun h => by cases h), (by show 2 ≤ maxLen; unfold maxLen; omega)⟩
      rw [cell_blk h5]
      match k with
      | 0 => simp at hy; subst hy; rfl
      | 1 => simp at hy; subst hy; rfl
      | k + 2 => simp at hy
    · refine ⟨fun hne => ?_, by have := hx.cap; simp only [List.length_take]; omega, fun h => ⟨by rw [(hx.nil h).1]; rfl, (hx.nil h).2⟩, hx.max⟩
      obtain ⟨b, o, e, hlt, hc⟩ := hx.rd (by intro e; apply hne; show data.take 2038 = []; rw [e]; rfl)
      exact ⟨b, o, e, hlt, fun k y hy => hc k y (by
        have hy : (data.take 2038)[k]? = some y := hy
        rw [List.getElem?_take] at hy
        split at hy
        · exact hy
        · cases hy)⟩
    · refine ⟨fun _ => ⟨p13, 0, rfl, lt_of_blk h13, fun k y hy => ?_⟩, by simp, (fun h => by cases h), ?_⟩
      · rw [cell_blk h13, Nat.zero_add]
        have := row8_get hy
        simpa [zer] using this
      · show z ≤ maxLen
        unfold maxLen; omega
/-- bytes of one's own, clipped -/
def PutPost (bs : List Nat) (w : World) (e : Ending) (w' : World) : Prop := ∃ A k, e = .returned (.slice A bs.length bs.length) ∧ w'.ownsRow w.heap.size 5 1 (.slice A bs.length k) bs.length (row8 bs) ∧ Below w.heap.size w w'
set_option maxRecDepth 100000 in
set_option maxHeartbeats 4000000 in
theorem put18 {A : Option Addr} {cap : Nat} {L : List Opt} (w : World) (h : OptsAt w w.heap.size A L) (htot : L.length + totD L ≤ 5000) :
    Calls Tryz.prog 23 #[.slice A L.length cap] w (PutPost (putB L) w) := by
  obtain ⟨n, hn⟩ : ∃ n, L.length = n := ⟨_, rfl⟩
  have HN := Lib.hid hn
  have HO := Lib.hid h
  rw [hn] at htot ⊢
  clear h hn
  go_enter Tryz.func23, Tryz.ntmps23
  go_wp2_with fail
  go_loopw [2, 9] (fun v i wr => ∃ k : Nat, k ≤ n ∧ i = .int .i64 k ∧ wr.ownsRow w.heap.size 5 1 v (putB (L.take k)).length (row8 (putB (L.take k))) ∧ Below w.heap.size w wr) (fun _ i _ => n - (intOf i).toNat)
  case atStart => exact ⟨0, Nat.zero_le _, rfl, World.ownsRow_nil _ _ _ _, Below.refl _ _⟩
  case round =>
    obtain ⟨k, hk, rfl, hown, hB⟩ := hrel
    by_cases hlt : k < n
    · obtain ⟨x, hx⟩ : ∃ x, L[k]? = some x := ⟨L[k]'(by rw [HN.out]; exact hlt), List.getElem?_eq_getElem _⟩
      have hOB := HO.out.below hB
      obtain ⟨b, o, rfl, hb, hc⟩ := hOB.at_ (by rintro rfl; simp at hx)
      obtain ⟨c0, c1⟩ := hc k x hx
      have hx2 := hOB.each x (List.mem_of_getElem? hx)
      have HX := Lib.hid hx
      have HX2 := Lib.hid hx2
      have HOW := Lib.hid hown
      have HB := Lib.hid hB
      obtain ⟨m, hm⟩ : ∃ m, min x.data.length 2038 = m := ⟨_, rfl⟩
      obtain ⟨E, hE⟩ : ∃ E, eightsO x.data.length = E := ⟨_, rfl⟩
      have hcap := hx2.1.cap
      have hmc : m ≤ x.cap := by omega
      have hE2 : ((2 : Int) + (m : Int) + 8 - 1) / 8 = (E : Int) := by rw [← hE]; unfold eightsO; omega
      have hbd := eights_bd x.data.length
      rw [hE, hm] at hbd
      have HM := Lib.hid hm
      have HE := Lib.hid hE
      have hm3 : m ≤ 2038 := by omega
      clear hx hc hx2 hOB hown hB hm hE
      go_upto_region 4 with (fail)
      go_cut [5] (fun v wx => v = .slice x.adr m x.cap ∧ wx = wr.alloc (.cells #[.int .u8 (x.kind : Int), .slice x.adr x.data.length x.cap] 24))
      case first =>
        by_cases hle : x.data.length ≤ 2038
        · have hle2 : ¬ ((2038 : Int) < x.data.length) := by omega
          go_wp2_with fail
          all_goals
            go_meet
            case rel => exact ⟨by have := HM.out; congr 1; omega, rfl⟩
        · have hle2 : 2038 ≤ x.cap := by omega
          go_wp2_with fail
          all_goals
            go_meet
            case rel => exact ⟨by have := HM.out; congr 1; omega, rfl⟩
      case rest =>
        obtain ⟨rfl, rfl⟩ := hcut
        obtain ⟨A2, c2, hu2, -, -⟩ := Bs.own HOW.out
        subst hu2
        go_wp2_with fail
        rw [hE2]
        obtain ⟨z, hz⟩ : ∃ z, 8 * E - 2 - m = z := ⟨_, rfl⟩
        have ez : (E : Int) * 8 - 2 - (m : Int) = (z : Int) := by omega
        obtain ⟨W0, hW0⟩ : ∃ W0, W0 = wr.alloc (.cells #[.int .u8 (x.kind : Int), .slice x.adr x.data.length x.cap] 24) := ⟨_, rfl⟩
        have hsz0 : W0.heap.size = wr.heap.size + 1 := by rw [hW0]; simp
        have ck0 : W0.cell? ⟨wr.heap.size, 0, none⟩ = some (.int .u8 (x.kind : Int)) := by rw [hW0, cell_blk (heap_alloc_new _ _)]; rfl
        rw [← hW0]
        have bW0 : Below wr.heap.size wr W0 := by rw [hW0]; exact (Below.refl _ _).alloc (Nat.le_refl _) _
        have hszw : w.heap.size ≤ wr.heap.size := HB.out.size
        have HPS : Hid (putB (L.take (k + 1)) = putB (L.take k) ++ ([x.kind, E] ++ x.data.take 2038 ++ List.replicate z 0)) := Lib.hid (by rw [putB_succ HX.out]; unfold optB; rw [HE.out, HM.out, hz])
        have HTOT : Hid ((putB (L.take k) ++ ([x.kind, E] ++ x.data.take 2038 ++ List.replicate z 0)).length ≤ 1000000000) := Lib.hid (by rw [← HPS.out]; exact putB_few (by rw [HN.out]; exact htot) (k + 1))
        clear hW0
        have hmk : ∀ W : World, (Instr.makeSlice 22 (.int .i64 (z : Int)) (.int .i64 (z : Int))).run Tryz.prog W = .ok (.slice (some ⟨W.heap.size, 0, none⟩) z z) (W.alloc (.cells (zer z) 5)) := fun W => make_zeros z W (by omega)
        have hS : Below (wr.heap.size + 1) W0 W0.drew := (Below.refl _ _).drew
        have ck := fun (W : World) (hW : Below (wr.heap.size + 1) W0 W) => (hW.cell (p := ⟨wr.heap.size, 0, none⟩) (by show wr.heap.size < wr.heap.size + 1; omega)).trans ck0
        refine wp_region_held_drew (S := fun W => Below (wr.heap.size + 1) W0 W) (by kernel_rfl) hS ?_
        clear hS
        intro HS
        refine wpAnyH_take (i := 0) (v := ?_) rfl (by kernel_rfl) (by kernel_rfl) (by kernel_rfl) (fun _ _ _ h => h) (Or.inl ⟨by go_simp, ?hy⟩) HS ?_
        case hy => intro W hW; go_simp; (try with_reducible rfl)
        try simp only [List.getElem_toArray, List.getElem_cons_zero, List.getElem_cons_succ, Act.put, List.setIfInBounds_toArray, List.set_cons_zero, List.set_cons_succ]
        refine wpAnyH_take (i := 1) (v := ?_) rfl (by kernel_rfl) (by kernel_rfl) (by kernel_rfl) (fun _ _ _ h => h) (Or.inl ⟨by go_simp, ?hy⟩) HS ?_
        case hy => intro W hW; go_simp; (try with_reducible rfl)
        try simp only [List.getElem_toArray, List.getElem_cons_zero, List.getElem_cons_succ, Act.put, List.setIfInBounds_toArray, List.set_cons_zero, List.set_cons_succ]
        refine wpAnyH_take (i := 2) (v := ?_) rfl (by kernel_rfl) (by kernel_rfl) (by kernel_rfl) (fun _ _ _ h => h) (Or.inl ⟨by go_simp, ?hy⟩) HS ?_
        case hy => intro W hW; have c := ck W hW; go_simp; (try with_reducible rfl)
        try simp only [List.getElem_toArray, List.getElem_cons_zero, List.getElem_cons_succ, Act.put, List.setIfInBounds_toArray, List.set_cons_zero, List.set_cons_succ]
        refine wpAnyH_take (i := 3) (v := ?_) rfl (by kernel_rfl) (by kernel_rfl) (by kernel_rfl) (fun _ _ _ h => h) (Or.inl ⟨by go_simp, ?hy⟩) HS ?_
        case hy => intro W hW; go_simp; (try with_reducible rfl)
        try simp only [List.getElem_toArray, List.getElem_cons_zero, List.getElem_cons_succ, Act.put, List.setIfInBounds_toArray, List.set_cons_zero, List.set_cons_succ]
        refine wpAnyH_take (i := 4) (v := .int .u8 (E : Int)) rfl (by kernel_rfl) (by kernel_rfl) (by kernel_rfl) (fun _ _ _ h => h) (Or.inl ⟨by go_simp, fun W hW => by go_simp; (try exact u8_small (by omega))⟩) HS ?_
        try simp only [List.getElem_toArray, List.getElem_cons_zero, List.getElem_cons_succ, Act.put, List.setIfInBounds_toArray, List.set_cons_zero, List.set_cons_succ]
        refine wpAnyH_take (i := 6) (v := ?_) rfl (by kernel_rfl) (by kernel_rfl) (by kernel_rfl) (fun _ _ _ h => h) (Or.inl ⟨by go_simp, ?hy⟩) HS ?_
        case hy => intro W hW; go_simp; (try with_reducible rfl)
        try simp only [List.getElem_toArray, List.getElem_cons_zero, List.getElem_cons_succ, Act.put, List.setIfInBounds_toArray, List.set_cons_zero, List.set_cons_succ]
        refine wpAnyH_take (i := 7) (v := ?_) rfl (by kernel_rfl) (by kernel_rfl) (by kernel_rfl) (fun _ _ _ h => h) (Or.inl ⟨by go_simp, ?hy⟩) HS ?_
        case hy => intro W hW; go_simp; (try with_reducible rfl)
        try simp only [List.getElem_toArray, List.getElem_cons_zero, List.getElem_cons_succ, Act.put, List.setIfInBounds_toArray, List.set_cons_zero, List.set_cons_succ]
        refine wpAnyH_take (i := 8) (v := .int .i64 ((E : Int) * 8)) rfl (by kernel_rfl) (by kernel_rfl) (by kernel_rfl) (fun _ _ _ h => h) (Or.inl ⟨by go_simp, fun W hW => by go_simp; (rw [IntKind.wrap_i64]; omega)⟩) HS ?_
        try simp only [List.getElem_toArray, List.getElem_cons_zero, List.getElem_cons_succ, Act.put, List.setIfInBounds_toArray, List.set_cons_zero, List.set_cons_succ]
        refine wpAnyH_take (i := 9) (v := .int .i64 ((E : Int) * 8 - 2)) rfl (by kernel_rfl) (by kernel_rfl) (by kernel_rfl) (fun _ _ _ h => h) (Or.inl ⟨by go_simp, fun W hW => by go_simp; (rw [IntKind.wrap_i64]; omega)⟩) HS ?_
        try simp only [List.getElem_toArray, List.getElem_cons_zero, List.getElem_cons_succ, Act.put, List.setIfInBounds_toArray, List.set_cons_zero, List.set_cons_succ]
        refine wpAnyH_take (i := 10) (v := ?_) rfl (by kernel_rfl) (by kernel_rfl) (by kernel_rfl) (fun _ _ _ h => h) (Or.inl ⟨by go_simp, ?hy⟩) HS ?_
        case hy => intro W hW; go_simp; (try with_reducible rfl)
        try simp only [List.getElem_toArray, List.getElem_cons_zero, List.getElem_cons_succ, Act.put, List.setIfInBounds_toArray, List.set_cons_zero, List.set_cons_succ]
        refine wpAnyH_take (i := 11) (v := ?_) rfl (by kernel_rfl) (by kernel_rfl) (by kernel_rfl) (fun _ _ _ h => h) (Or.inl ⟨by go_simp, ?hy⟩) HS ?_
        case hy => intro W hW; go_simp; (try with_reducible rfl)
        try simp only [List.getElem_toArray, List.getElem_cons_zero, List.getElem_cons_succ, Act.put, List.setIfInBounds_toArray, List.set_cons_zero, List.set_cons_succ]
        refine wpAnyH_take (i := 12) (v := .int .i64 (z : Int)) rfl (by kernel_rfl) (by kernel_rfl) (by kernel_rfl) (fun _ _ _ h => h) (Or.inl ⟨by go_simp, fun W hW => by go_simp; (rw [IntKind.wrap_i64]; omega)⟩) HS ?_
        try simp only [List.getElem_toArray, List.getElem_cons_zero, List.getElem_cons_succ, Act.put, List.setIfInBounds_toArray, List.set_cons_zero, List.set_cons_succ]
        refine wpAnyH_ready (rs := [5, 13]) (by kernel_rfl) (by simp) ?_
        refine AllReadyH.cons rfl (fun K hK => ?_) (AllReadyH.cons rfl (fun K hK => ?_) AllReadyH.nil)
        · rw [if_pos (by kernel_rfl)]
          simp only [List.getElem_toArray, List.getElem_cons_zero, List.getElem_cons_succ]
          go_simp
          refine hK.out _ _ (HS.alloc (by have := HS.size; omega) _) (fun HS => ?_)
          clear hK
          try simp only [List.getElem_toArray, List.getElem_cons_zero, List.getElem_cons_succ, Act.put, List.setIfInBounds_toArray, List.set_cons_zero, List.set_cons_succ]
          refine wpAnyH_ready (rs := [13]) (by kernel_rfl) (by simp) ?_
          refine AllReadyH.cons rfl (fun K hK => ?_) AllReadyH.nil
          rw [if_pos (by kernel_rfl)]
          simp only [List.getElem_toArray, List.getElem_cons_zero, List.getElem_cons_succ]
          go_simp
          refine hK.out _ _ (HS.alloc (by have := HS.size; omega) _) (fun HS => ?_)
          clear hK
          try simp only [List.getElem_toArray, List.getElem_cons_zero, List.getElem_cons_succ, Act.put, List.setIfInBounds_toArray, List.set_cons_zero, List.set_cons_succ]
          refine wpAnyH_ready (rs := [14]) (by kernel_rfl) (by simp) ?_
          refine AllReadyH.cons rfl (fun K hK => ?_) AllReadyH.nil
          rw [if_pos (by kernel_rfl)]
          simp only [List.getElem_toArray, List.getElem_cons_zero, List.getElem_cons_succ]
          go_simp
          refine hK.out _ _ (HS.alloc (by have := HS.size; omega) _) (fun HS => ?_)
          clear hK
          try simp only [List.getElem_toArray, List.getElem_cons_zero, List.getElem_cons_succ, Act.put, List.setIfInBounds_toArray, List.set_cons_zero, List.set_cons_succ]
          refine wpAnyH_ready (rs := [15]) (by kernel_rfl) (by simp) ?_
          refine AllReadyH.cons rfl (fun K hK => ?_) AllReadyH.nil
          rw [if_pos (by kernel_rfl)]
          simp only [List.getElem_toArray, List.getElem_cons_zero, List.getElem_cons_succ]
          go_simp
          obtain ⟨q1, q2, q3⟩ := heap3 W0 (.cells #[.int .u8 (x.kind : Int), .int .u8 (E : Int)] 5) (.cells (zer z) 5) (.cells #[.slice A2 (putB (L.take k)).length c2, .slice (some ⟨wr.heap.size + 1, 0, none⟩) 2 2, .slice x.adr m x.cap, .slice (some ⟨wr.heap.size + 1 + 1, 0, none⟩) z z] 22)
          rw [hsz0] at q1 q2 q3
          have hbw := bW0.trans (HS.mono (by omega))
          obtain ⟨xs, x1, x2, x3, x4⟩ := put_pieces (kd := x.kind) (E := E) (z := z) (m := m) (p14 := wr.heap.size + 1 + 1 + 1) (p5 := wr.heap.size + 1) (p13 := wr.heap.size + 1 + 1) HS (own_below HOW.out hbw) q3 q1 q2 (((HX2.out.1.mono hszw).below hbw).mono hbw.size) HM.out (by omega)
          have HXS := Lib.hid x4
          have htx : total xs ≤ 1000000000 := by rw [← allB_length, x4]; exact HTOT.out
          refine (concat55 xs _ x1 (by decide) x2 x3 htx).mono ?_
          rintro e w5 ⟨v5, rfl, o5, b5⟩
          have hsz3 := HS.size
          refine hK.out _ _ (HS.trans (b5.mono (by omega))) (fun HS => ?_)
          clear hK
          try simp only [List.getElem_toArray, List.getElem_cons_zero, List.getElem_cons_succ, Act.put, List.setIfInBounds_toArray, List.set_cons_zero, List.set_cons_succ]
          refine wpAnyH_take (i := 16) (v := ?_) rfl (by kernel_rfl) (by kernel_rfl) (by kernel_rfl) (fun _ _ _ h => h) (Or.inl ⟨by go_simp, ?hy⟩) HS ?_
          case hy => intro W hW; go_simp; (try with_reducible rfl)
          try simp only [List.getElem_toArray, List.getElem_cons_zero, List.getElem_cons_succ, Act.put, List.setIfInBounds_toArray, List.set_cons_zero, List.set_cons_succ]
          refine wpAnyH_done (by kernel_rfl) ?_ _
          have HR : Hid (w5.ownsRow w.heap.size 5 1 v5 (putB (L.take (k + 1))).length (row8 (putB (L.take (k + 1))))) := Lib.hid (by rw [HPS.out, ← HXS.out]; exact own_mono o5 (by omega))
          have HBR := Lib.hid (HB.out.trans ((hbw.trans (b5.mono (by omega))).mono hszw))
          clear o5 b5 HS hbw q1 q2 q3 x1 x2 x3 x4
          go_wp2_with fail
          go_roundw
          case rel => exact ⟨k + 1, by omega, by go_num, HR.out, HBR.out⟩
          case measure => simp [intOf]; omega
        · rw [if_pos (by kernel_rfl)]
          simp only [List.getElem_toArray, List.getElem_cons_zero, List.getElem_cons_succ]
          go_simp
          refine hK.out _ _ (HS.alloc (by have := HS.size; omega) _) (fun HS => ?_)
          clear hK
          try simp only [List.getElem_toArray, List.getElem_cons_zero, List.getElem_cons_succ, Act.put, List.setIfInBounds_toArray, List.set_cons_zero, List.set_cons_succ]
          refine wpAnyH_ready (rs := [5]) (by kernel_rfl) (by simp) ?_
          refine AllReadyH.cons rfl (fun K hK => ?_) AllReadyH.nil
          rw [if_pos (by kernel_rfl)]
          simp only [List.getElem_toArray, List.getElem_cons_zero, List.getElem_cons_succ]
          go_simp
          refine hK.out _ _ (HS.alloc (by have := HS.size; omega) _) (fun HS => ?_)
          clear hK
          try simp only [List.getElem_toArray, List.getElem_cons_zero, List.getElem_cons_succ, Act.put, List.setIfInBounds_toArray, List.set_cons_zero, List.set_cons_succ]
          refine wpAnyH_ready (rs := [14]) (by kernel_rfl) (by simp) ?_
          refine AllReadyH.cons rfl (fun K hK => ?_) AllReadyH.nil
          rw [if_pos (by kernel_rfl)]
          simp only [List.getElem_toArray, List.getElem_cons_zero, List.getElem_cons_succ]
          go_simp
          refine hK.out _ _ (HS.alloc (by have := HS.size; omega) _) (fun HS => ?_)
          clear hK
          try simp only [List.getElem_toArray, List.getElem_cons_zero, List.getElem_cons_succ, Act.put, List.setIfInBounds_toArray, List.set_cons_zero, List.set_cons_succ]
          refine wpAnyH_ready (rs := [15]) (by kernel_rfl) (by simp) ?_
          refine AllReadyH.cons rfl (fun K hK => ?_) AllReadyH.nil
          rw [if_pos (by kernel_rfl)]
          simp only [List.getElem_toArray, List.getElem_cons_zero, List.getElem_cons_succ]
          go_simp
          obtain ⟨q1, q2, q3⟩ := heap3 W0 (.cells (zer z) 5) (.cells #[.int .u8 (x.kind : Int), .int .u8 (E : Int)] 5) (.cells #[.slice A2 (putB (L.take k)).length c2, .slice (some ⟨wr.heap.size + 1 + 1, 0, none⟩) 2 2, .slice x.adr m x.cap, .slice (some ⟨wr.heap.size + 1, 0, none⟩) z z] 22)
          rw [hsz0] at q1 q2 q3
          have hbw := bW0.trans (HS.mono (by omega))
          obtain ⟨xs, x1, x2, x3, x4⟩ := put_pieces (kd := x.kind) (E := E) (z := z) (m := m) (p14 := wr.heap.size + 1 + 1 + 1) (p5 := wr.heap.size + 1 + 1) (p13 := wr.heap.size + 1) HS (own_below HOW.out hbw) q3 q2 q1 (((HX2.out.1.mono hszw).below hbw).mono hbw.size) HM.out (by omega)
          have HXS := Lib.hid x4
          have htx : total xs ≤ 1000000000 := by rw [← allB_length, x4]; exact HTOT.out
          refine (concat55 xs _ x1 (by decide) x2 x3 htx).mono ?_
          rintro e w5 ⟨v5, rfl, o5, b5⟩
          have hsz3 := HS.size
          refine hK.out _ _ (HS.trans (b5.mono (by omega))) (fun HS => ?_)
          clear hK
          try simp only [List.getElem_toArray, List.getElem_cons_zero, List.getElem_cons_succ, Act.put, List.setIfInBounds_toArray, List.set_cons_zero, List.set_cons_succ]
          refine wpAnyH_take (i := 16) (v := ?_) rfl (by kernel_rfl) (by kernel_rfl) (by kernel_rfl) (fun _ _ _ h => h) (Or.inl ⟨by go_simp, ?hy⟩) HS ?_
          case hy => intro W hW; go_simp; (try with_reducible rfl)
          try simp only [List.getElem_toArray, List.getElem_cons_zero, List.getElem_cons_succ, Act.put, List.setIfInBounds_toArray, List.set_cons_zero, List.set_cons_succ]
          refine wpAnyH_done (by kernel_rfl) ?_ _
          have HR : Hid (w5.ownsRow w.heap.size 5 1 v5 (putB (L.take (k + 1))).length (row8 (putB (L.take (k + 1))))) := Lib.hid (by rw [HPS.out, ← HXS.out]; exact own_mono o5 (by omega))
          have HBR := Lib.hid (HB.out.trans ((hbw.trans (b5.mono (by omega))).mono hszw))
          clear o5 b5 HS hbw q1 q2 q3 x1 x2 x3 x4
          go_wp2_with fail
          go_roundw
          case rel => exact ⟨k + 1, by omega, by go_num, HR.out, HBR.out⟩
          case measure => simp [intOf]; omega
    · have e : L.take k = L := List.take_of_length_le (by rw [HN.out]; omega)
      rw [e] at hown
      obtain ⟨A2, c2, hu2, hbs, -⟩ := Bs.own hown
      subst hu2
      have hcap := hbs.cap
      have HR := Lib.hid hown
      have HBR := Lib.hid hB
      clear hown hB hbs e HO
      go_wp2_with fail
      refine (clip56 _ _ _ hcap _).mono ?_
      rintro e w3 ⟨rfl, rfl⟩
      go_wp2_with fail
      go_ret
      exact ⟨A2, c2, rfl, HR.out, HBR.out⟩
end Go.Proofs.YtfolamkjlgpgmaaGreatDoor
