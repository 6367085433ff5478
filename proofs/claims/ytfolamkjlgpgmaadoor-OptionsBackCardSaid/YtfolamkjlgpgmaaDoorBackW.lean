/- The law on options put and got: the walk. No condition but the form's reach. -/
import Derived.Test.YtfolamkjlgpgmaaDoorBackP
import Derived.Test.YtfolamkjlgpgmaaDoorGet
import Derived.Test.YtfolamkjlgpgmaaDoorSame
import Derived.Test.YtfolamkjlgpgmaaDoorLives
namespace Go.Proofs.YtfolamkjlgpgmaaDoor
open Go.RowKit
set_option linter.unusedVariables false
set_option linter.unusedSimpArgs false
/-- the options, what was put, what was got -/
structure KB (w W : World) (A : Option Addr) (L : List Opt) (gm g : Nat) : Prop where
  opt : OptsAt W w.heap.size A L
  res : ∀ i x, L[i]? = some x → W.cell? ⟨gm, i * 2, none⟩ = some (.int .u8 (x.kind : Int)) ∧ W.cell? ⟨gm, i * 2 + 1, none⟩ = some (.slice (some ⟨g, posO L i + 2, none⟩) (8 * eightsO x.data.length - 2) (8 * eightsO x.data.length - 2))
  dat : ∀ k y : Nat, (putB L)[k]? = some y → W.cell? ⟨g, k, none⟩ = some (.int .u8 (y : Int))
  below : Below w.heap.size w W
theorem KB.step {w W W2 : World} {A : Option Addr} {L : List Opt} {gm g : Nat} (h : KB w W A L gm g) (hb : Below W.heap.size W W2) : KB w W2 A L gm g := by
  have hs := h.below.size
  refine ⟨h.opt.below (hb.mono hs), fun i x hx => ?_, fun k y hy => ?_, h.below.trans (hb.mono hs)⟩
  · obtain ⟨h1, h2⟩ := h.res i x hx
    exact ⟨(hb.cell (p := ⟨gm, i * 2, none⟩) (lt_of_cell h1)).trans h1, (hb.cell (p := ⟨gm, i * 2 + 1, none⟩) (lt_of_cell h2)).trans h2⟩
  · have h1 := h.dat k y hy
    exact (hb.cell (p := ⟨g, k, none⟩) (lt_of_cell h1)).trans h1
theorem rowO_get (g : Nat) : ∀ (R : List (Nat × Nat × Nat)) (i : Nat) (x : Nat × Nat × Nat), R[i]? = some x → (rowO g R)[i * 2]? = some (.int .u8 (x.1 : Int)) ∧ (rowO g R)[i * 2 + 1]? = some (.slice (some ⟨g, x.2.1, none⟩) x.2.2 x.2.2)
  | [], i, x, h => by simp at h
  | y :: R, 0, x, h => by cases h; exact ⟨rfl, rfl⟩
  | y :: R, i + 1, x, h => by
    have := rowO_get g R i x (by simpa using h)
    have e : rowO g (y :: R) = .int .u8 (y.1 : Int) :: .slice (some ⟨g, y.2.1, none⟩) y.2.2 y.2.2 :: rowO g R := by simp [rowO]
    rw [e, show (i + 1) * 2 = i * 2 + 1 + 1 by omega]
    exact this
theorem resO_get {L : List Opt} {i n : Nat} {x : Opt} (h : L[i]? = some x) (hn : i < n) : (resO L n)[i]? = some (x.kind, posO L i + 2, 8 * eightsO x.data.length - 2) := by
  unfold resO
  rw [List.getElem?_map, List.getElem?_range hn]
  simp [h]
/-- how many bytes the last one so far takes -/
def lastO (L : List Opt) : Nat → Nat
  | 0 => 0
  | i + 1 => match L[i]? with
    | some x => 8 * eightsO x.data.length
    | none => 0
theorem lastO_succ {L : List Opt} {i : Nat} {x : Opt} (h : L[i]? = some x) : lastO L (i + 1) = 8 * eightsO x.data.length := by simp only [lastO, h]
/-- what is got, as the walk reads it -/
theorem KB.of {w w2 : World} {A A2 : Option Addr} {L : List Opt} {g c k base : Nat} (ho : OptsAt w w.heap.size A L) (hb : Below w.heap.size w w2) (hown : w2.ownsRow base 41 2 (.slice A2 L.length k) L.length (rowO g (resO L L.length))) (hrow : putB L ≠ [] → RowAt w2 g c (putB L)) :
    ∃ gm, (0 < L.length → A2 = some ⟨gm, 0, none⟩) ∧ KB w w2 A L gm g := by
  have hd : ∀ k y : Nat, (putB L)[k]? = some y → w2.cell? ⟨g, k, none⟩ = some (.int .u8 (y : Int)) := fun k y hy => by
    obtain ⟨cur, h1, _, h3⟩ := hrow (by intro e; rw [e] at hy; simp at hy)
    rw [cell_blk h1]
    have h4 := row8_get hy
    have hk : k < (putB L).length := (List.getElem?_eq_some_iff.1 hy).1
    rw [← h3, List.getElem?_take_of_lt hk] at h4
    simpa using h4
  rcases hown.2 with ⟨e, h0⟩ | ⟨gm, cap, cur, e, hbg, hg, hn, hm, hs, ht⟩
  · refine ⟨0, fun h => by omega, ho.below hb, fun i x hx => ?_, hd, hb⟩
    have := (List.getElem?_eq_some_iff.1 hx).1
    omega
  · cases e
    refine ⟨gm, fun _ => rfl, ho.below hb, fun i x hx => ?_, hd, hb⟩
    have hi := (List.getElem?_eq_some_iff.1 hx).1
    obtain ⟨h1, h2⟩ := rowO_get g _ i _ (resO_get hx hi)
    rw [← ht, List.getElem?_take_of_lt (by omega)] at h1 h2
    rw [cell_blk hg, cell_blk hg]
    exact ⟨by simpa using h1, by simpa using h2⟩
theorem optAt {W : World} {B b o : Nat} {L : List Opt} {k : Nat} {x : Opt} (h : OptsAt W B (some ⟨b, o, none⟩) L) (hx : L[k]? = some x) : W.cell? ⟨b, o + k * 2, none⟩ = some (.int .u8 (x.kind : Int)) ∧ W.cell? ⟨b, o + k * 2 + 1, none⟩ = some (.slice x.adr x.data.length x.cap) := by
  obtain ⟨b', o', e, _, hc⟩ := h.at_ (by rintro rfl; simp at hx)
  cases e
  exact hc k x hx
theorem Bs.take {w : World} {B c : Nat} {A : Option Addr} {l : List Nat} (h : Bs w B A c l) (r : Nat) : Bs w B A c (l.take r) := by
  refine ⟨fun hne => ?_, by have := h.cap; rw [List.length_take]; omega, fun e => ⟨by rw [(h.nil e).1]; simp, (h.nil e).2⟩, h.max⟩
  obtain ⟨b, o, e, hlt, hc⟩ := h.rd (by rintro rfl; simp at hne)
  exact ⟨b, o, e, hlt, fun k y hy => hc k y (by
    rw [List.getElem?_take] at hy
    split at hy
    · exact hy
    · cases hy)⟩
/-- the data of an option that was got -/
theorem KB.data {w W : World} {A : Option Addr} {L : List Opt} {gm g k : Nat} {x : Opt} (h : KB w W A L gm g) (hx : L[k]? = some x) : ∀ i y : Nat, (x.data.take 2038 ++ List.replicate (8 * eightsO x.data.length - 2 - min x.data.length 2038) 0)[i]? = some y → W.cell? ⟨g, posO L k + 2 + i, none⟩ = some (.int .u8 (y : Int)) := fun i y hy => by
  rw [← back_data hx] at hy
  have hy2 : ((putB L).drop (posO L k + 2))[i]? = some y := by
    rw [List.getElem?_take] at hy
    split at hy
    · exact hy
    · cases hy
  rw [List.getElem?_drop] at hy2
  exact h.dat _ y hy2
theorem KB.got {w W : World} {A : Option Addr} {L : List Opt} {gm g k ln m : Nat} {x : Opt} (h : KB w W A L gm g) (hx : L[k]? = some x) (hm : min x.data.length 2038 = m) (hln : 8 * eightsO x.data.length - 2 = ln) : Bs W W.heap.size (some ⟨g, posO L k + 2, none⟩) ln (x.data.take 2038) := by
  have hE := eights_bd x.data.length
  refine ⟨fun hne => ⟨g, posO L k + 2, rfl, ?_, fun i y hy => ?_⟩, by rw [List.length_take]; omega, (fun e => by cases e), by unfold maxLen; omega⟩
  · obtain ⟨y, hy⟩ : ∃ y, (x.data.take 2038)[0]? = some y := by
      cases hc : x.data.take 2038 with
      | nil => exact absurd hc hne
      | cons y t => exact ⟨y, rfl⟩
    exact lt_of_cell (h.data hx 0 y (by rw [List.getElem?_append_left (by exact (List.getElem?_eq_some_iff.1 hy).1)]; exact hy))
  · exact h.data hx i y (by rw [List.getElem?_append_left (by exact (List.getElem?_eq_some_iff.1 hy).1)]; exact hy)
theorem same_got {w W : World} {A : Option Addr} {L : List Opt} {gm g k ln m : Nat} {x : Opt} (h : KB w W A L gm g) (hx : L[k]? = some x) (hm : min x.data.length 2038 = m) (hln : 8 * eightsO x.data.length - 2 = ln) :
    Calls Tryd.prog 19 #[.slice (some ⟨g, posO L k + 2, none⟩) m ln, .slice x.adr m x.cap] W (SamePost true W) := by
  have h1 := h.got hx hm hln
  have h2 := ((h.opt.each x (List.mem_of_getElem? hx)).1.mono h.below.size).take 2038
  have hl : (x.data.take 2038).length = m := by rw [List.length_take]; omega
  have := same19 W h1 h2 (by rw [hl]; omega)
  rw [hl, show (x.data.take 2038 == x.data.take 2038) = true from beq_self_eq_true _] at this
  exact this
theorem same_zer {w W : World} {A : Option Addr} {L : List Opt} {gm g k ln m z a5 : Nat} {x : Opt} (h : KB w W A L gm g) (hx : L[k]? = some x) (hm : min x.data.length 2038 = m) (hln : 8 * eightsO x.data.length - 2 = ln) (hz : ln - m = z) (ha : (if ln = m then posO L k + 2 else posO L k + 2 + m) = a5) :
    Calls Tryd.prog 19 #[.slice (some ⟨g, a5, none⟩) z z, .slice (some ⟨W.heap.size, 0, none⟩) z z] (W.alloc (.cells (zer z) 5)) (SamePost true (W.alloc (.cells (zer z) 5))) := by
  have hE := eights_bd x.data.length
  have hl : (x.data.take 2038).length = m := by rw [List.length_take]; omega
  have hz7 : z ≤ 7 := by omega
  have h1 : Bs (W.alloc (.cells (zer z) 5)) (W.alloc (.cells (zer z) 5)).heap.size (some ⟨g, a5, none⟩) z (List.replicate z 0) := by
    refine ⟨fun hne => ?_, by simp, (fun e => by cases e), by unfold maxLen; omega⟩
    have hzp : z ≠ 0 := by rintro rfl; exact hne rfl
    rw [if_neg (by omega)] at ha
    have hc : ∀ i y : Nat, (List.replicate z 0)[i]? = some y → W.cell? ⟨g, a5 + i, none⟩ = some (.int .u8 (y : Int)) := fun i y hy => by
      have := h.data hx (m + i) y (by
        rw [List.getElem?_append_right (by omega), hl, show m + i - m = i by omega, hm, hln, hz]
        exact hy)
      rw [← ha, show posO L k + 2 + m + i = posO L k + 2 + (m + i) by omega]
      exact this
    have h0 := lt_of_cell (hc 0 0 (by rw [List.getElem?_replicate, if_pos (by omega)]))
    exact ⟨g, a5, rfl, by simp; omega, fun i y hy => by
      rw [← hc i y hy]
      simp only [World.cell?, heap_alloc_old W _ h0]⟩
  have h2 : Bs (W.alloc (.cells (zer z) 5)) (W.alloc (.cells (zer z) 5)).heap.size (some ⟨W.heap.size, 0, none⟩) z (List.replicate z 0) := by
    refine ⟨fun hne => ⟨W.heap.size, 0, rfl, by simp, fun i y hy => ?_⟩, by simp, (fun e => by cases e), by unfold maxLen; omega⟩
    rw [cell_blk (heap_alloc_new W (.cells (zer z) 5)), Nat.zero_add]
    have := row8_get hy
    simpa [zer] using this
  have := same19 _ h1 h2 (by simp; omega)
  rw [List.length_replicate, show (List.replicate z 0 == List.replicate z 0) = true from beq_self_eq_true _] at this
  exact this
set_option maxRecDepth 100000 in
set_option maxHeartbeats 8000000 in
theorem optionsBack_walk {A : Option Addr} {cap : Nat} {L : List Opt} (w : World) (ho : OptsAt w w.heap.size A L) (cut : Nat) (hcut : cut < 65536) :
    Calls Tryd.prog 4 #[.slice A L.length cap, .int .u16 (cut : Int)] w fun e w' => e = .returned (.bool true) ∧ Below w.heap.size w w' := by
  obtain ⟨n, hn⟩ : ∃ n, L.length = n := ⟨_, rfl⟩
  have HN := Lib.hid hn
  have HO := Lib.hid ho
  have HG := Lib.hid (great17 (cap := cap) w ho)
  have hm := ho.many
  rw [hn] at HG hm ⊢
  clear ho hn
  go_enter Tryd.func4, Tryd.ntmps4
  go_wp2_with fail
  refine (HG.out).mono ?_
  rintro e w1 ⟨b, rfl, rfl, hfew⟩
  have HF := Lib.hid hfew
  clear hfew HG
  cases b
  · have hfew := HF.out rfl
    have HF2 := Lib.hid hfew
    have hn5 : n ≤ 5000 := by have := HN.out; omega
    clear HF hfew
    have HP := Lib.hid (put18 (cap := cap) w HO.out HF2.out)
    have hnn := HN.out
    rw [hnn] at HP
    clear hnn
    go_wp2_with fail
    refine (HP.out).mono ?_
    rintro e w2 ⟨A1, k1, rfl, o1, b1⟩
    clear HP
    have HBL := Lib.hid (putB_few HF2.out n)
    have e0 : (L.take n) = L := List.take_of_length_le (by rw [HN.out]; exact Nat.le_refl _)
    rw [e0] at HBL
    have hlen8 := posO_eight L n (by rw [HN.out]; exact Nat.le_refl _)
    have eall : posO L n = (putB L).length := by rw [← HN.out, posO_all]
    rw [eall] at hlen8
    obtain ⟨q, hq⟩ : ∃ q, (putB L).length = q := ⟨_, rfl⟩
    have HQ := Lib.hid hq
    obtain ⟨A1', c1', ee, hbs1, _⟩ := Bs.own o1
    cases ee
    have HB1 : Hid (Bs w2 w2.heap.size A1 q (putB L)) := Lib.hid ⟨hbs1.rd, by rw [hq]; exact Nat.le_refl _, fun h => by
      have := (hbs1.nil h).1
      exact ⟨this, by rw [← hq, this]; rfl⟩, by have := hbs1.max; have := hbs1.cap; omega⟩
    have hb256 : ∀ y ∈ putB L, y < 256 := put_256 fun x hx => ⟨(HO.out.each x hx).2.1, (HO.out.each x hx).2.2.1⟩
    have H256 := Lib.hid hb256
    have HGET := Lib.hid (get10 w2 HB1.out HBL.out hb256)
    have HBW := Lib.hid b1
    have hq8 : q % 8 = 0 ∧ 8 * n ≤ q := by rw [hq] at hlen8; exact hlen8
    have hqs : q ≤ 1000000000 := by rw [← hq]; exact HBL.out
    rw [hq] at HGET ⊢
    clear o1 b1 hlen8 eall hq hbs1 hb256 e0
    go_wp2_with fail
    refine (HGET.out).mono ?_
    rintro e w3 ⟨b3, h3⟩
    have HB3 := Lib.hid b3
    clear HGET b3
    have t1 : ((q : Int) % 8 != 0) = false := by rw [bne_eq_false_iff_eq]; omega
    have t2 : ¬ ((q : Int) < 8 * (n : Int)) := by omega
    rcases h3 with ⟨hno, rfl⟩ | ⟨R, g, cg, A3, hR, rfl, ⟨k3, o3⟩, hrow⟩
    · have h64 : (64 : Int) < n := by
        by_cases h : n ≤ 64
        · rw [back_get (by rw [HN.out]; exact h)] at hno; cases hno
        · omega
      clear hno
      go_wp2_with fail
      refine (lives8 _).mono ?_
      rintro e w4 ⟨rfl, b4⟩
      have HB := Lib.hid (HBW.out.trans ((HB3.out.trans (b4.mono HB3.out.size)).mono HBW.out.size))
      clear b4
      go_wp2_with fail
      go_ret
      exact ⟨rfl, HB.out⟩
    · have h64 : n ≤ 64 := by
        rcases Nat.lt_or_ge 64 n with h | h
        · rw [back_many (by rw [HN.out]; exact h)] at hR; cases hR
        · exact h
      have eR : R = resO L n := by
        have := hR
        rw [back_get (by rw [HN.out]; exact h64), HN.out] at this
        exact (Option.some.inj this).symm
      subst eR
      have hb23 := HBW.out.trans (HB3.out.mono HBW.out.size)
      rw [resO_length] at o3 ⊢
      obtain ⟨gm, hA3, hK⟩ := KB.of (A2 := A3) (k := k3) (base := w2.heap.size) (c := cg) HO.out hb23 (by rw [HN.out]; exact o3) (fun h => (hrow h).2)
      have HK := Lib.hid hK
      have HA3 := Lib.hid hA3
      have HBS3 := Lib.hid ((HB1.out.mono (Nat.le_refl _)).below HB3.out)
      clear hR hb23 o3 hrow hK hA3
      have t3 : ¬ ((64 : Int) < n) := by omega
      go_wp2_with fail
      go_loopw [8, 9] (fun la i wr => ∃ k : Nat, k ≤ n ∧ i = .int .i64 k ∧ la = .int .i64 ((lastO L k : Nat) : Int) ∧ KB w wr A L gm g ∧ Below w3.heap.size w3 wr) (fun _ i _ => n - (intOf i).toNat)
      case atStart => exact ⟨0, Nat.zero_le _, rfl, rfl, HK.out, Below.refl _ _⟩
      case round =>
        clear HK
        obtain ⟨k, hk, rfl, rfl, hK, hB⟩ := hrel
        have HK := Lib.hid hK
        have HBB := Lib.hid hB
        have HBB3 := Lib.hid (hB.mono HB3.out.size)
        clear hK hB
        by_cases hlt : k < n
        · obtain ⟨x, hx⟩ : ∃ x, L[k]? = some x := ⟨L[k]'(by rw [HN.out]; exact hlt), List.getElem?_eq_getElem _⟩
          obtain ⟨b, o, rfl, hb, hc⟩ := HK.out.opt.at_ (by rintro rfl; simp at hx)
          obtain rfl := HA3.out (by rw [HN.out]; omega)
          obtain ⟨c0, c1⟩ := hc k x hx
          obtain ⟨d0, d1⟩ := HK.out.res k x hx
          have hE := eights_bd x.data.length
          have HX := Lib.hid hx
          have hx2 := HO.out.each x (List.mem_of_getElem? hx)
          have hcap := hx2.1.cap
          have hcap2 := hx2.2.2.2
          obtain ⟨m, hm'⟩ : ∃ m, min x.data.length 2038 = m := ⟨_, rfl⟩
          obtain ⟨ln, hln⟩ : ∃ ln, 8 * eightsO x.data.length - 2 = ln := ⟨_, rfl⟩
          have HLA : Hid (lastO L (k + 1) = ln + 2) := Lib.hid (by rw [lastO_succ hx, ← hln]; omega)
          have hml : m ≤ ln := by omega
          have hml2 : ln ≤ m + 7 := by omega
          have hl8 : (ln + 2) % 8 = 0 := by omega
          have hmd : m ≤ x.data.length := by omega
          have hm38 : m ≤ 2038 := by omega
          rw [hln] at d1
          have HLN := Lib.hid hln
          have HMM := Lib.hid hm'
          clear hx hc hx2 hE hm' hln
          go_upto_region 15 with (fail)
          go_cut [10] (fun v wx => v = .int .i64 (m : Int) ∧ wx = wr)
          case first =>
            by_cases hle : x.data.length ≤ 2038
            · go_wp2_with fail
              all_goals
                go_meet
                case rel => exact ⟨congrArg (Value.int .i64) (by have := HMM.out; omega), rfl⟩
            · go_wp2_with fail
              all_goals
                go_meet
                case rel => exact ⟨congrArg (Value.int .i64) (by have := HMM.out; omega), rfl⟩
          case rest =>
            obtain ⟨rfl, rfl⟩ := hcut
            go_upto_region 18 with (fail)
            go_cut [139] (fun v wx => v = .bool false ∧ KB w wx (some ⟨b, o, none⟩) L gm g ∧ Below w3.heap.size w3 wx)
            case first =>
              have hS : KB w wc (some ⟨b, o, none⟩) L gm g ∧ Below w3.heap.size w3 wc := ⟨HK.out, HBB.out⟩
              replace hS : KB w wc.drew (some ⟨b, o, none⟩) L gm g ∧ Below w3.heap.size w3 wc.drew := ⟨hS.1.step (Below.refl _ _).drew, hS.2.drew⟩
              have ck0 := fun (W : World) (hW : KB w W (some ⟨b, o, none⟩) L gm g ∧ Below w3.heap.size w3 W) => (optAt hW.1.opt HX.out).1
              have ck1 := fun (W : World) (hW : KB w W (some ⟨b, o, none⟩) L gm g ∧ Below w3.heap.size w3 W) => (optAt hW.1.opt HX.out).2
              have dk0 := fun (W : World) (hW : KB w W (some ⟨b, o, none⟩) L gm g ∧ Below w3.heap.size w3 W) => (hW.1.res k x HX.out).1
              have dk1 := fun (W : World) (hW : KB w W (some ⟨b, o, none⟩) L gm g ∧ Below w3.heap.size w3 W) => (hW.1.res k x HX.out).2
              rw [HLN.out] at dk1
              obtain ⟨z, hz⟩ : ∃ z, ln - m = z := ⟨_, rfl⟩
              have hz7 : z ≤ 7 := by omega
              have hmc : m ≤ x.cap := by omega
              obtain ⟨a5, ha5⟩ : ∃ a5, (if ln = m then posO L k + 2 else posO L k + 2 + m) = a5 := ⟨_, rfl⟩
              have H19 := Lib.hid (fun (W : World) (hW : KB w W (some ⟨b, o, none⟩) L gm g ∧ Below w3.heap.size w3 W) => same_got hW.1 HX.out HMM.out HLN.out)
              have hmk : ∀ W : World, (Instr.makeSlice 22 (.int .i64 (z : Int)) (.int .i64 (z : Int))).run Tryd.prog W = .ok (.slice (some ⟨W.heap.size, 0, none⟩) z z) (W.alloc (.cells (zer z) 5)) := fun W => make_zeros z W (by omega)
              have H20 := Lib.hid (fun (W : World) (hW : KB w W (some ⟨b, o, none⟩) L gm g ∧ Below w3.heap.size w3 W) => same_zer hW.1 HX.out HMM.out HLN.out hz ha5)
              have HA5 := Lib.hid ha5
              clear c0 c1 d0 d1 ha5
              refine wp_region_held_drew (S := fun W => KB w W (some ⟨b, o, none⟩) L gm g ∧ Below w3.heap.size w3 W) (by kernel_rfl) hS ?_
              clear hS
              intro HS
              refine wpAnyH_take (i := 0) (v := ?_) rfl (by kernel_rfl) (by kernel_rfl) (by kernel_rfl) (fun _ _ _ h => h) (Or.inl ⟨by go_simp, ?hy⟩) HS ?_
              case hy => intro W hW; go_simp; (try with_reducible rfl)
              try simp only [List.getElem_toArray, List.getElem_cons_zero, List.getElem_cons_succ, Act.put, List.setIfInBounds_toArray, List.set_cons_zero, List.set_cons_succ]
              refine wpAnyH_take (i := 1) (v := ?_) rfl (by kernel_rfl) (by kernel_rfl) (by kernel_rfl) (fun _ _ _ h => h) (Or.inl ⟨by go_simp, ?hy⟩) HS ?_
              case hy => intro W hW; go_simp; (try with_reducible rfl)
              try simp only [List.getElem_toArray, List.getElem_cons_zero, List.getElem_cons_succ, Act.put, List.setIfInBounds_toArray, List.set_cons_zero, List.set_cons_succ]
              refine wpAnyH_take (i := 2) (v := ?_) rfl (by kernel_rfl) (by kernel_rfl) (by kernel_rfl) (fun _ _ _ h => h) (Or.inl ⟨by go_simp, ?hy⟩) HS ?_
              case hy => intro W hW; go_simp; (try with_reducible rfl)
              try simp only [List.getElem_toArray, List.getElem_cons_zero, List.getElem_cons_succ, Act.put, List.setIfInBounds_toArray, List.set_cons_zero, List.set_cons_succ]
              refine wpAnyH_take (i := 3) (v := ?_) rfl (by kernel_rfl) (by kernel_rfl) (by kernel_rfl) (fun _ _ _ h => h) (Or.inl ⟨by go_simp, ?hy⟩) HS ?_
              case hy => intro W hW; go_simp; (try with_reducible rfl)
              try simp only [List.getElem_toArray, List.getElem_cons_zero, List.getElem_cons_succ, Act.put, List.setIfInBounds_toArray, List.set_cons_zero, List.set_cons_succ]
              refine wpAnyH_take (i := 4) (v := ?_) rfl (by kernel_rfl) (by kernel_rfl) (by kernel_rfl) (fun _ _ _ h => h) (Or.inl ⟨by go_simp, ?hy⟩) HS ?_
              case hy => intro W hW; have c := dk0 W hW; go_simp; (try with_reducible rfl)
              try simp only [List.getElem_toArray, List.getElem_cons_zero, List.getElem_cons_succ, Act.put, List.setIfInBounds_toArray, List.set_cons_zero, List.set_cons_succ]
              refine wpAnyH_take (i := 5) (v := ?_) rfl (by kernel_rfl) (by kernel_rfl) (by kernel_rfl) (fun _ _ _ h => h) (Or.inl ⟨by go_simp, ?hy⟩) HS ?_
              case hy => intro W hW; go_simp; (try with_reducible rfl)
              try simp only [List.getElem_toArray, List.getElem_cons_zero, List.getElem_cons_succ, Act.put, List.setIfInBounds_toArray, List.set_cons_zero, List.set_cons_succ]
              refine wpAnyH_take (i := 6) (v := ?_) rfl (by kernel_rfl) (by kernel_rfl) (by kernel_rfl) (fun _ _ _ h => h) (Or.inl ⟨by go_simp, ?hy⟩) HS ?_
              case hy => intro W hW; go_simp; (try with_reducible rfl)
              try simp only [List.getElem_toArray, List.getElem_cons_zero, List.getElem_cons_succ, Act.put, List.setIfInBounds_toArray, List.set_cons_zero, List.set_cons_succ]
              refine wpAnyH_take (i := 7) (v := ?_) rfl (by kernel_rfl) (by kernel_rfl) (by kernel_rfl) (fun _ _ _ h => h) (Or.inl ⟨by go_simp, ?hy⟩) HS ?_
              case hy => intro W hW; go_simp; (try with_reducible rfl)
              try simp only [List.getElem_toArray, List.getElem_cons_zero, List.getElem_cons_succ, Act.put, List.setIfInBounds_toArray, List.set_cons_zero, List.set_cons_succ]
              refine wpAnyH_take (i := 8) (v := ?_) rfl (by kernel_rfl) (by kernel_rfl) (by kernel_rfl) (fun _ _ _ h => h) (Or.inl ⟨by go_simp, ?hy⟩) HS ?_
              case hy => intro W hW; go_simp; (try with_reducible rfl)
              try simp only [List.getElem_toArray, List.getElem_cons_zero, List.getElem_cons_succ, Act.put, List.setIfInBounds_toArray, List.set_cons_zero, List.set_cons_succ]
              refine wpAnyH_take (i := 9) (v := ?_) rfl (by kernel_rfl) (by kernel_rfl) (by kernel_rfl) (fun _ _ _ h => h) (Or.inl ⟨by go_simp, ?hy⟩) HS ?_
              case hy => intro W hW; have c := ck0 W hW; go_simp; (try with_reducible rfl)
              try simp only [List.getElem_toArray, List.getElem_cons_zero, List.getElem_cons_succ, Act.put, List.setIfInBounds_toArray, List.set_cons_zero, List.set_cons_succ]
              refine wpAnyH_take (i := 10) (v := .bool false) rfl (by kernel_rfl) (by kernel_rfl) (by kernel_rfl) (fun _ _ _ h => h) (Or.inl ⟨by go_simp, fun W hW => by go_simp⟩) HS ?_
              try simp only [List.getElem_toArray, List.getElem_cons_zero, List.getElem_cons_succ, Act.put, List.setIfInBounds_toArray, List.set_cons_zero, List.set_cons_succ]
              refine wpAnyH_take (i := 11) (v := ?_) rfl (by kernel_rfl) (by kernel_rfl) (by kernel_rfl) (fun _ _ _ h => h) (Or.inl ⟨by go_simp, ?hy⟩) HS ?_
              case hy => intro W hW; go_simp; (try with_reducible rfl)
              try simp only [List.getElem_toArray, List.getElem_cons_zero, List.getElem_cons_succ, Act.put, List.setIfInBounds_toArray, List.set_cons_zero, List.set_cons_succ]
              refine wpAnyH_take (i := 12) (v := ?_) rfl (by kernel_rfl) (by kernel_rfl) (by kernel_rfl) (fun _ _ _ h => h) (Or.inl ⟨by go_simp, ?hy⟩) HS ?_
              case hy => intro W hW; go_simp; (try with_reducible rfl)
              try simp only [List.getElem_toArray, List.getElem_cons_zero, List.getElem_cons_succ, Act.put, List.setIfInBounds_toArray, List.set_cons_zero, List.set_cons_succ]
              refine wpAnyH_take (i := 13) (v := ?_) rfl (by kernel_rfl) (by kernel_rfl) (by kernel_rfl) (fun _ _ _ h => h) (Or.inl ⟨by go_simp, ?hy⟩) HS ?_
              case hy => intro W hW; go_simp; (try with_reducible rfl)
              try simp only [List.getElem_toArray, List.getElem_cons_zero, List.getElem_cons_succ, Act.put, List.setIfInBounds_toArray, List.set_cons_zero, List.set_cons_succ]
              refine wpAnyH_take (i := 14) (v := .bool false) rfl (by kernel_rfl) (by kernel_rfl) (by kernel_rfl) (fun _ _ _ h => h) (Or.inl ⟨by go_simp, fun W hW => by go_simp; (try omega)⟩) HS ?_
              try simp only [List.getElem_toArray, List.getElem_cons_zero, List.getElem_cons_succ, Act.put, List.setIfInBounds_toArray, List.set_cons_zero, List.set_cons_succ]
              refine wpAnyH_take (i := 15) (v := ?_) rfl (by kernel_rfl) (by kernel_rfl) (by kernel_rfl) (fun _ _ _ h => h) (Or.inl ⟨by go_simp, ?hy⟩) HS ?_
              case hy => intro W hW; go_simp; (try with_reducible rfl)
              try simp only [List.getElem_toArray, List.getElem_cons_zero, List.getElem_cons_succ, Act.put, List.setIfInBounds_toArray, List.set_cons_zero, List.set_cons_succ]
              refine wpAnyH_take (i := 16) (v := ?_) rfl (by kernel_rfl) (by kernel_rfl) (by kernel_rfl) (fun _ _ _ h => h) (Or.inl ⟨by go_simp, ?hy⟩) HS ?_
              case hy => intro W hW; go_simp; (try with_reducible rfl)
              try simp only [List.getElem_toArray, List.getElem_cons_zero, List.getElem_cons_succ, Act.put, List.setIfInBounds_toArray, List.set_cons_zero, List.set_cons_succ]
              refine wpAnyH_take (i := 17) (v := ?_) rfl (by kernel_rfl) (by kernel_rfl) (by kernel_rfl) (fun _ _ _ h => h) (Or.inl ⟨by go_simp, ?hy⟩) HS ?_
              case hy => intro W hW; go_simp; (try with_reducible rfl)
              try simp only [List.getElem_toArray, List.getElem_cons_zero, List.getElem_cons_succ, Act.put, List.setIfInBounds_toArray, List.set_cons_zero, List.set_cons_succ]
              refine wpAnyH_take (i := 18) (v := .int .i64 ((ln : Int) + 2)) rfl (by kernel_rfl) (by kernel_rfl) (by kernel_rfl) (fun _ _ _ h => h) (Or.inl ⟨by go_simp, fun W hW => by go_simp; (rw [IntKind.wrap_i64]; omega)⟩) HS ?_
              try simp only [List.getElem_toArray, List.getElem_cons_zero, List.getElem_cons_succ, Act.put, List.setIfInBounds_toArray, List.set_cons_zero, List.set_cons_succ]
              refine wpAnyH_take (i := 19) (v := .int .i64 0) rfl (by kernel_rfl) (by kernel_rfl) (by kernel_rfl) (fun _ _ _ h => h) (Or.inl ⟨by go_simp, fun W hW => by go_simp; (rw [Int.tmod_eq_emod_of_nonneg (by omega)]; omega)⟩) HS ?_
              try simp only [List.getElem_toArray, List.getElem_cons_zero, List.getElem_cons_succ, Act.put, List.setIfInBounds_toArray, List.set_cons_zero, List.set_cons_succ]
              refine wpAnyH_take (i := 20) (v := .bool false) rfl (by kernel_rfl) (by kernel_rfl) (by kernel_rfl) (fun _ _ _ h => h) (Or.inl ⟨by go_simp, fun W hW => by go_simp⟩) HS ?_
              try simp only [List.getElem_toArray, List.getElem_cons_zero, List.getElem_cons_succ, Act.put, List.setIfInBounds_toArray, List.set_cons_zero, List.set_cons_succ]
              refine wpAnyH_take (i := 21) (v := ?_) rfl (by kernel_rfl) (by kernel_rfl) (by kernel_rfl) (fun _ _ _ h => h) (Or.inl ⟨by go_simp, ?hy⟩) HS ?_
              case hy => intro W hW; go_simp; (try with_reducible rfl)
              try simp only [List.getElem_toArray, List.getElem_cons_zero, List.getElem_cons_succ, Act.put, List.setIfInBounds_toArray, List.set_cons_zero, List.set_cons_succ]
              refine wpAnyH_take (i := 22) (v := ?_) rfl (by kernel_rfl) (by kernel_rfl) (by kernel_rfl) (fun _ _ _ h => h) (Or.inl ⟨by go_simp, ?hy⟩) HS ?_
              case hy => intro W hW; go_simp; (try with_reducible rfl)
              try simp only [List.getElem_toArray, List.getElem_cons_zero, List.getElem_cons_succ, Act.put, List.setIfInBounds_toArray, List.set_cons_zero, List.set_cons_succ]
              refine wpAnyH_take (i := 23) (v := ?_) rfl (by kernel_rfl) (by kernel_rfl) (by kernel_rfl) (fun _ _ _ h => h) (Or.inl ⟨by go_simp, ?hy⟩) HS ?_
              case hy => intro W hW; go_simp; (try with_reducible rfl)
              try simp only [List.getElem_toArray, List.getElem_cons_zero, List.getElem_cons_succ, Act.put, List.setIfInBounds_toArray, List.set_cons_zero, List.set_cons_succ]
              refine wpAnyH_take (i := 24) (v := ?_) rfl (by kernel_rfl) (by kernel_rfl) (by kernel_rfl) (fun _ _ _ h => h) (Or.inl ⟨by go_simp, ?hy⟩) HS ?_
              case hy => intro W hW; go_simp; (try with_reducible rfl)
              try simp only [List.getElem_toArray, List.getElem_cons_zero, List.getElem_cons_succ, Act.put, List.setIfInBounds_toArray, List.set_cons_zero, List.set_cons_succ]
              refine wpAnyH_take (i := 25) (v := .int .i64 (z : Int)) rfl (by kernel_rfl) (by kernel_rfl) (by kernel_rfl) (fun _ _ _ h => h) (Or.inl ⟨by go_simp, fun W hW => by go_simp; (rw [IntKind.wrap_i64]; omega)⟩) HS ?_
              try simp only [List.getElem_toArray, List.getElem_cons_zero, List.getElem_cons_succ, Act.put, List.setIfInBounds_toArray, List.set_cons_zero, List.set_cons_succ]
              refine wpAnyH_take (i := 26) (v := .bool false) rfl (by kernel_rfl) (by kernel_rfl) (by kernel_rfl) (fun _ _ _ h => h) (Or.inl ⟨by go_simp, fun W hW => by go_simp; (try omega)⟩) HS ?_
              try simp only [List.getElem_toArray, List.getElem_cons_zero, List.getElem_cons_succ, Act.put, List.setIfInBounds_toArray, List.set_cons_zero, List.set_cons_succ]
              refine wpAnyH_take (i := 27) (v := ?_) rfl (by kernel_rfl) (by kernel_rfl) (by kernel_rfl) (fun _ _ _ h => h) (Or.inl ⟨by go_simp, ?hy⟩) HS ?_
              case hy => intro W hW; go_simp; (try with_reducible rfl)
              try simp only [List.getElem_toArray, List.getElem_cons_zero, List.getElem_cons_succ, Act.put, List.setIfInBounds_toArray, List.set_cons_zero, List.set_cons_succ]
              refine wpAnyH_take (i := 28) (v := ?_) rfl (by kernel_rfl) (by kernel_rfl) (by kernel_rfl) (fun _ _ _ h => h) (Or.inl ⟨by go_simp, ?hy⟩) HS ?_
              case hy => intro W hW; go_simp; (try with_reducible rfl)
              try simp only [List.getElem_toArray, List.getElem_cons_zero, List.getElem_cons_succ, Act.put, List.setIfInBounds_toArray, List.set_cons_zero, List.set_cons_succ]
              refine wpAnyH_take (i := 29) (v := ?_) rfl (by kernel_rfl) (by kernel_rfl) (by kernel_rfl) (fun _ _ _ h => h) (Or.inl ⟨by go_simp, ?hy⟩) HS ?_
              case hy => intro W hW; go_simp; (try with_reducible rfl)
              try simp only [List.getElem_toArray, List.getElem_cons_zero, List.getElem_cons_succ, Act.put, List.setIfInBounds_toArray, List.set_cons_zero, List.set_cons_succ]
              refine wpAnyH_take (i := 30) (v := ?_) rfl (by kernel_rfl) (by kernel_rfl) (by kernel_rfl) (fun _ _ _ h => h) (Or.inl ⟨by go_simp, ?hy⟩) HS ?_
              case hy => intro W hW; go_simp; (try with_reducible rfl)
              try simp only [List.getElem_toArray, List.getElem_cons_zero, List.getElem_cons_succ, Act.put, List.setIfInBounds_toArray, List.set_cons_zero, List.set_cons_succ]
              refine wpAnyH_take (i := 31) (v := ?_) rfl (by kernel_rfl) (by kernel_rfl) (by kernel_rfl) (fun _ _ _ h => h) (Or.inl ⟨by go_simp, ?hy⟩) HS ?_
              case hy => intro W hW; go_simp; (try with_reducible rfl)
              try simp only [List.getElem_toArray, List.getElem_cons_zero, List.getElem_cons_succ, Act.put, List.setIfInBounds_toArray, List.set_cons_zero, List.set_cons_succ]
              refine wpAnyH_take (i := 32) (v := ?_) rfl (by kernel_rfl) (by kernel_rfl) (by kernel_rfl) (fun _ _ _ h => h) (Or.inl ⟨by go_simp, ?hy⟩) HS ?_
              case hy => intro W hW; go_simp; (try with_reducible rfl)
              try simp only [List.getElem_toArray, List.getElem_cons_zero, List.getElem_cons_succ, Act.put, List.setIfInBounds_toArray, List.set_cons_zero, List.set_cons_succ]
              refine wpAnyH_take (i := 33) (v := ?_) rfl (by kernel_rfl) (by kernel_rfl) (by kernel_rfl) (fun _ _ _ h => h) (Or.inl ⟨by go_simp, ?hy⟩) HS ?_
              case hy => intro W hW; have c := dk1 W hW; go_simp; (try with_reducible rfl)
              try simp only [List.getElem_toArray, List.getElem_cons_zero, List.getElem_cons_succ, Act.put, List.setIfInBounds_toArray, List.set_cons_zero, List.set_cons_succ]
              refine wpAnyH_take (i := 34) (v := ?_) rfl (by kernel_rfl) (by kernel_rfl) (by kernel_rfl) (fun _ _ _ h => h) (Or.inl ⟨by go_simp, ?hy⟩) HS ?_
              case hy => intro W hW; go_simp; (try with_reducible rfl)
              try simp only [List.getElem_toArray, List.getElem_cons_zero, List.getElem_cons_succ, Act.put, List.setIfInBounds_toArray, List.set_cons_zero, List.set_cons_succ]
              refine wpAnyH_take (i := 35) (v := .slice (some ⟨g, posO L k + 2, none⟩) m ln) rfl (by kernel_rfl) (by kernel_rfl) (by kernel_rfl) (fun _ _ _ h => h) (Or.inl ⟨by go_simp, fun W hW => by go_simp⟩) HS ?_
              try simp only [List.getElem_toArray, List.getElem_cons_zero, List.getElem_cons_succ, Act.put, List.setIfInBounds_toArray, List.set_cons_zero, List.set_cons_succ]
              refine wpAnyH_take (i := 36) (v := ?_) rfl (by kernel_rfl) (by kernel_rfl) (by kernel_rfl) (fun _ _ _ h => h) (Or.inl ⟨by go_simp, ?hy⟩) HS ?_
              case hy => intro W hW; go_simp; (try with_reducible rfl)
              try simp only [List.getElem_toArray, List.getElem_cons_zero, List.getElem_cons_succ, Act.put, List.setIfInBounds_toArray, List.set_cons_zero, List.set_cons_succ]
              refine wpAnyH_take (i := 37) (v := ?_) rfl (by kernel_rfl) (by kernel_rfl) (by kernel_rfl) (fun _ _ _ h => h) (Or.inl ⟨by go_simp, ?hy⟩) HS ?_
              case hy => intro W hW; go_simp; (try with_reducible rfl)
              try simp only [List.getElem_toArray, List.getElem_cons_zero, List.getElem_cons_succ, Act.put, List.setIfInBounds_toArray, List.set_cons_zero, List.set_cons_succ]
              refine wpAnyH_take (i := 38) (v := ?_) rfl (by kernel_rfl) (by kernel_rfl) (by kernel_rfl) (fun _ _ _ h => h) (Or.inl ⟨by go_simp, ?hy⟩) HS ?_
              case hy => intro W hW; go_simp; (try with_reducible rfl)
              try simp only [List.getElem_toArray, List.getElem_cons_zero, List.getElem_cons_succ, Act.put, List.setIfInBounds_toArray, List.set_cons_zero, List.set_cons_succ]
              refine wpAnyH_take (i := 39) (v := ?_) rfl (by kernel_rfl) (by kernel_rfl) (by kernel_rfl) (fun _ _ _ h => h) (Or.inl ⟨by go_simp, ?hy⟩) HS ?_
              case hy => intro W hW; go_simp; (try with_reducible rfl)
              try simp only [List.getElem_toArray, List.getElem_cons_zero, List.getElem_cons_succ, Act.put, List.setIfInBounds_toArray, List.set_cons_zero, List.set_cons_succ]
              refine wpAnyH_take (i := 40) (v := ?_) rfl (by kernel_rfl) (by kernel_rfl) (by kernel_rfl) (fun _ _ _ h => h) (Or.inl ⟨by go_simp, ?hy⟩) HS ?_
              case hy => intro W hW; have c := ck1 W hW; go_simp; (try with_reducible rfl)
              try simp only [List.getElem_toArray, List.getElem_cons_zero, List.getElem_cons_succ, Act.put, List.setIfInBounds_toArray, List.set_cons_zero, List.set_cons_succ]
              refine wpAnyH_take (i := 41) (v := ?_) rfl (by kernel_rfl) (by kernel_rfl) (by kernel_rfl) (fun _ _ _ h => h) (Or.inl ⟨by go_simp, ?hy⟩) HS ?_
              case hy => intro W hW; go_simp; (try with_reducible rfl)
              try simp only [List.getElem_toArray, List.getElem_cons_zero, List.getElem_cons_succ, Act.put, List.setIfInBounds_toArray, List.set_cons_zero, List.set_cons_succ]
              refine wpAnyH_take (i := 42) (v := .slice x.adr m x.cap) rfl (by kernel_rfl) (by kernel_rfl) (by kernel_rfl) (fun _ _ _ h => h) (Or.inl ⟨by go_simp, fun W hW => by go_simp⟩) HS ?_
              try simp only [List.getElem_toArray, List.getElem_cons_zero, List.getElem_cons_succ, Act.put, List.setIfInBounds_toArray, List.set_cons_zero, List.set_cons_succ]
              refine wpAnyH_ready (rs := [43]) (by kernel_rfl) (by simp) ?_
              refine AllReadyH.cons rfl (fun K hK => ?_) AllReadyH.nil
              rw [if_pos (by kernel_rfl)]
              simp only [List.getElem_toArray, List.getElem_cons_zero, List.getElem_cons_succ]
              go_simp
              refine (H19.out _ HS).mono ?_
              rintro e w5 ⟨rfl, j5, rfl⟩
              refine hK.out _ _ (⟨HS.1.step (below_drewN (Below.refl _ _) _), below_drewN HS.2 _⟩) (fun HS => ?_)
              clear hK
              try simp only [List.getElem_toArray, List.getElem_cons_zero, List.getElem_cons_succ, Act.put, List.setIfInBounds_toArray, List.set_cons_zero, List.set_cons_succ]
              refine wpAnyH_take (i := 44) (v := ?_) rfl (by kernel_rfl) (by kernel_rfl) (by kernel_rfl) (fun _ _ _ h => h) (Or.inl ⟨by go_simp, ?hy⟩) HS ?_
              case hy => intro W hW; go_simp; (try with_reducible rfl)
              try simp only [List.getElem_toArray, List.getElem_cons_zero, List.getElem_cons_succ, Act.put, List.setIfInBounds_toArray, List.set_cons_zero, List.set_cons_succ]
              refine wpAnyH_take (i := 45) (v := ?_) rfl (by kernel_rfl) (by kernel_rfl) (by kernel_rfl) (fun _ _ _ h => h) (Or.inl ⟨by go_simp, ?hy⟩) HS ?_
              case hy => intro W hW; go_simp; (try with_reducible rfl)
              try simp only [List.getElem_toArray, List.getElem_cons_zero, List.getElem_cons_succ, Act.put, List.setIfInBounds_toArray, List.set_cons_zero, List.set_cons_succ]
              refine wpAnyH_take (i := 46) (v := ?_) rfl (by kernel_rfl) (by kernel_rfl) (by kernel_rfl) (fun _ _ _ h => h) (Or.inl ⟨by go_simp, ?hy⟩) HS ?_
              case hy => intro W hW; go_simp; (try with_reducible rfl)
              try simp only [List.getElem_toArray, List.getElem_cons_zero, List.getElem_cons_succ, Act.put, List.setIfInBounds_toArray, List.set_cons_zero, List.set_cons_succ]
              refine wpAnyH_take (i := 47) (v := ?_) rfl (by kernel_rfl) (by kernel_rfl) (by kernel_rfl) (fun _ _ _ h => h) (Or.inl ⟨by go_simp, ?hy⟩) HS ?_
              case hy => intro W hW; go_simp; (try with_reducible rfl)
              try simp only [List.getElem_toArray, List.getElem_cons_zero, List.getElem_cons_succ, Act.put, List.setIfInBounds_toArray, List.set_cons_zero, List.set_cons_succ]
              refine wpAnyH_take (i := 48) (v := ?_) rfl (by kernel_rfl) (by kernel_rfl) (by kernel_rfl) (fun _ _ _ h => h) (Or.inl ⟨by go_simp, ?hy⟩) HS ?_
              case hy => intro W hW; go_simp; (try with_reducible rfl)
              try simp only [List.getElem_toArray, List.getElem_cons_zero, List.getElem_cons_succ, Act.put, List.setIfInBounds_toArray, List.set_cons_zero, List.set_cons_succ]
              refine wpAnyH_take (i := 49) (v := ?_) rfl (by kernel_rfl) (by kernel_rfl) (by kernel_rfl) (fun _ _ _ h => h) (Or.inl ⟨by go_simp, ?hy⟩) HS ?_
              case hy => intro W hW; go_simp; (try with_reducible rfl)
              try simp only [List.getElem_toArray, List.getElem_cons_zero, List.getElem_cons_succ, Act.put, List.setIfInBounds_toArray, List.set_cons_zero, List.set_cons_succ]
              refine wpAnyH_take (i := 50) (v := ?_) rfl (by kernel_rfl) (by kernel_rfl) (by kernel_rfl) (fun _ _ _ h => h) (Or.inl ⟨by go_simp, ?hy⟩) HS ?_
              case hy => intro W hW; go_simp; (try with_reducible rfl)
              try simp only [List.getElem_toArray, List.getElem_cons_zero, List.getElem_cons_succ, Act.put, List.setIfInBounds_toArray, List.set_cons_zero, List.set_cons_succ]
              refine wpAnyH_take (i := 51) (v := ?_) rfl (by kernel_rfl) (by kernel_rfl) (by kernel_rfl) (fun _ _ _ h => h) (Or.inl ⟨by go_simp, ?hy⟩) HS ?_
              case hy => intro W hW; have c := dk1 W hW; go_simp; (try with_reducible rfl)
              try simp only [List.getElem_toArray, List.getElem_cons_zero, List.getElem_cons_succ, Act.put, List.setIfInBounds_toArray, List.set_cons_zero, List.set_cons_succ]
              refine wpAnyH_take (i := 52) (v := ?_) rfl (by kernel_rfl) (by kernel_rfl) (by kernel_rfl) (fun _ _ _ h => h) (Or.inl ⟨by go_simp, ?hy⟩) HS ?_
              case hy => intro W hW; go_simp; (try with_reducible rfl)
              try simp only [List.getElem_toArray, List.getElem_cons_zero, List.getElem_cons_succ, Act.put, List.setIfInBounds_toArray, List.set_cons_zero, List.set_cons_succ]
              refine wpAnyH_take (i := 53) (v := .slice (some ⟨g, a5, none⟩) z z) rfl (by kernel_rfl) (by kernel_rfl) (by kernel_rfl) (fun _ _ _ h => h) (Or.inl ⟨by go_simp, fun W hW => by go_simp; (rw [← HA5.out]; split <;> rfl)⟩) HS ?_
              try simp only [List.getElem_toArray, List.getElem_cons_zero, List.getElem_cons_succ, Act.put, List.setIfInBounds_toArray, List.set_cons_zero, List.set_cons_succ]
              refine wpAnyH_take (i := 54) (v := ?_) rfl (by kernel_rfl) (by kernel_rfl) (by kernel_rfl) (fun _ _ _ h => h) (Or.inl ⟨by go_simp, ?hy⟩) HS ?_
              case hy => intro W hW; go_simp; (try with_reducible rfl)
              try simp only [List.getElem_toArray, List.getElem_cons_zero, List.getElem_cons_succ, Act.put, List.setIfInBounds_toArray, List.set_cons_zero, List.set_cons_succ]
              refine wpAnyH_take (i := 55) (v := ?_) rfl (by kernel_rfl) (by kernel_rfl) (by kernel_rfl) (fun _ _ _ h => h) (Or.inl ⟨by go_simp, ?hy⟩) HS ?_
              case hy => intro W hW; go_simp; (try with_reducible rfl)
              try simp only [List.getElem_toArray, List.getElem_cons_zero, List.getElem_cons_succ, Act.put, List.setIfInBounds_toArray, List.set_cons_zero, List.set_cons_succ]
              refine wpAnyH_take (i := 56) (v := .int .i64 (z : Int)) rfl (by kernel_rfl) (by kernel_rfl) (by kernel_rfl) (fun _ _ _ h => h) (Or.inl ⟨by go_simp, fun W hW => by go_simp; (rw [IntKind.wrap_i64]; omega)⟩) HS ?_
              try simp only [List.getElem_toArray, List.getElem_cons_zero, List.getElem_cons_succ, Act.put, List.setIfInBounds_toArray, List.set_cons_zero, List.set_cons_succ]
              refine wpAnyH_ready (rs := [57]) (by kernel_rfl) (by simp) ?_
              refine AllReadyH.cons rfl (fun K hK => ?_) AllReadyH.nil
              rw [if_pos (by kernel_rfl)]
              simp only [List.getElem_toArray, List.getElem_cons_zero, List.getElem_cons_succ]
              go_simp
              have hS9 : KB w (wc.drewN (1 + j5)) (some ⟨b, o, none⟩) L gm g ∧ Below w3.heap.size w3 (wc.drewN (1 + j5)) := ⟨HK.out.step (below_drewN (Below.refl _ _) _), below_drewN HBB.out _⟩
              have H58 := Lib.hid (H20.out _ hS9)
              refine hK.out _ _ ⟨hS9.1.step ((Below.refl _ _).alloc (Nat.le_refl _) _), hS9.2.alloc hS9.2.size _⟩ (fun HS => ?_)
              clear hS9
              clear hK
              try simp only [List.getElem_toArray, List.getElem_cons_zero, List.getElem_cons_succ, Act.put, List.setIfInBounds_toArray, List.set_cons_zero, List.set_cons_succ]
              refine wpAnyH_ready (rs := [58]) (by kernel_rfl) (by simp) ?_
              refine AllReadyH.cons rfl (fun K hK => ?_) AllReadyH.nil
              rw [if_pos (by kernel_rfl)]
              simp only [List.getElem_toArray, List.getElem_cons_zero, List.getElem_cons_succ]
              go_simp
              refine (H58.out).mono ?_
              rintro e w6 ⟨rfl, j6, rfl⟩
              refine hK.out _ _ (⟨HS.1.step (below_drewN (Below.refl _ _) _), below_drewN HS.2 _⟩) (fun HS => ?_)
              clear hK
              try simp only [List.getElem_toArray, List.getElem_cons_zero, List.getElem_cons_succ, Act.put, List.setIfInBounds_toArray, List.set_cons_zero, List.set_cons_succ]
              refine wpAnyH_take (i := 59) (v := ?_) rfl (by kernel_rfl) (by kernel_rfl) (by kernel_rfl) (fun _ _ _ h => h) (Or.inl ⟨by go_simp, ?hy⟩) HS ?_
              case hy => intro W hW; go_simp; (try with_reducible rfl)
              try simp only [List.getElem_toArray, List.getElem_cons_zero, List.getElem_cons_succ, Act.put, List.setIfInBounds_toArray, List.set_cons_zero, List.set_cons_succ]
              refine wpAnyH_take (i := 60) (v := ?_) rfl (by kernel_rfl) (by kernel_rfl) (by kernel_rfl) (fun _ _ _ h => h) (Or.inl ⟨by go_simp, ?hy⟩) HS ?_
              case hy => intro W hW; go_simp; (try with_reducible rfl)
              try simp only [List.getElem_toArray, List.getElem_cons_zero, List.getElem_cons_succ, Act.put, List.setIfInBounds_toArray, List.set_cons_zero, List.set_cons_succ]
              refine wpAnyH_done (by kernel_rfl) ?_ _
              go_wp2_with fail
              go_meet
              case rel => exact ⟨rfl, HS⟩
            case rest =>
              obtain ⟨rfl, hK9, hB9⟩ := hcut
              have HR := Lib.hid (And.intro hK9 hB9)
              clear hK9 hB9
              go_wp2_with fail
              go_roundw
              case rel => exact ⟨k + 1, by omega, by go_num, by rw [HLA.out]; go_num, HR.out.1, HR.out.2⟩
              case measure => simp [intOf]; omega
        · have e : k = n := by omega
          subst e
          by_cases h0 : k = 0
          · have hq0 : q = 0 := by
              have h1 : L = [] := List.eq_nil_of_length_eq_zero (by rw [HN.out]; exact h0)
              rw [← HQ.out, h1]; rfl
            have e1 : ((k : Int) == 0) = true := by rw [beq_iff_eq]; omega
            have e2 : ((q : Int) == 0) = true := by rw [beq_iff_eq]; omega
            clear h0 hq0
            go_wp2_with fail
            refine (lives8 _).mono ?_
            rintro e w4 ⟨rfl, b4⟩
            have HB := Lib.hid (HK.out.below.trans (b4.mono HK.out.below.size))
            clear b4
            go_wp2_with fail
            go_ret
            exact ⟨rfl, HB.out⟩
          · obtain ⟨i, hi⟩ : ∃ i, k = i + 1 := ⟨k - 1, by omega⟩
            obtain ⟨x, hx⟩ : ∃ x, L[i]? = some x := ⟨L[i]'(by rw [HN.out]; omega), List.getElem?_eq_getElem _⟩
            have hE := eights_bd x.data.length
            obtain ⟨la, hla⟩ : ∃ la, lastO L k = la := ⟨_, rfl⟩
            have hla2 : la = 8 * eightsO x.data.length := by rw [← hla, hi, lastO_succ hx]
            have hps : posO L i + la = q := by
              have := posO_succ hx
              rw [← HQ.out, ← posO_all, HN.out, hi, this, hla2]
            have hla8 : 8 ≤ la := by omega
            obtain ⟨j, hj⟩ : ∃ j, cut % (la - 1) = j := ⟨_, rfl⟩
            have hjl : j < la - 1 := by rw [← hj]; exact Nat.mod_lt _ (by omega)
            obtain ⟨r, hr⟩ : ∃ r, q - 1 - j = r := ⟨_, rfl⟩
            have hcutn := back_cut (q := r) (by rw [HN.out]; exact hi) (by omega) hx (by rw [HQ.out]; omega) (by omega)
            have hrl : ((putB L).take r).length = r := by rw [List.length_take, HQ.out]; omega
            have HBT : Hid (Bs wr w2.heap.size A1 q ((putB L).take r)) := Lib.hid ((HBS3.out.below HBB3.out).take r)
            have h256r : ∀ y ∈ (putB L).take r, y < 256 := fun y hy => H256.out y (List.mem_of_mem_take hy)
            have HGT := Lib.hid (get10 wr HBT.out (by rw [hrl]; omega) h256r)
            rw [hrl] at HGT
            have HCN := Lib.hid hcutn
            have e1 : ((k : Int) == 0) = false := by rw [beq_eq_false_iff_ne]; omega
            have ez : (cut : Int) % ((la : Int) - 1) = (j : Int) := by rw [show (la : Int) - 1 = ((la - 1 : Nat) : Int) by omega, ← hj]; rfl
            have el : wrap64 ((la : Int) - 1) = (la : Int) - 1 := by unfold wrap64; omega
            have er : wrap64 ((q : Int) - 1 - (j : Int)) = (r : Int) := by unfold wrap64; omega
            have hrq : r ≤ q := by omega
            rw [hla]
            clear hcutn hrl h256r hj hr hla hla2 hps hx hE hi h0
            go_wp2_with fail
            refine (HGT.out).mono ?_
            rintro e w5 ⟨b5, h5⟩
            have HB5 := Lib.hid (HK.out.below.trans (b5.mono HK.out.below.size))
            clear b5 er el ez
            rcases h5 with ⟨-, rfl⟩ | ⟨R, g2, cg2, A5, hR5, rfl, -, -⟩
            · go_wp2_with fail
              refine (lives8 _).mono ?_
              rintro e w6 ⟨rfl, b6⟩
              have HB := Lib.hid (HB5.out.trans (b6.mono HB5.out.size))
              clear b6
              go_wp2_with fail
              go_ret
              exact ⟨rfl, HB.out⟩
            · exact absurd (HCN.out.symm.trans hR5) (by simp)
  · go_wp2_with fail
    refine (lives8 _).mono ?_
    rintro e w2 ⟨rfl, b2⟩
    have HB := Lib.hid b2
    clear b2
    go_wp2_with fail
    go_ret
    exact ⟨rfl, HB.out⟩
end Go.Proofs.YtfolamkjlgpgmaaDoor
